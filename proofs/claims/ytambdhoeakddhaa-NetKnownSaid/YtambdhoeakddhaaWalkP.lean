/- The walk over New. -/
import Derived.Test.YtambdhoeakddhaaWalkO
import Derived.Conc.SmallLaws
namespace Go.Proofs.Ytambdhoeakddhaa
open Go Go.RowKit Go.Conc
set_option linter.unusedVariables false

/-- A net that is being made: m boxes so far. -/
structure Making (w : World) (B b : Nat) (bv : Value) (m : Nat) (cs : Nat → Nat) : Prop where
  head : w.heap[b]? = some (.cells #[.slice none 0 0, bv] 63 (0, 0))
  row : w.ownsRow B 60 1 bv m ((List.range m).map fun j => Value.chan (some (cs j)))
  chans : ∀ j, j < m → ∃ s r, w.heap[cs j]? = some (.chan 32 #[] false s r false)
  sep : ∀ i j, i < m → j < m → cs i = cs j → i = j
  geb : B ≤ b
  gec : ∀ j, j < m → B ≤ cs j
def clampE (x : Int) : Nat := (min (max x 1) 64).toNat

theorem info32bytes : (Try.prog.info? 33).map (·.bytes) = some 40 := by kernel_rfl
theorem run_make60 (w : World) : (Instr.makeChan 60 (.int .i64 32)).run Try.prog w = .ok (.chan (some w.heap.size)) (w.alloc (.chan 32 #[] false 0 0 false)) := by
  obtain ⟨i, hi, hb⟩ := Option.map_eq_some_iff.1 info32bytes
  simpa using run_makeChan (P := Try.prog) (w := w) Try.underlying60 hi .i64 32 (by omega) (by rw [hb]; omega)
theorem Try.info60 : (Try.prog.info? 60).map (fun i => (i.zero, i.size, i.bytes)) = some (some (.chan none), 1, 8) := by kernel_rfl

theorem Making.kept {w w' : World} {B b m : Nat} {bv : Value} {cs : Nat → Nat} (h : Making w B b bv m cs) (hb : Below w.heap.size w w') : Making w' B b bv m cs :=
  ⟨(hb.block _ (block_lt h.head)).trans h.head, owns_same h.row fun g cur _ h2 => hb.block _ (block_lt h2), fun j hj => by
    obtain ⟨s, r, h1⟩ := h.chans j hj
    exact ⟨s, r, (hb.block _ (block_lt h1)).trans h1⟩, h.sep, h.geb, h.gec⟩
theorem Making.slice {w : World} {B b m : Nat} {bv : Value} {cs : Nat → Nat} (h : Making w B b bv m cs) : ∃ a c, bv = .slice a m c := by
  rcases h.row.2 with ⟨rfl, hn⟩ | ⟨g, c, cur, rfl, _⟩
  · exact ⟨none, 0, by rw [hn]⟩
  · exact ⟨_, _, rfl⟩
theorem Making.ne {w : World} {B b m : Nat} {bv : Value} {cs : Nat → Nat} (h : Making w B b bv m cs) {k : Nat} {o : Obj} (hk : w.heap[k]? = some o) (ho : ∀ cur, o ≠ .cells cur 60 (0, 0)) : some k ≠ bv.ownBlock := by
  rcases h.row.2 with ⟨rfl, hn⟩ | ⟨g, c, cur, rfl, _, hg, _⟩
  · simp [Value.ownBlock]
  · simp only [Value.ownBlock, ne_eq, Option.some.injEq]
    rintro rfl
    rw [hg] at hk
    exact ho cur (Option.some.inj hk).symm
theorem Making.step {w W w3 : World} {B b m c : Nat} {bv v' : Value} {cs : Nat → Nat} (h : Making w B b bv m cs) (hB : B ≤ w.heap.size) (hb : Below w.heap.size w W) (hc : W.heap[c]? = some (.chan 32 #[] false 0 0 false)) (hcs : w.heap.size ≤ c)
    (hg : W.grownBy w3 bv.ownBlock) (ho : w3.ownsRow B 60 1 v' (m + 1) (((List.range m).map fun j => Value.chan (some (cs j))) ++ [.chan (some c)])) :
    Making (w3.setCell ⟨b, 1, none⟩ v') B b v' (m + 1) (fun j => if j = m then c else cs j) := by
  have h2 := h.kept hb
  have hr : ∀ k o, W.heap[k]? = some o → (∀ cur, o ≠ Obj.cells cur 60 (0, 0)) → w3.heap[k]? = some o := fun k o hk hT => (hg.block k (block_lt hk) (h2.ne hk hT)).trans hk
  have hh := hr b _ h2.head (fun cur e => by simp at e)
  have hs : ∀ k, k ≠ b → (w3.setCell ⟨b, 1, none⟩ v').heap[k]? = w3.heap[k]? := fun k hk => heap_setCell_other w3 ⟨b, 1, none⟩ k v' hk
  have hlt : ∀ j, j < m → cs j < w.heap.size := fun j hj => by obtain ⟨s, r, h1⟩ := h.chans j hj; exact block_lt h1
  refine ⟨by rw [heap_setCell_same w3 b 1 _ 63 v' hh]; rfl, ?_, fun j hj => ?_, fun i j hi hj => ?_, h.geb, fun j hj => ?_⟩
  · have : (List.range (m + 1)).map (fun j => Value.chan (some (if j = m then c else cs j))) = ((List.range m).map fun j => Value.chan (some (cs j))) ++ [.chan (some c)] := by
      rw [List.range_succ, List.map_append]
      congr 1
      · exact List.map_congr_left fun j hj => by rw [if_neg (by have := List.mem_range.1 hj; omega)]
      · simp
    rw [this]
    exact owns_same ho fun g cur _ hg' => hs g (fun e => by subst e; rw [hh] at hg'; simp at hg')
  · by_cases e : j = m
    · refine ⟨0, 0, ?_⟩
      simp only [e, if_true]
      rw [hs c (fun e => by have := block_lt h.head; omega)]
      exact hr c _ hc (fun cur e => by simp at e)
    · obtain ⟨s, r, h1⟩ := h2.chans j (by omega)
      refine ⟨s, r, ?_⟩
      simp only [if_neg e]
      rw [hs _ (fun e => by rw [e, h2.head] at h1; simp at h1)]
      exact hr _ _ h1 (fun cur e => by simp at e)
  · by_cases e1 : i = m <;> by_cases e2 : j = m
    · intro _; omega
    · rw [if_pos e1, if_neg e2]; intro e; have := hlt j (by omega); omega
    · rw [if_neg e1, if_pos e2]; intro e; have := hlt i (by omega); omega
    · rw [if_neg e1, if_neg e2]; exact h.sep i j (by omega) (by omega)
  · split
    · omega
    · exact h.gec j (by omega)
theorem Making.done {w : World} {B b m : Nat} {bv : Value} {cs : Nat → Nat} (h : Making w B b bv m cs) (h1 : 1 ≤ m) (h2 : m ≤ 64) : ∃ bx cap, NetAt w B b (.slice none 0 0) [] bx cap m cs (fun _ => []) := by
  obtain ⟨hl, ⟨_, hn⟩ | ⟨g, c, cur, rfl, hb, hg, hnc, hcm, hsz, htake⟩⟩ := h.row
  · omega
  · refine ⟨g, c, h.head, ⟨cur, hg, fun j hj => ?_⟩, fun j hj => h.chans j hj, h.sep, fun j hj => by simp, h1, h2, h.geb, h.gec, by simp, .inl ⟨rfl, rfl⟩⟩
    have e : (cur.toList.take (m * 1))[j]? = cur[j]? := by rw [List.getElem?_take_of_lt (by omega)]; simp
    rw [← e, htake]; simp [hj]

set_option maxRecDepth 8000 in
set_option maxHeartbeats 4000000 in
theorem new_any (x : Int) (w : World) : Calls Try.prog 18 #[.int .i64 x] w fun e w' => ∃ b bx cap cs, e = .returned (.pointer (some ⟨b, 0, none⟩)) ∧ NetAt w' w.heap.size b (.slice none 0 0) [] bx cap (clampE x) cs (fun _ => []) ∧ Below w.heap.size w w' := by
  obtain ⟨i0, hi, hz0, hz1, hz2⟩ := info_parts Try.info60
  have HI := Lib.hid hi
  have HZ0 := Lib.hid hz0
  have HZ1 := Lib.hid hz1
  have HZ2 := Lib.hid hz2
  clear hi hz0 hz1 hz2
  have hN : min (max x 1) 64 = ((clampE x : Nat) : Int) := by unfold clampE; omega
  have hN1 : 1 ≤ clampE x := by unfold clampE; omega
  have hN2 : clampE x ≤ 64 := by unfold clampE; omega
  have B0 : Below w.heap.size w (w.alloc (.cells #[.slice none 0 0, .slice none 0 0] 63)) := (Below.refl _ _).alloc (Nat.le_refl _) _
  have M0 : Making (w.alloc (.cells #[.slice none 0 0, .slice none 0 0] 63)) w.heap.size w.heap.size (.slice none 0 0) 0 (fun _ => 0) :=
    ⟨heap_alloc_new _ _, ⟨rfl, .inl ⟨rfl, rfl⟩⟩, fun j hj => absurd hj (by omega), fun i j hi => absurd hi (by omega), Nat.le_refl _, fun j hj => absurd hj (by omega)⟩
  obtain ⟨N, hNe⟩ : ∃ N, clampE x = N := ⟨_, rfl⟩
  rw [hNe] at hN hN1 hN2
  have HNE := Lib.hid hNe
  clear hNe
  have hmk := run_make60
  go_enter Try.func18, Try.ntmps18
  go_wp2
  clear hN
  go_loopw [9] (fun i wr => ∃ (m : Nat) (bv : Value) (cs : Nat → Nat), m ≤ N ∧ i = .int .i64 m ∧ Making wr w.heap.size w.heap.size bv m cs ∧ Below w.heap.size w wr)
    (fun i _ => N - (intOf i).toNat)
  case atStart => exact ⟨0, _, _, by omega, rfl, M0, B0⟩
  case round =>
    clear M0 B0
    obtain ⟨m, bv, cs, hm, rfl, hM, hBw⟩ := hrel
    by_cases hlt : m < N
    · have m0 : (0 : Int) ≤ (m : Int) := by omega
      have m1 : (m : Int) < (N : Int) := by omega
      obtain ⟨a0, c0, rfl⟩ := hM.slice
      have hbl := block_lt hM.head
      have hc := cell_of_row wr w.heap.size 1 _ 63 (0, 0) hM.head
      simp at hc
      have BA : Below wr.heap.size wr (wr.alloc (.chan 32 #[] false 0 0 false)) := (Below.refl _ _).alloc (Nat.le_refl _) _
      have BB : Below wr.heap.size wr ((wr.alloc (.chan 32 #[] false 0 0 false)).alloc (.cells #[.chan (some wr.heap.size)] 60)).drew := (BA.alloc (by simp) _).drew
      have hA := hM.kept BA
      have hB2 := hM.kept BB
      have hca := cell_of_row _ w.heap.size 1 _ 63 (0, 0) hA.head
      have hcb := cell_of_row _ w.heap.size 1 _ 63 (0, 0) hB2.head
      simp at hca hcb
      have hne := hB2.ne hB2.head (fun cur e => by simp at e)
      have hfb := frozen_of_row _ w.heap.size 1 _ 63 hB2.head
      have hch : ((wr.alloc (.chan 32 #[] false 0 0 false)).alloc (.cells #[.chan (some wr.heap.size)] 60)).drew.heap[wr.heap.size]? = some (.chan 32 #[] false 0 0 false) := by
        refine (Below.heap_alloc _ _ _ (by simp)).trans ?_; exact heap_alloc_new wr _
      have L1 : w.heap.size < ((wr.alloc (.chan 32 #[] false 0 0 false)).alloc (.cells #[.chan (some wr.heap.size)] 60)).drew.heap.size := (by simp; omega)
      have hnb : ((wr.alloc (.chan 32 #[] false 0 0 false)).alloc (.cells #[.chan (some wr.heap.size)] 60)).drew.heap[wr.heap.size + 1]? = some (.cells #[.chan (some wr.heap.size)] 60 (0, 0)) := by
        have := heap_alloc_new (wr.alloc (.chan 32 #[] false 0 0 false)) (.cells #[.chan (some wr.heap.size)] 60); rw [World.size_alloc] at this; exact this
      have HNB := Lib.hid hnb
      clear hnb
      have HM := Lib.hid hM
      have HB := Lib.hid hB2
      have HBB := Lib.hid BB
      have HBW := Lib.hid hBw
      have HCH := Lib.hid hch
      have wz : w.heap.size ≤ wr.heap.size := by omega
      clear hM hB2 hA BA BB hBw hch
      go_wp2_with fail
      go_region_law (refine step_append_lies _ (by rfl) _ _ 61 (by rfl) w.heap.size 60 i0 _ 1 8 Try.underlying61 HI.out HZ0.out HZ1.out HZ2.out rfl (by omega) _ m ((List.range m).map fun j => Value.chan (some (cs j))) (by rfl) HB.out.row ⟨wr.heap.size + 1, 0, none⟩ 1 1 [.chan (some wr.heap.size)] (by rfl) rfl (World.news_of_block (cs := #[.chan (some wr.heap.size)]) HNB.out) (by simp [Value.oneCell']) (by omega) (by unfold maxLen; omega) (by omega) (by simp; omega) (wr.heap.size + 2) (by simp) ?_; intro g cap' w3 hown3 hgrow hat hlt3; have f0 := (hgrow.cell_far ⟨w.heap.size, 1, none⟩ L1 hne).trans hcb; have f1 := (hgrow.frozen_far ⟨w.heap.size, 1, none⟩ L1 hne).trans hfb)
      all_goals
        have hS := HM.out.step wz HBB.out HCH.out (Nat.le_refl _) hgrow hown3
        have hBel : Below w.heap.size w (w3.setCell ⟨w.heap.size, 1, none⟩ (.slice (some ⟨g, 0, none⟩) (m + 1) cap')) :=
          ((HBW.out.trans (HBB.out.mono wz)).grown hgrow (Nat.le_of_lt L1) (fun r e => by
            rcases HB.out.row.2 with ⟨hv, _⟩ | ⟨g', c', cur', hv, hb', _⟩
            · rw [hv] at e; simp [Value.ownBlock] at e
            · rw [hv] at e; simp only [Value.ownBlock, Option.some.injEq] at e; omega)).setCell (Nat.le_refl _) _
        have FIN := Lib.hid (And.intro hS hBel)
        clear hS hBel
        go_wp2_with fail
        go_roundw
        case rel => exact ⟨m + 1, _, _, by omega, by go_num, FIN.out⟩
        case measure => simp [intOf]; omega
    · obtain rfl : m = N := by omega
      obtain ⟨bx, cap, hN⟩ := hM.done hN1 hN2
      rw [← HNE.out] at hN
      have FIN := Lib.hid hN
      clear hM
      go_wp2
      go_ret
      exact ⟨_, _, _, _, rfl, FIN.out, hBw⟩
end Go.Proofs.Ytambdhoeakddhaa
