/- The walk over Way. -/
import Derived.Test.YtambdhoeakddhaaWalkQ
namespace Go.Proofs.Ytambdhoeakddhaa
open Go Go.RowKit Go.Conc
set_option linter.unusedVariables false

theorem split_at {α : Type} (l : List α) (i : Nat) (h : i < l.length) : ∃ l1 m l2, l = l1 ++ m :: l2 ∧ l1.length = i :=
  ⟨l.take i, l[i], l.drop (i + 1), by rw [← List.drop_eq_getElem_cons h, List.take_append_drop], by simp; omega⟩
theorem take_next {α : Type} (m : α) (l2 : List α) : ∀ l1 : List α, (l1 ++ m :: l2).take (l1.length + 1) = (l1 ++ m :: l2).take l1.length ++ [m]
  | [] => by simp
  | x :: l1 => by simp only [List.cons_append, List.length_cons, List.take_succ_cons]; rw [take_next m l2 l1]
theorem ownBlock_ge {w : World} {B e size n : Nat} {v : Value} {xs : List Value} (h : w.ownsRow B e size v n xs) {r : Nat} (hr : v.ownBlock = some r) : B ≤ r := by
  rcases h.2 with ⟨rfl, _⟩ | ⟨g, cap, cur, rfl, hg, _⟩
  · simp [Value.ownBlock] at hr
  · simp [Value.ownBlock] at hr; omega
theorem ownBlock_33 {w : World} {B n : Nat} {v : Value} {xs : List Value} (h : w.ownsRow B 33 3 v n xs) {g : Nat} {cur : Array Value} {T : Nat} (hg : w.heap[g]? = some (Obj.cells cur T (0, 0))) (hT : T ≠ 33) : some g ≠ v.ownBlock := by
  rcases h.2 with ⟨rfl, _⟩ | ⟨g', cap, cur', rfl, _, hg', _⟩
  · simp [Value.ownBlock]
  · simp only [Value.ownBlock, ne_eq, Option.some.injEq]
    rintro rfl
    rw [hg'] at hg
    simp only [Option.some.injEq, Obj.cells.injEq] at hg
    exact hT hg.2.1.symm
theorem owns_slice {w : World} {B n : Nat} {v : Value} {xs : List Value} (h : w.ownsRow B 33 3 v n xs) : ∃ a c, v = .slice a n c := by
  rcases h.2 with ⟨rfl, hn⟩ | ⟨g, c, cur, rfl, _⟩
  · exact ⟨none, 0, by rw [hn]⟩
  · exact ⟨_, _, rfl⟩

/-- What Way hands out. -/
def Told (w0 : World) (e : Ending) (w' : World) (way : List Msg) : Prop :=
  ∃ v qs, e = .returned v ∧ w'.ownsRow w0.heap.size 33 3 v qs.length (qs.flatMap pcells) ∧ Rows w' w0.heap.size qs way ∧ Below w0.heap.size w0 w'

section
variable {w w' : World} {B b bx cap n : Nat} {vw : Value} {ps : List PV} {cs : Nat → Nat} {bufs : Nat → List PV}
set_option maxRecDepth 8000 in
set_option maxHeartbeats 4000000 in
theorem way_raw {way : List Msg} (h : NetAt w B b vw ps bx cap n cs bufs) (hr : Rows w B ps way) (hlen : ps.length ≤ 256) :
    Calls Try.prog 10 #[.pointer (some ⟨b, 0, none⟩)] w fun e w' => Told w e w' way := by
  obtain ⟨i0, hi, hz0, hz1, hz2⟩ := info_parts Try.info33
  have HI := Lib.hid hi
  have HZ0 := Lib.hid hz0
  have HZ1 := Lib.hid hz1
  have HZ2 := Lib.hid hz2
  clear hi hz0 hz1 hz2
  have hc := h.c0
  obtain ⟨a0, c0, rfl⟩ := way_slice h
  have H := Lib.hid h
  have HR := Lib.hid hr
  have hpl := hr.len
  clear h hr
  obtain ⟨L, hL⟩ : ∃ L, ps.length = L := ⟨_, rfl⟩
  rw [hL] at hc hlen hpl
  have HLL := Lib.hid hL
  have HPL := Lib.hid hpl
  have hHv : NetAt w B b (.slice a0 L c0) ps bx cap n cs bufs := hL ▸ H.out
  have HV := Lib.hid hHv
  clear hL hHv H hpl
  unfold Told
  go_enter Try.func10, Try.ntmps10
  go_wp2
  go_loopw [2, 12] (fun v i wr => ∃ (k : Nat) (qs : List PV), k ≤ L ∧ i = .int .i64 k ∧ qs.length = k ∧ wr.ownsRow w.heap.size 33 3 v k (qs.flatMap pcells) ∧ Rows wr w.heap.size qs (way.take k) ∧ Below w.heap.size w wr)
    (fun _ i _ => L - (intOf i).toNat)
  case atStart => exact ⟨0, [], by omega, rfl, rfl, ⟨rfl, .inl ⟨rfl, rfl⟩⟩, trivial, Below.refl _ _⟩
  case round =>
    obtain ⟨k, qs, hk, rfl, hqk, hown, hrows, hBw⟩ := hrel
    by_cases hlt : k < L
    · have k0 : (0 : Int) ≤ (k : Int) := by omega
      have k1 : (k : Int) < (L : Int) := by omega
      obtain ⟨m1, m, m2, hme, hml⟩ := split_at way k (by have := HPL.out; omega)
      have hrs := HR.out
      rw [hme] at hrs
      obtain ⟨q1, p, q2, hpe, hq1, _, hp, _⟩ := hrs.split
      have hv' := HV.out
      rw [hpe] at hv'
      obtain ⟨g, c, hve, x0, x1, x2⟩ := way_cells hv'
      rw [hq1, hml] at x0 x1 x2
      simp only [Value.slice.injEq] at hve
      obtain ⟨rfl, hLq, rfl⟩ := hve
      clear hLq
      have y0 := (hBw.cell (World.block_lt_of_cell? w _ x0)).trans x0
      have y1 := (hBw.cell (World.block_lt_of_cell? w _ x1)).trans x1
      have y2 := (hBw.cell (World.block_lt_of_cell? w _ x2)).trans x2
      have hgl := Nat.lt_of_lt_of_le (World.block_lt_of_cell? w _ x0) hBw.size
      have t5 := tri (show (wr.alloc (.cells #[.int .i64 p.src, .int .i64 p.dst, .slice p.a p.len p.cap] 33)).heap[wr.heap.size]? = some (.cells #[.int .i64 p.src, .int .i64 p.dst, .slice p.a p.len p.cap] 33 (0, 0)) from heap_alloc_new _ _)
      have b5 : Below wr.heap.size wr (wr.alloc (.cells #[.int .i64 p.src, .int .i64 p.dst, .slice p.a p.len p.cap] 33)) := (Below.refl _ _).alloc (Nat.le_refl _) _
      have HT := Lib.hid (show way.take (k + 1) = way.take k ++ [m] by
        rw [hme, ← hml]; exact take_next m m2 m1)
      have HP := Lib.hid (hp.own.reads.kept (hBw.mono (Nat.le_refl _)))
      have HPO := Lib.hid (And.intro hp.src hp.dst)
      have HQ := Lib.hid hqk
      have HO := Lib.hid hown
      have HRW := Lib.hid hrows
      have HBW := Lib.hid hBw
      have hwz := hBw.size
      clear hown hrows hBw hme hml hrs hpe hq1 hp hv' x0 x1 x2 hqk hc
      obtain ⟨_, a50, a51, a52, b50, b51, b52⟩ := t5
      go_wp2_with fail
      generalize wr.alloc (.cells #[.int .i64 p.src, .int .i64 p.dst, .slice p.a p.len p.cap] 33) = w5 at *
      have z5 := b5.size
      refine (again_raw w5 p m.xs (HP.out.kept b5)).mono ?_
      rintro e w6 ⟨a', c', rfl, hown6, hB6⟩
      have z6 := hB6.size
      have BW : Below wr.heap.size wr w6 := b5.trans (hB6.mono z5)
      have BW7 : Below wr.heap.size wr (w6.alloc (.cells #[.int .i64 p.src, .int .i64 p.dst, .slice a' p.len c'] 33)) := BW.alloc (by omega) _
      have hown7 : (w6.alloc (.cells #[.int .i64 p.src, .int .i64 p.dst, .slice a' p.len c'] 33)).ownsRow w.heap.size 33 3 _ k (qs.flatMap pcells) := owns_same HO.out fun g cur _ hg => BW7.block g (block_lt hg)
      have HO7 := Lib.hid hown7
      have HW7 := Lib.hid BW7
      have HO6 := Lib.hid hown6
      clear hown7 BW7 BW hown6 hB6 b5
      go_wp2_with (at_builtin; refine wpList_append_lies _ rfl _ _ 26 rfl w.heap.size 33 i0 _ 3 40 Try.underlying26 HI.out HZ0.out HZ1.out HZ2.out rfl (by decide) _ k (qs.flatMap pcells) rfl HO7.out ⟨w6.heap.size, 0, none⟩ 1 1 [.int .i64 p.src, .int .i64 p.dst, .slice a' p.len c'] rfl rfl (World.news_of_block (heap_alloc_new w6 _)) (by simp [Value.oneCell']) (by omega) (by unfold maxLen; omega) (by omega) (by simp; omega) _ rfl ?_; intro g' cap' w3 hown3 hgrow hat hlt3)
      have hB3 : Below w.heap.size w w3 := (HBW.out.trans (HW7.out.mono hwz)).grown hgrow (by simp; omega) (fun r e => ownBlock_ge HO7.out e)
      have hM3 : Moved w.heap.size wr w3 := (Moved.of_below HW7.out hwz).trans (Moved.grown HO7.out hgrow (by simp; omega))
      have hP3 : Is w3 w.heap.size ⟨p.src, p.dst, a', p.len, c'⟩ m := by
        refine ⟨HPO.out.1, HPO.out.2, ?_⟩
        have h7 : POwn (w6.alloc (.cells #[.int .i64 p.src, .int .i64 p.dst, .slice a' p.len c'] 33)) w.heap.size a' p.len c' m.xs :=
          POwn.same (show POwn w6 w.heap.size a' p.len c' m.xs from ⟨HO6.out.1, HO6.out.2.mono (by omega)⟩) fun g cur hg => by
            rw [Below.heap_alloc _ _ _ (block_lt hg)]
        exact h7.same (Moved.grown HO7.out hgrow (by simp; omega) : Moved w.heap.size _ w3).bytes
      have hR3 : Rows w3 w.heap.size (qs ++ [⟨p.src, p.dst, a', p.len, c'⟩]) (way.take (k + 1)) := by
        rw [HT.out]; exact (HRW.out.same hM3.bytes).append (Rows.one hP3)
      have FIN := Lib.hid (And.intro hR3 hB3)
      have HN3 := Lib.hid hown3
      clear hB3 hM3 hP3 hR3 hown3 hgrow hat
      go_roundw
      case rel => exact ⟨k + 1, qs ++ [⟨p.src, p.dst, a', p.len, c'⟩], by omega, by go_num, by simp [HQ.out], by simpa [pcells] using HN3.out, FIN.out⟩
      case measure => simp [intOf]; omega
    · obtain rfl : k = L := by omega
      have ht : way.take k = way := by rw [List.take_of_length_le (by have := HPL.out; omega)]
      rw [ht] at hrows
      go_wp2
      go_ret
      exact ⟨_, qs, rfl, by rw [hqk]; exact hown, hrows, hBw⟩
end
theorem n_way {w : World} {B b n : Nat} {way : List Msg} {box : Nat → List Msg} (h : Net w B b n way box) : Calls Try.prog 10 #[.pointer (some ⟨b, 0, none⟩)] w fun e w' => Told w e w' way := by
  obtain ⟨vw, ⟨ps, bx, cap, cs, bufs, h1, h2, h3⟩, hlen, hto, hB⟩ := h
  exact way_raw h1 h2 (by rw [h2.len]; exact hlen)
end Go.Proofs.Ytambdhoeakddhaa
