/- The walk over travels. -/
import Derived.Test.YtambdhoeakddhaaWalkD
import Derived.Deep.AppendLies
namespace Go.Proofs.Ytambdhoeakddhaa
open Go Go.RowKit Go.Conc
set_option linter.unusedVariables false

theorem Try.info33 : (Try.prog.info? 33).map (fun i => (i.zero, i.size, i.bytes)) = some (some (.agg #[.int .i64 0, .int .i64 0, .slice none 0 0]), 3, 40) := by kernel_rfl

section
variable {w w' : World} {B b bx cap n : Nat} {vw : Value} {ps : List PV} {cs : Nat → Nat} {bufs : Nat → List PV}

set_option maxRecDepth 8000 in
theorem travels_full (h : NetAt w B b vw ps bx cap n cs bufs) (hf : 256 ≤ ps.length) (hs : ps.length ≤ 140737488355328) (p : PV) :
    Calls Try.prog 41 #[.pointer (some ⟨b, 0, none⟩), pagg p] w fun e w' => e = .returned (.int .i64 3) ∧ Below w.heap.size w w' := by
  have B1 : Below w.heap.size w (w.alloc (.cells #[.int .i64 p.src, .int .i64 p.dst, .slice p.a p.len p.cap] 33)) := (Below.refl _ _).alloc (Nat.le_refl _) _
  have hc := (h.kept B1).c0
  have hv : ∃ a c, vw = .slice a ps.length c := by
    rcases h.way.2 with ⟨rfl, hn⟩ | ⟨g, c, cur, rfl, _⟩
    · omega
    · exact ⟨_, _, rfl⟩
  obtain ⟨a, c, rfl⟩ := hv
  have HB := Lib.hid B1
  clear h B1
  generalize ps.length = q at *
  unfold pagg
  go_enter Try.func41, Try.ntmps41
  go_wp2
  go_ret
  exact ⟨rfl, HB.out⟩

theorem again_raw (w : World) (p : PV) (xs : List Int) (h : BAt w p.a p.len xs) :
    Calls Try.prog 34 #[.agg #[.int .i64 p.src, .int .i64 p.dst, .slice p.a p.len p.cap]] w fun e w' => ∃ a' cap', e = .returned (.agg #[.int .i64 p.src, .int .i64 p.dst, .slice a' p.len cap']) ∧ POwn w' w.heap.size a' p.len cap' xs ∧ Below w.heap.size w w' := again_any w p xs h

/-- What no net is made of: neither a row of messages, nor a net's cells, nor a channel. -/
def plain : Obj → Bool
  | .cells _ T _ => T != 33 && T != 63
  | .chan _ _ _ _ _ _ => false
  | _ => true
/-- What a net's calls keep: all below B, and every block that is no part of a net. -/
structure Moved (B : Nat) (w w' : World) : Prop where
  bel : Below B w w'
  keeps : ∀ (k : Nat) (o : Obj), w.heap[k]? = some o → plain o = true → w'.heap[k]? = w.heap[k]?
  size : w.heap.size ≤ w'.heap.size
theorem Moved.bytes {B : Nat} {w w' : World} (h : Moved B w w') (k : Nat) (cur : Array Value) (hk : w.heap[k]? = some (Obj.cells cur 5 (0, 0))) : w'.heap[k]? = w.heap[k]? := h.keeps k _ hk rfl
theorem Moved.refl (B : Nat) (w : World) : Moved B w w := ⟨Below.refl _ _, fun _ _ _ _ => rfl, Nat.le_refl _⟩
theorem Moved.trans {B : Nat} {a b c : World} (h : Moved B a b) (k : Moved B b c) : Moved B a c :=
  ⟨h.bel.trans k.bel, fun i cur hi hp => (k.keeps i cur ((h.keeps i cur hi hp).trans hi) hp).trans (h.keeps i cur hi hp), Nat.le_trans h.size k.size⟩
theorem Moved.of_below {B : Nat} {w w' : World} (h : Below w.heap.size w w') (hB : B ≤ w.heap.size) : Moved B w w' :=
  ⟨h.mono hB, fun k cur hk _ => h.block k (block_lt hk), h.size⟩
theorem Moved.mono {B B' : Nat} {w w' : World} (h : Moved B w w') (hB : B' ≤ B) : Moved B' w w' := ⟨h.bel.mono hB, h.keeps, h.size⟩
/-- One block turned that is part of a net. -/
theorem Moved.only {B : Nat} {w w' : World} {g : Nat} (ho : Only g w w') (hc : B ≤ g) (hB : B ≤ w.heap.size) {o : Obj} (hg : w.heap[g]? = some o) (hp : plain o = false) : Moved B w w' :=
  ⟨⟨ho.os, ho.tape, ho.output, ho.size, fun k hk => ho.block k (by omega) (fun e => by have := Option.some.inj e; omega)⟩,
    fun k o' hk hpl => ho.block k (block_lt hk) (fun e => by have e := Option.some.inj e; subst e; rw [hg] at hk; rw [← Option.some.inj hk, hp] at hpl; cases hpl), ho.size⟩

theorem Moved.grown {B : Nat} {W w3 : World} {v : Value} {m : Nat} {xs : List Value} (h : W.ownsRow B 33 3 v m xs) (hg : W.grownBy w3 v.ownBlock) (hB : B ≤ W.heap.size) : Moved B W w3 := by
  have hr : ∀ k o, W.heap[k]? = some o → plain o = true → some k ≠ v.ownBlock := fun k o hk hT => by
    rcases h.2 with ⟨rfl, _⟩ | ⟨g, c, cur', rfl, _, hg', _⟩
    · simp [Value.ownBlock]
    · simp only [Value.ownBlock, ne_eq, Option.some.injEq]
      rintro rfl
      rw [hg'] at hk
      rw [← Option.some.inj hk] at hT
      exact absurd hT (by simp [plain])
  refine ⟨(Below.refl _ _).grown hg hB (fun r e => ?_), fun k o hk hp => hg.block k (block_lt hk) (hr k o hk hp), hg.size⟩
  rcases h.2 with ⟨rfl, _⟩ | ⟨g, c, cur', rfl, hb, _⟩
  · simp [Value.ownBlock] at e
  · simp [Value.ownBlock] at e; omega
theorem Moved.set {B : Nat} {w : World} {b i T : Nat} {cur : Array Value} (h : w.heap[b]? = some (Obj.cells cur T (0, 0))) (hT : T = 33 ∨ T = 63) (hb : B ≤ b) (v : Value) : Moved B w (w.setCell ⟨b, i, none⟩ v) :=
  Moved.only (only_setCell w b i v) hb (Nat.le_trans hb (Nat.le_of_lt (block_lt h))) h (by rcases hT with rfl | rfl <;> rfl)

/-- The row grown by appending, and the net's cell turned. -/
theorem NetAt.grown {W w3 : World} {v v' : Value} {qs : List PV} (h : NetAt W B b v ps bx cap n cs bufs) (hg : W.grownBy w3 v.ownBlock) (ho : w3.ownsRow B 33 3 v' qs.length (qs.flatMap pcells)) :
    NetAt (w3.setCell ⟨b, 0, none⟩ v') B b v' qs bx cap n cs bufs ∧ w3.heap[b]? = some (Obj.cells #[v, .slice (some ⟨bx, 0, none⟩) n cap] 63 (0, 0)) := by
  have hr : ∀ k o, W.heap[k]? = some o → (∀ cur, o ≠ Obj.cells cur 33 (0, 0)) → w3.heap[k]? = W.heap[k]? := fun k o hk hT => by
    refine hg.block k (block_lt hk) ?_
    rcases h.way.2 with ⟨rfl, _⟩ | ⟨g, c, cur', rfl, _, hg', _⟩
    · simp [Value.ownBlock]
    · simp only [Value.ownBlock, ne_eq, Option.some.injEq]
      rintro rfl
      rw [hg'] at hk
      exact hT cur' (Option.some.inj hk).symm
  have hh := (hr b _ h.head (fun cur e => by simp at e)).trans h.head
  have hs : ∀ k, k ≠ b → (w3.setCell ⟨b, 0, none⟩ v').heap[k]? = w3.heap[k]? := fun k hk => heap_setCell_other w3 ⟨b, 0, none⟩ k v' hk
  refine ⟨⟨by rw [heap_setCell_same w3 b 0 _ 63 v' hh]; rfl, ?_, fun j hj => ?_, h.sep, h.few, h.n1, h.n2, h.geb, h.gec, ?_⟩, hh⟩
  · obtain ⟨cur, h1, h2⟩ := h.brow
    refine ⟨cur, ?_, h2⟩
    rw [hs bx (fun e => by subst e; rw [h.head] at h1; simp at h1)]
    exact (hr bx _ h1 (fun cur e => by simp at e)).trans h1
  · obtain ⟨s, r, h1⟩ := h.chans j hj
    refine ⟨s, r, ?_⟩
    rw [hs (cs j) (fun e => by rw [e, h.head] at h1; simp at h1)]
    exact (hr _ _ h1 (fun cur e => by simp at e)).trans h1
  · exact owns_same ho fun g cur _ hg' => hs g (fun e => by subst e; rw [hh] at hg'; simp at hg')

set_option maxRecDepth 8000 in
set_option maxHeartbeats 2000000 in
theorem travels_ok (h : NetAt w B b vw ps bx cap n cs bufs) (hB : B ≤ w.heap.size) (hf : ps.length < 256) (p : PV) (xs : List Int) (hx : BAt w p.a p.len xs) :
    Calls Try.prog 41 #[.pointer (some ⟨b, 0, none⟩), pagg p] w fun e w' => e = .returned (.int .i64 0) ∧ ∃ vw' a' c', NetAt w' B b vw' (ps ++ [⟨p.src, p.dst, a', p.len, c'⟩]) bx cap n cs bufs ∧ POwn w' B a' p.len c' xs ∧ Moved B w w' := by
  obtain ⟨i0, hi, hz0, hz1, hz2⟩ := info_parts Try.info33
  have B1 : Below w.heap.size w (w.alloc (.cells #[.int .i64 p.src, .int .i64 p.dst, .slice p.a p.len p.cap] 33)) := (Below.refl _ _).alloc (Nat.le_refl _) _
  have t1 : Tri (w.alloc (.cells #[.int .i64 p.src, .int .i64 p.dst, .slice p.a p.len p.cap] 33)) w.heap.size (.int .i64 p.src) (.int .i64 p.dst) (.slice p.a p.len p.cap) := tri (heap_alloc_new _ _)
  have h1 := h.kept B1
  have hx1 := hx.kept B1
  have hrow : ∃ a c, vw = .slice a ps.length c := by
    rcases h.way.2 with ⟨rfl, hn⟩ | ⟨g, c, cur, rfl, _⟩
    · exact ⟨none, 0, by rw [hn]⟩
    · exact ⟨_, _, rfl⟩
  obtain ⟨a0, c0, rfl⟩ := hrow
  have hneb : some b ≠ Value.ownBlock (.slice a0 ps.length c0) ∧ some w.heap.size ≠ Value.ownBlock (.slice a0 ps.length c0) := by
    rcases h.way.2 with ⟨hv, hn⟩ | ⟨g, c, cur, hv, _, hg, _⟩
    · simp only [Value.slice.injEq] at hv
      rw [hv.1]; simp [Value.ownBlock]
    · simp only [Value.slice.injEq] at hv
      rw [hv.1]
      have := block_lt hg
      refine ⟨?_, ?_⟩
      · simp only [Value.ownBlock, ne_eq, Option.some.injEq]
        rintro rfl
        have := h.head; rw [hg] at this; cases this
      · simp only [Value.ownBlock, ne_eq, Option.some.injEq]; omega
  have hc := h1.c0
  have hfz : (w.alloc (.cells #[.int .i64 p.src, .int .i64 p.dst, .slice p.a p.len p.cap] 33)).frozen? ⟨b, 0, none⟩ = false := frozen_of_row _ b 0 _ 63 h1.head
  have hbl := block_lt h.head
  have hsz : (w.alloc (.cells #[.int .i64 p.src, .int .i64 p.dst, .slice p.a p.len p.cap] 33)).heap.size = w.heap.size + 1 := by simp
  have H1 := Lib.hid h1
  have HX := Lib.hid hx1
  have HP := Lib.hid (show ∃ q, q = ps.length from ⟨_, rfl⟩)
  have HI := Lib.hid hi
  have HZ0 := Lib.hid hz0
  have HZ1 := Lib.hid hz1
  have HZ2 := Lib.hid hz2
  clear h1 hx1 hx h hi hz0 hz1 hz2
  unfold pagg
  go_enter Try.func41, Try.ntmps41
  go_wp2
  generalize w.alloc (.cells #[.int .i64 p.src, .int .i64 p.dst, .slice p.a p.len p.cap] 33) = w1 at *
  obtain ⟨k1, a10, a11, a12, b10, b11, b12⟩ := t1
  go_region_law (first | (go_simp; go_at_call 34; refine (again_raw w1.drew p xs (HX.out)).mono ?_; rintro e w2 ⟨a', c', rfl, hown, hB2⟩; have e0 := (hB2.cell (p := ⟨w.heap.size, 0, none⟩) (show w.heap.size < w1.heap.size by omega)).trans a10; have e1 := (hB2.cell (p := ⟨w.heap.size, 1, none⟩) (show w.heap.size < w1.heap.size by omega)).trans a11; have e2 := (hB2.cell (p := ⟨w.heap.size, 2, none⟩) (show w.heap.size < w1.heap.size by omega)).trans a12; have e3 := (hB2.cell (p := ⟨b, 0, none⟩) (show b < w1.heap.size by omega)).trans hc; have H2 := Lib.hid (H1.out.kept ((Below.refl w1.heap.size w1).drew.trans hB2)); have e4 := frozen_of_row w2 b 0 _ 63 H2.out.head; have LZ : w1.heap.size ≤ w2.heap.size := hB2.size; have BB : Below w1.heap.size w1 (w2.alloc (.cells #[.int .i64 p.src, .int .i64 p.dst, .slice a' p.len c'] 33)) := ((Below.refl w1.heap.size w1).drew.trans hB2).alloc LZ _; have H3 := Lib.hid (H1.out.kept BB); have e6 := H3.out.c0; have e5 := frozen_of_row (w2.alloc (.cells #[.int .i64 p.src, .int .i64 p.dst, .slice a' p.len c'] 33)) b 0 _ 63 H3.out.head; have t9 := tri ((BB.block w.heap.size (show w.heap.size < w1.heap.size by omega)).trans k1); obtain ⟨_, g0, g1, g2, _, _, _⟩ := t9; have L1 : b < (w2.alloc (.cells #[.int .i64 p.src, .int .i64 p.dst, .slice a' p.len c'] 33)).heap.size := (by simp; omega); have L2 : w.heap.size < (w2.alloc (.cells #[.int .i64 p.src, .int .i64 p.dst, .slice a' p.len c'] 33)).heap.size := (by simp; omega)) | (refine step_append_lies _ (by rfl) _ _ 26 (by rfl) B 33 i0 _ 3 40 Try.underlying26 HI.out HZ0.out HZ1.out HZ2.out rfl (by omega) _ ps.length (ps.flatMap pcells) (by rfl) H3.out.way ⟨w2.heap.size, 0, none⟩ 1 1 [.int .i64 p.src, .int .i64 p.dst, .slice a' p.len c'] (by rfl) rfl (World.news_of_block (heap_alloc_new w2 _)) (by simp [Value.oneCell']) (by omega) (by unfold maxLen; omega) (by omega) (by simp; omega) (w2.heap.size + 1) (by simp) ?_; intro g cap' w3 hown3 hgrow hat hlt; have f0 := (hgrow.cell_far ⟨b, 0, none⟩ L1 hneb.1).trans H3.out.c0; have f1 := (hgrow.frozen_far ⟨b, 0, none⟩ L1 hneb.1).trans e5; have f2 := (hgrow.cell_far ⟨w.heap.size, 0, none⟩ L2 hneb.2).trans g0; have f3 := (hgrow.cell_far ⟨w.heap.size, 1, none⟩ L2 hneb.2).trans g1; have f4 := (hgrow.cell_far ⟨w.heap.size, 2, none⟩ L2 hneb.2).trans g2))
  all_goals
    have hm1 : B ≤ w1.heap.size := by omega
    have hm2 : B ≤ w2.heap.size := by omega
    obtain ⟨hN, hh⟩ := NetAt.grown (qs := ps ++ [⟨p.src, p.dst, a', p.len, c'⟩]) H3.out hgrow (by simpa [pcells] using hown3)
    have M1 : Moved B w w1 := Moved.of_below B1 hB
    have M2 : Moved B w1 w2 := Moved.of_below ((Below.refl w1.heap.size w1).drew.trans hB2) hm1
    have M3 : Moved B w2 (w2.alloc (.cells #[.int .i64 p.src, .int .i64 p.dst, .slice a' p.len c'] 33)) := Moved.of_below ((Below.refl _ _).alloc (Nat.le_refl _) _) hm2
    have M4 := Moved.grown H3.out.way hgrow (by simp; omega)
    have M5 := Moved.set (i := 0) hh (by decide) hN.geb (.slice (some ⟨g, 0, none⟩) (ps.length + 1) cap')
    have hP : POwn (w3.setCell ⟨b, 0, none⟩ (.slice (some ⟨g, 0, none⟩) (ps.length + 1) cap')) B a' p.len c' xs :=
      POwn.same (POwn.same (POwn.same (show POwn w2 B a' p.len c' xs from ⟨hown.1, hown.2.mono (show B ≤ w1.drew.heap.size from hm1)⟩) M3.bytes) M4.bytes) M5.bytes
    have FIN := Lib.hid (And.intro hN (And.intro hP ((((M1.trans M2).trans M3).trans M4).trans M5)))
    clear hN hh M1 M2 M3 M4 M5 hP
    go_wp2
    go_ret
    exact ⟨rfl, _, _, _, FIN.out.1, FIN.out.2.1, FIN.out.2.2⟩
end
end Go.Proofs.Ytambdhoeakddhaa
