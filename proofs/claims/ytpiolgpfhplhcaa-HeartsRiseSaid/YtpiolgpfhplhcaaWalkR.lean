/- The plain facts for HeartsRise, and what holds at the heads of its loops. -/
import Derived.Test.YtpiolgpfhplhcaaWalkQ
namespace Go.Proofs.Ytpiolgpfhplhcaa
open Go Go.RowKit
set_option linter.unusedVariables false

theorem limF_small (x : Int) (h : 1 ≤ x) (h' : x ≤ 20) : limF x = x := by
  unfold limF; rw [if_neg (by omega), if_neg (by omega)]
theorem memF_20 (n : Nat) (h : 1 ≤ n) (h' : n ≤ 20) : memF n = n := by
  unfold memF; rw [if_neg (by omega), if_neg (by omega)]; simp

theorem goneUp_mono (lim : Int) (D D' : List Int) (h : ∀ j, D.getD j 0 ≤ D'.getD j 0) (k : Nat) : (goneUp lim D k).length ≤ (goneUp lim D' k).length := by
  induction k with
  | zero => simp [goneUp]
  | succ k ih =>
    have := h k
    by_cases g : lim < D.getD k 0
    · rw [goneUp_succ_yes g, goneUp_succ_yes (by omega : lim < D'.getD k 0)]; simpa using ih
    · rw [goneUp_succ_no (by omega)]
      by_cases g' : lim < D'.getD k 0
      · rw [goneUp_succ_yes g']; simp; omega
      · rw [goneUp_succ_no (by omega)]; exact ih
theorem goneOf_mono (lim : Int) (D D' : List Int) (hl : D.length = D'.length) (h : ∀ j, D.getD j 0 ≤ D'.getD j 0) : (goneOf lim D).length ≤ (goneOf lim D').length := by
  unfold goneOf; rw [hl]; exact goneUp_mono lim D D' h _
theorem goneOf_zero (lim : Int) (n : Nat) (h : 0 ≤ lim) : goneOf lim (List.replicate n 0) = [] := by
  unfold goneOf
  suffices ∀ k, goneUp lim (List.replicate n 0) k = [] from this _
  intro k
  induction k with
  | zero => simp [goneUp]
  | succ k ih => rw [goneUp_succ_no (by rw [zero_at]; exact h)]; exact ih
theorem getD_over (D : List Int) (j : Nat) (h : ¬ j < D.length) : D.getD j 0 = 0 := by
  rw [List.getD_eq_getElem?_getD, List.getElem?_eq_none (by omega)]; rfl

/-- What holds at the heads of the loops: the watch says D, and so does the law's own row. -/
structure RInv (w wr : World) (b s t : Nat) (lim : Int) (D : List Int) (n i : Nat) : Prop where
  wat : WatchAt wr b s lim D
  row : IRow wr t 3 D
  len : D.length = n
  lo : ∀ j, 0 ≤ D.getD j 0
  hi : ∀ j, D.getD j 0 ≤ i
  ne : b ≠ t
  ns : s ≠ t
  gs : w.heap.size ≤ s
  gt : w.heap.size ≤ t
  bel : Below w.heap.size w wr

section
variable {w wr w' : World} {b s t : Nat} {lim : Int} {D : List Int} {n i : Nat}
theorem RInv.kept (h : RInv w wr b s t lim D n i) (hb : Below wr.heap.size wr w') : RInv w w' b s t lim D n i :=
  ⟨h.wat.kept hb, h.row.of_below hb h.row.lt, h.len, h.lo, h.hi, h.ne, h.ns, h.gs, h.gt, h.bel.trans (hb.mono h.bel.size)⟩
theorem RInv.drewN (h : RInv w wr b s t lim D n i) (q : Nat) : RInv w (wr.drewN q) b s t lim D n i :=
  ⟨⟨h.wat.head, h.wat.row, h.wat.len1, h.wat.len2⟩, h.row.drewN q, h.len, h.lo, h.hi, h.ne, h.ns, h.gs, h.gt, below_drewN h.bel q⟩
theorem RInv.fair (h : RInv w wr b s t lim D n i) (hi : i ≤ 80) : Fair D := fun j => ⟨h.lo j, by have := h.hi j; omega⟩
/-- Behind a reset, and a new row made. -/
theorem RInv.fresh (h : RInv w wr b s t lim D n i) {w4 w5 : World} (h4 : Turned b s lim (List.replicate D.length 0) wr w4) (hg : w4.grownBy w5 none) (hr : IRow w5 w4.heap.size 3 (List.replicate n 0)) (i' : Nat) : RInv w w5 b s w4.heap.size lim (List.replicate n 0) n i' := by
  have B4 : Below w.heap.size w w4 := h.bel.trans (h4.2.below h.gs h.bel.size)
  have hk : Below w4.heap.size w4 w5 := (Below.refl _ _).grown hg (Nat.le_refl _) (fun k h => by cases h)
  have h5 := h4.1.kept hk
  rw [h.len] at h5
  have l1 := h4.1.ltb
  have l2 := h4.1.row.lt
  exact ⟨h5, hr, by simp, fun j => by rw [zero_at]; omega, fun j => by rw [zero_at]; omega, by omega, by omega, h.gs, B4.size, B4.trans (hk.mono B4.size)⟩
/-- Behind a tick, and the law's own row turned to match. -/
theorem RInv.ticked (h : RInv w wr b s t lim D n i) (hi : i ≤ 80) {w4 w5 : World} (h4 : Turned b s lim (D.map t1) wr w4) {ms : List Int} (hm : upTo t1 D n ms) (hr : IRow w5 t 3 ms) (ho : Only t w4 w5) : RInv w w5 b s t lim (D.map t1) n (i + 1) := by
  have B4 : Below w.heap.size w w4 := h.bel.trans (h4.2.below h.gs h.bel.size)
  have e := h.len
  subst e
  have hm := upTo_all hm
  subst hm
  refine ⟨h4.1.other ho h.ne h.ns, hr, by simp, fun j => ?_, fun j => ?_, h.ne, h.ns, h.gs, h.gt, B4.trans (ho.below h.gt B4.size)⟩
  · rw [getD_map]; split
    · exact (t1_bd (h.lo j)).1
    · omega
  · have := h.hi j
    rw [getD_map]; split
    · rw [t1_lo (by omega)]; omega
    · omega
theorem RInv.ticked_row (h : RInv w wr b s t lim D n i) {D' : List Int} {w4 : World} (h4 : Turned b s lim D' wr w4) : IRow w4 t 3 D :=
  (h4.2.block t h.row.lt (fun e => h.ns (Option.some.inj e).symm)).trans h.row
theorem RInv.tick_more (h : RInv w wr b s t lim D n i) (hi : i ≤ 80) : (goneOf lim D).length ≤ (goneOf lim (D.map t1)).length :=
  goneOf_mono _ _ _ (by simp) fun j => by
    rw [getD_map]; split
    · have := h.hi j; rw [t1_lo (by omega)]; omega
    · rw [getD_over _ _ (by assumption)]; omega
/-- Behind a word heard, and the law's own row turned to match. -/
theorem RInv.heard (h : RInv w wr b s t lim D n i) {w4 : World} (y : Nat) (hy : y < n) (h4 : WatchAt w4 b s lim (D.set y 0)) (ho : Only s wr w4) : RInv w (w4.setCell ⟨t, y, none⟩ (.int .i64 0)) b s t lim (D.set y 0) n (i + 1) := by
  have B4 : Below w.heap.size w w4 := h.bel.trans (ho.below h.gs h.bel.size)
  have o5 := only_setCell w4 t y (.int .i64 0)
  have hl := h.len
  have hr : IRow w4 t 3 D := (ho.block t h.row.lt (fun e => h.ns (Option.some.inj e).symm)).trans h.row
  refine ⟨h4.other o5 h.ne h.ns, hr.set y 0, by simpa using hl, fun j => ?_, fun j => ?_, h.ne, h.ns, h.gs, h.gt, B4.trans (o5.below h.gt B4.size)⟩
  · rw [getD_set _ _ _ _ (by omega)]; split
    · omega
    · exact h.lo j
  · have := h.hi j
    rw [getD_set _ _ _ _ (by omega)]; split <;> omega
theorem RInv.heard_less (h : RInv w wr b s t lim D n i) (y : Nat) (hy : y < n) : (goneOf lim (D.set y 0)).length ≤ (goneOf lim D).length :=
  goneOf_mono _ _ _ (by simp) fun j => by
    have := h.lo j
    have := h.len
    rw [getD_set _ _ _ _ (by omega)]; split <;> omega
end
end Go.Proofs.Ytpiolgpfhplhcaa
