/- A message of the document's net turned in its place; the walk over Do where there is none. -/
import Derived.Test.YtambdhoeakddhaaRWalkF
namespace Go.Proofs.Ytambdhoeakddhaa
open Go Go.RowKit Go.Conc
set_option linter.unusedVariables false

section
variable {w w' : World} {B b n : Nat} {av : Value} {rs : List RM} {T : Nat} {way : List Msg} {box : Nat → List Msg} {lw : List Nat} {lb : Nat → List Nat}
theorem flat_set (rs : List RM) {k : Nat} {r r' : RM} (hr : rs[k]? = some r) (j : Nat) (hj : j < 5) (v : Value) (hv : rcells r' = (rcells r).set j v) : (rs.set k r').flatMap rcells = (rs.flatMap rcells).set (k * 5 + j) v := by
  obtain ⟨l1, q, l2, rfl, rfl⟩ := split_at rs k (List.getElem?_eq_some_iff.1 hr).1
  have : q = r := by simpa using hr
  subst this
  have h1 : (l1 ++ q :: l2).set l1.length r' = l1 ++ r' :: l2 := by simp
  rw [h1, List.flatMap_append, List.flatMap_append, List.flatMap_cons, List.flatMap_cons, hv, List.set_append_right _ _ (by rw [rcells_len]; omega), rcells_len, List.set_append_left _ _ (by simp [rcells]; omega)]
  congr 3; omega
/-- One cell of one message turned. -/
theorem RefAt.setj (h : RefAt w B b n av rs T) {k : Nat} {r r' : RM} (hr : rs[k]? = some r) (j : Nat) (hj : j < 5) (v : Value) (hv : rcells r' = (rcells r).set j v) {g : Nat} {c : Nat} (hav : av = .slice (some ⟨g, 0, none⟩) rs.length c) :
    RefAt (w.setCell ⟨g, k * 5 + j, none⟩ v) B b n av (rs.set k r') T ∧ RMoved B w (w.setCell ⟨g, k * 5 + j, none⟩ v) := by
  have hk := (List.getElem?_eq_some_iff.1 hr).1
  obtain ⟨hl, ⟨_, hn⟩ | ⟨g', c', cur, hv', hB, hg, hnc, hcm, hsz, htake⟩⟩ := h.row
  · omega
  rw [hav] at hv'
  simp only [Value.slice.injEq, Option.some.injEq, Addr.mk.injEq] at hv'
  obtain ⟨⟨rfl, _⟩, _, rfl⟩ := hv'
  have hne : g ≠ b := fun e => by subst e; rw [h.head] at hg; simp at hg
  refine ⟨⟨(heap_setCell_other w ⟨g, k * 5 + j, none⟩ b v (Ne.symm hne)).trans h.head, ⟨by rw [rcells_len, List.length_set], .inr ⟨g, c, _, by rw [hav, List.length_set], hB, heap_setCell_same w g _ _ 49 v hg, by rw [List.length_set]; exact hnc, hcm, by simpa using hsz, ?_⟩⟩, h.geb, by have := h.base; simpa using this⟩, RMoved.set hg (.inl rfl) hB v⟩
  rw [flat_set rs hr j hj v hv, ← htake, List.length_set]
  rw [Array.toList_setIfInBounds, List.take_set]

theorem ref_do_out (h : RefAt w B b n av rs T) (ha : Agree n rs T way box lw lb) (hT : T ≤ 900) (hw : way.length ≤ 256) (kind : Int) (i : Int) (hi : i < 0 ∨ (way.length : Int) ≤ i) :
    Calls Try.prog 21 #[.pointer (some ⟨b, 0, none⟩), .int .u8 kind, .int .i64 i] w fun e w' => e = .returned (.int .i64 5) ∧ Below w.heap.size w w' := by
  have HR := Lib.hid (row_way h ha hT)
  have hl := ha.lens.1
  obtain ⟨q, hq⟩ : ∃ q, lw.length = q := ⟨_, rfl⟩
  have hq1 : q ≤ 256 := by omega
  have hi' : i < 0 ∨ (q : Int) ≤ i := by omega
  rw [hq] at HR
  clear h ha hi hl hq hw
  by_cases h0 : i < 0
  · clear hi'
    go_enter Try.func21, Try.ntmps21
    go_wp2_with fail
    refine HR.out.mono ?_
    rintro e w1 ⟨v, rfl, hown, hB⟩
    obtain ⟨va, vc, rfl⟩ := owns_slice3 hown
    clear hown
    go_wp2_with fail
    go_ret
    exact ⟨rfl, hB⟩
  · have h1 : 0 ≤ i := by omega
    have h2 : (q : Int) ≤ i := by omega
    clear hi' h0
    go_enter Try.func21, Try.ntmps21
    go_wp2_with fail
    refine HR.out.mono ?_
    rintro e w1 ⟨v, rfl, hown, hB⟩
    obtain ⟨va, vc, rfl⟩ := owns_slice3 hown
    clear hown
    go_wp2_with fail
    go_ret
    exact ⟨rfl, hB⟩
end
end Go.Proofs.Ytambdhoeakddhaa
