/- What holds of a row of watches and of one watch beside them (for HeartsApart). -/
import Derived.Test.YtpiolgpfhplhcaaWalkM
namespace Go.Proofs.Ytpiolgpfhplhcaa
open Go Go.RowKit
set_option linter.unusedVariables false

theorem head_ne_row {w : World} {b s t : Nat} {lim : Int} {ss ms : List Int} (h : WatchAt w b s lim ss) (r : IRow w t 3 ms) : b ≠ t := by
  intro e; have h1 := h.head; unfold IRow at r; rw [e, r] at h1; simp at h1

/-- The pointers that stand in the row. -/
def ptrs (P : List (Nat × Nat)) : List Value := P.map fun p => .pointer (some ⟨p.1, 0, none⟩)

structure AInv (B : Nat) (wr : World) (n b s : Nat) (lim : Int) (D : List Int) (v : Value) (P : List (Nat × Nat)) (E : Nat → List Int) : Prop where
  all : WatchAt wr b s lim D
  fairA : Fair D
  lenA : D.length = n
  own : ∀ j, j < P.length → WatchAt wr (P.getD j (0, 0)).1 (P.getD j (0, 0)).2 lim (E j) ∧ Fair (E j) ∧ (E j).length = n
  apartA : ∀ j, j < P.length → (P.getD j (0, 0)).2 ≠ s
  apartO : ∀ i j, i < P.length → j < P.length → i ≠ j → (P.getD i (0, 0)).2 ≠ (P.getD j (0, 0)).2
  row : wr.ownsRow B 24 1 v P.length (ptrs P)
  geA : B ≤ s
  geO : ∀ j, j < P.length → B ≤ (P.getD j (0, 0)).2

theorem owns_kept_row {B n t : Nat} {w w' : World} {v : Value} {xs : List Value} {ms : List Int} (h : w.ownsRow B 24 1 v n xs) (r : IRow w t 3 ms) (ho : Only t w w') : w'.ownsRow B 24 1 v n xs := by
  refine h.kept ho ?_
  rcases h.2 with ⟨rfl, _⟩ | ⟨g, cap, cur, rfl, _, hg, _⟩
  · exact .inl rfl
  · refine .inr ?_
    intro e
    have : g = t := by simpa [Value.ownBlock] using e
    subst this
    unfold IRow at r; rw [r] at hg; simp at hg

section
variable {B : Nat} {wr w' : World} {n b s : Nat} {lim : Int} {D D' : List Int} {v : Value} {P : List (Nat × Nat)} {E : Nat → List Int}
theorem AInv.allStep (h : AInv B wr n b s lim D v P E) (ht : Turned b s lim D' wr w') (hf : Fair D') (hl : D'.length = n) : AInv B w' n b s lim D' v P E :=
  ⟨ht.1, hf, hl, fun j hj => ⟨(h.own j hj).1.other ht.2 (head_ne_row (h.own j hj).1 h.all.row) (h.apartA j hj), (h.own j hj).2⟩, h.apartA, h.apartO, owns_kept_row h.row h.all.row ht.2, h.geA, h.geO⟩

theorem AInv.ownStep (h : AInv B wr n b s lim D v P E) (i : Nat) (hi : i < P.length) {E' : List Int} (ht : Turned (P.getD i (0, 0)).1 (P.getD i (0, 0)).2 lim E' wr w') (hf : Fair E') (hl : E'.length = n) :
    AInv B w' n b s lim D v P (fun j => if j = i then E' else E j) :=
  ⟨h.all.other ht.2 (head_ne_row h.all (h.own i hi).1.row) (h.apartA i hi).symm, h.fairA, h.lenA, fun j hj => by
    by_cases e : j = i
    · subst e; simp only [if_true]; exact ⟨ht.1, hf, hl⟩
    · simp only [if_neg e]
      exact ⟨(h.own j hj).1.other ht.2 (head_ne_row (h.own j hj).1 (h.own i hi).1.row) (h.apartO j i hj hi e), (h.own j hj).2⟩,
    h.apartA, h.apartO, owns_kept_row h.row (h.own i hi).1.row ht.2, h.geA, h.geO⟩
end

theorem getD_append_lt (P : List (Nat × Nat)) (q : Nat × Nat) (j : Nat) (h : j < P.length) : (P ++ [q]).getD j (0, 0) = P.getD j (0, 0) := by
  simp [List.getD_eq_getElem?_getD, List.getElem?_append_left h]
theorem getD_append_last (P : List (Nat × Nat)) (q : Nat × Nat) : (P ++ [q]).getD P.length (0, 0) = q := by
  simp [List.getD_eq_getElem?_getD]

/-- One watch more is made, and its pointer appended. -/
theorem AInv.more {B : Nat} {wr w1 w2 : World} {n b s : Nat} {lim : Int} {D : List Int} {v v' : Value} {P : List (Nat × Nat)} {E : Nat → List Int} (h : AInv B wr n b s lim D v P E)
    {b' s' : Nat} (hB : B ≤ wr.heap.size) (h1 : WatchAt w1 b' s' lim (List.replicate n 0)) (B1 : Below wr.heap.size wr w1) (hb' : wr.heap.size ≤ b') (hs' : wr.heap.size ≤ s')
    (o : Obj) (hg : (w1.alloc o).grownBy w2 v.ownBlock) (hown : w2.ownsRow B 24 1 v' (P.length + 1) (ptrs P ++ [.pointer (some ⟨b', 0, none⟩)])) :
    AInv B w2 n b s lim D v' (P ++ [(b', s')]) (fun j => if j < P.length then E j else List.replicate n 0) := by
  have hv : ∀ (k : Nat) (cs : Array Value) (t : TypeId), t ≠ 24 → wr.heap[k]? = some (.cells cs t (0, 0)) → some k ≠ v.ownBlock := fun k cs t ht hk e => by
    rcases h.row.2 with ⟨hv, _⟩ | ⟨g, cap, cur, hv, _, hgk, _⟩
    · rw [hv] at e; simp [Value.ownBlock] at e
    · rw [hv] at e; simp [Value.ownBlock] at e; subst e; rw [hk] at hgk; simp at hgk; exact ht hgk.2
  have keep : ∀ (bb ss : Nat) (l : List Int), WatchAt wr bb ss lim l → WatchAt w2 bb ss lim l := fun bb ss l hw => by
    have hw1 := hw.kept B1
    have e1 := Below.heap_alloc w1 o bb hw1.ltb
    have e2 := Below.heap_alloc w1 o ss hw1.row.lt
    refine ⟨((hg.block bb (by simp; have := hw1.ltb; omega) (hv bb _ 47 (by decide) hw.head)).trans e1).trans hw1.head, ?_, hw.len1, hw.len2⟩
    have hr := hw.row
    have hr1 := hw1.row
    unfold IRow at hr hr1 ⊢
    exact ((hg.block ss (by simp; have := hw1.row.lt; omega) (hv ss _ 3 (by decide) hr)).trans e2).trans hr1
  have keep1 : WatchAt w2 b' s' lim (List.replicate n 0) := by
    have e1 := Below.heap_alloc w1 o b' h1.ltb
    have e2 := Below.heap_alloc w1 o s' h1.row.lt
    have hnew : ∀ k, wr.heap.size ≤ k → some k ≠ v.ownBlock := fun k hk e => by
      rcases h.row.2 with ⟨hv, _⟩ | ⟨g, cap, cur, hv, _, hgk, _⟩
      · rw [hv] at e; simp [Value.ownBlock] at e
      · rw [hv] at e; simp [Value.ownBlock] at e; subst e; have := (Array.getElem?_eq_some_iff.1 hgk).1; omega
    refine ⟨((hg.block b' (by simp; have := h1.ltb; omega) (hnew b' hb')).trans e1).trans h1.head, ?_, h1.len1, h1.len2⟩
    have hr1 := h1.row
    unfold IRow at hr1 ⊢
    exact ((hg.block s' (by simp; have := h1.row.lt; omega) (hnew s' hs')).trans e2).trans hr1
  have hlast : ∀ j, j < (P ++ [(b', s')]).length → j < P.length ∨ j = P.length := fun j hj => by simp at hj; omega
  refine ⟨keep _ _ _ h.all, h.fairA, h.lenA, fun j hj => ?_, fun j hj => ?_, fun i j hi hj hne => ?_, ?_, h.geA, fun j hj => ?_⟩
  · rcases hlast j hj with hj' | rfl
    · rw [getD_append_lt _ _ _ hj']; simp only [if_pos hj']; exact ⟨keep _ _ _ (h.own j hj').1, (h.own j hj').2⟩
    · rw [getD_append_last]; simp only [Nat.lt_irrefl, if_false]; exact ⟨keep1, fair_zero n, by simp⟩
  · rcases hlast j hj with hj' | rfl
    · rw [getD_append_lt _ _ _ hj']; exact h.apartA j hj'
    · rw [getD_append_last]; have := h.all.row.lt; simp only; omega
  · rcases hlast i hi with hi' | rfl <;> rcases hlast j hj with hj' | rfl
    · rw [getD_append_lt _ _ _ hi', getD_append_lt _ _ _ hj']; exact h.apartO i j hi' hj' hne
    · rw [getD_append_lt _ _ _ hi', getD_append_last]; have := (h.own i hi').1.row.lt; simp only; omega
    · rw [getD_append_lt _ _ _ hj', getD_append_last]; have := (h.own j hj').1.row.lt; simp only; omega
    · exact absurd rfl hne
  · have : ptrs (P ++ [(b', s')]) = ptrs P ++ [.pointer (some ⟨b', 0, none⟩)] := by simp [ptrs]
    rw [this]; simpa using hown
  · rcases hlast j hj with hj' | rfl
    · rw [getD_append_lt _ _ _ hj']; exact h.geO j hj'
    · rw [getD_append_last]; simp only; omega
end Go.Proofs.Ytpiolgpfhplhcaa
