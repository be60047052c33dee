/- A block behind a row of stores; clear of one message's cells. -/
import Derived.Test.YtambdhoeakddhaaWalkG
import Derived.Laws.IdiomCopy
namespace Go.Proofs.Ytambdhoeakddhaa
open Go Go.RowKit Go.Conc
set_option linter.unusedVariables false

theorem heap_setCells (g T : Nat) : ∀ (vs : List Value) (w : World) (o : Nat) (cur : Array Value), w.heap[g]? = some (Obj.cells cur T (0, 0)) → o + vs.length ≤ cur.size →
    ∃ cur' : Array Value, (w.setCells g o vs).heap[g]? = some (Obj.cells cur' T (0, 0)) ∧ cur'.size = cur.size ∧ (∀ j, cur'[j]? = if o ≤ j ∧ j < o + vs.length then vs[j - o]? else cur[j]?) ∧ Only g w (w.setCells g o vs)
  | [], w, o, cur, h, hs => ⟨cur, h, rfl, fun j => by rw [if_neg (by simp)], ⟨rfl, rfl, rfl, Nat.le_refl _, fun _ _ _ => rfl⟩⟩
  | v :: vs, w, o, cur, h, hs => by
    simp only [List.length_cons] at hs
    have h1 := heap_setCell_same w g o _ T v h
    have o1 := only_setCell w g o v
    obtain ⟨cur', h2, h3, h4, h5⟩ := heap_setCells g T vs (w.setCell ⟨g, o, none⟩ v) (o + 1) _ h1 (by simp; omega)
    refine ⟨cur', h2, by simpa using h3, fun j => ?_, ⟨h5.os.trans o1.os, h5.tape.trans o1.tape, h5.output.trans o1.output, Nat.le_trans o1.size h5.size, fun k hk hne => (h5.block k (Nat.lt_of_lt_of_le hk o1.size) hne).trans (o1.block k hk hne)⟩⟩
    rw [h4 j]
    by_cases e : j = o
    · subst e
      rw [if_neg (by omega), if_pos (by simp)]
      simp [Array.getElem?_setIfInBounds]
      omega
    · by_cases e2 : o + 1 ≤ j ∧ j < o + 1 + vs.length
      · rw [if_pos e2, if_pos (by simp; omega)]
        rw [show j - o = (j - (o + 1)) + 1 from by omega]; simp
      · rw [if_neg e2, if_neg (by simp; omega)]
        rw [Array.getElem?_setIfInBounds_ne (by omega)]
end Go.Proofs.Ytambdhoeakddhaa
