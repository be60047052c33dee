/- A block that holds a row of numbers, known whole: how it is read, written, kept. -/
import Derived.Test.YteocofoocbnfnaaDoorRows
import Derived.WalkKit
import Derived.WalkSmall
namespace Go.Proofs.YteocofoocbnfnaaDoor
open Go.RowKit
set_option linter.unusedVariables false

/-- Block b holds just the numbers ms. -/
def IRow (w : World) (b : Nat) (T : TypeId) (ms : List Int) : Prop := w.heap[b]? = some (.cells (ms.map (Value.int .i64)).toArray T (0, 0))

theorem IRow.lt {w : World} {b : Nat} {T : TypeId} {ms : List Int} (h : IRow w b T ms) : b < w.heap.size := by
  rcases Nat.lt_or_ge b w.heap.size with g | g
  · exact g
  · unfold IRow at h; rw [Array.getElem?_eq_none g] at h; simp at h

theorem IRow.cell {w : World} {b : Nat} {T : TypeId} {ms : List Int} (h : IRow w b T ms) (t : Nat) (ht : t < ms.length) : w.cell? ⟨b, t, none⟩ = some (.int .i64 (ms.getD t 0)) := by
  rw [cell_of_row w b t _ T (0, 0) h]
  simp [ht]

theorem IRow.frozen {w : World} {b : Nat} {T : TypeId} {ms : List Int} (h : IRow w b T ms) (t : Nat) : w.frozen? ⟨b, t, none⟩ = false := frozen_of_row w b t _ T h

theorem IRow.set {w : World} {b : Nat} {T : TypeId} {ms : List Int} (h : IRow w b T ms) (t : Nat) (x : Int) : IRow (w.setCell ⟨b, t, none⟩ (.int .i64 x)) b T (ms.set t x) := by
  unfold IRow
  rw [heap_setCell_same w b t _ T _ h]
  simp [List.map_set]

theorem IRow.of_below {w w' : World} {b B : Nat} {T : TypeId} {ms : List Int} (h : IRow w b T ms) (hb : Below B w w') (hlt : b < B) : IRow w' b T ms := by
  unfold IRow; rw [hb.block b hlt]; exact h

theorem IRow.drewN {w : World} {b : Nat} {T : TypeId} {ms : List Int} (h : IRow w b T ms) (n : Nat) : IRow (w.drewN n) b T ms := h

theorem IRow.alloc {w : World} {b : Nat} {T : TypeId} {ms : List Int} (h : IRow w b T ms) (o : Obj) : IRow (w.alloc o) b T ms := by
  unfold IRow; rw [Below.heap_alloc _ _ _ h.lt]; exact h

/-- A row that was just made is known whole. -/
theorem IRow.of_owns {w : World} {base b n : Nat} {T : TypeId} {xs : List Int} (h : w.ownsRow base T 1 (.slice (some ⟨b, 0, none⟩) n n) n (xs.map (Value.int .i64))) : IRow w b T xs := by
  obtain ⟨hl, h⟩ := h
  rcases h with ⟨h, _⟩ | ⟨g, cap, cur, h, _, hg, _, _, hcs, htake⟩
  · simp at h
  · simp only [Value.slice.injEq, Option.some.injEq, Addr.mk.injEq, and_true, true_and] at h
    obtain ⟨rfl, rfl⟩ := h
    unfold IRow; rw [hg, ← htake]
    rw [List.take_of_length_le (by simp [hcs])]
end Go.Proofs.YteocofoocbnfnaaDoor
