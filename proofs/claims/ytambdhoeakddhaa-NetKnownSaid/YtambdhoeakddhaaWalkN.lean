/- The walk over Delay, whole. -/
import Derived.Test.YtambdhoeakddhaaWalkM
namespace Go.Proofs.Ytambdhoeakddhaa
open Go Go.RowKit Go.Conc
set_option linter.unusedVariables false

section
variable {w w' : World} {B b bx cap n : Nat} {vw : Value} {ps : List PV} {cs : Nat → Nat} {bufs : Nat → List PV}
theorem NetAt.row_lt (h : NetAt w B b vw ps bx cap n cs bufs) (g : Nat) (hg : vw.ownBlock = some g) : g < w.heap.size := by
  rcases h.way.2 with ⟨rfl, _⟩ | ⟨g', c, cur, rfl, _, hg', _⟩
  · simp [Value.ownBlock] at hg
  · simp only [Value.ownBlock, Option.some.injEq] at hg; subst hg; exact block_lt hg'
set_option maxRecDepth 8000 in
set_option maxHeartbeats 2000000 in
theorem delay_ok {l1 l2 : List PV} {p : PV} (h : NetAt w B b vw (l1 ++ p :: l2) bx cap n cs bufs) (hB : B ≤ w.heap.size) (hlen : l1.length + l2.length < 256) :
    Calls Try.prog 16 #[.pointer (some ⟨b, 0, none⟩), .int .i64 l1.length] w fun e w' => e = .returned (.int .i64 0) ∧ ∃ vw', NetAt w' B b vw' (l1 ++ (l2 ++ [p])) bx cap n cs bufs ∧ Way w w' b vw vw' ∧ Moved B w w' := by
  have B1 : Below w.heap.size w ((w.alloc (.cells #[.pointer (some ⟨b, 0, none⟩)] 22)).alloc (.cells #[.int .i64 l1.length] 3)) := ((Below.refl _ _).alloc (Nat.le_refl _) _).alloc (by simp) _
  have k1 : ((w.alloc (.cells #[.pointer (some ⟨b, 0, none⟩)] 22)).alloc (.cells #[.int .i64 l1.length] 3)).heap[w.heap.size]? = some (.cells #[.pointer (some ⟨b, 0, none⟩)] 22 (0, 0)) := by
    rw [Below.heap_alloc _ _ _ (by simp)]; exact heap_alloc_new _ _
  have k2 : ((w.alloc (.cells #[.pointer (some ⟨b, 0, none⟩)] 22)).alloc (.cells #[.int .i64 l1.length] 3)).heap[w.heap.size + 1]? = some (.cells #[.int .i64 l1.length] 3 (0, 0)) := by
    have := heap_alloc_new (w.alloc (.cells #[.pointer (some ⟨b, 0, none⟩)] 22)) (.cells #[.int .i64 l1.length] 3); simpa only [World.size_alloc] using this
  have h1 := h.kept B1
  have hM := Moved.of_below B1 hB
  have hsz := B1.size
  have e1 := cell_of_row _ w.heap.size 0 _ 22 (0, 0) k1
  have e2 := cell_of_row _ (w.heap.size + 1) 0 _ 3 (0, 0) k2
  have HC := Lib.hid (on_fn h1 hlen 36 (.inr (.inl rfl)) _ _ _ _ (delay_cl h1 (by omega) hlen w.heap.size (w.heap.size + 1) e1 e2 (by have := block_lt h.head; omega) (fun e => by have := h.row_lt _ e.symm; omega)))
  have HB := Lib.hid B1
  clear h1 h k1 k2 hsz B1
  generalize l1.length = i at *
  go_enter Try.func16, Try.ntmps16
  go_wp2_with fail
  generalize (w.alloc (.cells #[.pointer (some ⟨b, 0, none⟩)] 22)).alloc (.cells #[.int .i64 i] 3) = w1 at *
  refine HC.out.mono ?_
  rintro e w2 ⟨rfl, vw', hN, hW, hM2⟩
  clear e1 e2
  go_wp2
  go_ret
  exact ⟨rfl, _, hN, hW.after HB.out, hM.trans hM2⟩
theorem delay_out (h : NetAt w B b vw ps bx cap n cs bufs) (hs : ps.length ≤ 256) (x : Int) (hx : x < 0 ∨ (ps.length : Int) ≤ x) :
    Calls Try.prog 16 #[.pointer (some ⟨b, 0, none⟩), .int .i64 x] w fun e w' => e = .returned (.int .i64 5) ∧ Below w.heap.size w w' := by
  have B1 : Below w.heap.size w ((w.alloc (.cells #[.pointer (some ⟨b, 0, none⟩)] 22)).alloc (.cells #[.int .i64 x] 3)) := ((Below.refl _ _).alloc (Nat.le_refl _) _).alloc (by simp) _
  have h1 := h.kept B1
  have k1 : ((w.alloc (.cells #[.pointer (some ⟨b, 0, none⟩)] 22)).alloc (.cells #[.int .i64 x] 3)).heap[w.heap.size]? = some (.cells #[.pointer (some ⟨b, 0, none⟩)] 22 (0, 0)) := by
    rw [Below.heap_alloc _ _ _ (by simp)]; exact heap_alloc_new _ _
  have k2 : ((w.alloc (.cells #[.pointer (some ⟨b, 0, none⟩)] 22)).alloc (.cells #[.int .i64 x] 3)).heap[w.heap.size + 1]? = some (.cells #[.int .i64 x] 3 (0, 0)) := by
    have := heap_alloc_new (w.alloc (.cells #[.pointer (some ⟨b, 0, none⟩)] 22)) (.cells #[.int .i64 x] 3); simpa only [World.size_alloc] using this
  have e1 := cell_of_row _ w.heap.size 0 _ 22 (0, 0) k1
  have e2 := cell_of_row _ (w.heap.size + 1) 0 _ 3 (0, 0) k2
  have HC := Lib.hid (on_out h1 hs x hx (.func (.func 36) #[] #[.pointer (some ⟨w.heap.size, 0, none⟩), .pointer (some ⟨w.heap.size + 1, 0, none⟩)]))
  have HB := Lib.hid B1
  clear h1 h k1 k2 B1 hx
  go_enter Try.func16, Try.ntmps16
  go_wp2_with fail
  generalize (w.alloc (.cells #[.pointer (some ⟨b, 0, none⟩)] 22)).alloc (.cells #[.int .i64 x] 3) = w1 at *
  refine HC.out.mono ?_
  rintro e w2 ⟨rfl, rfl⟩
  clear e1 e2
  go_wp2
  go_ret
  exact ⟨rfl, HB.out⟩
theorem delay_nil (x : Int) (w : World) : Calls Try.prog 16 #[.pointer none, .int .i64 x] w fun e w' => e = .returned (.int .i64 1) ∧ Below w.heap.size w w' := by
  have B1 : Below w.heap.size w ((w.alloc (.cells #[.pointer none] 22)).alloc (.cells #[.int .i64 x] 3)) := ((Below.refl _ _).alloc (Nat.le_refl _) _).alloc (by simp) _
  have k1 : ((w.alloc (.cells #[.pointer none] 22)).alloc (.cells #[.int .i64 x] 3)).heap[w.heap.size]? = some (.cells #[.pointer none] 22 (0, 0)) := by
    rw [Below.heap_alloc _ _ _ (by simp)]; exact heap_alloc_new _ _
  have k2 : ((w.alloc (.cells #[.pointer none] 22)).alloc (.cells #[.int .i64 x] 3)).heap[w.heap.size + 1]? = some (.cells #[.int .i64 x] 3 (0, 0)) := by
    have := heap_alloc_new (w.alloc (.cells #[.pointer none] 22)) (.cells #[.int .i64 x] 3); simpa only [World.size_alloc] using this
  have e1 := cell_of_row _ w.heap.size 0 _ 22 (0, 0) k1
  have e2 := cell_of_row _ (w.heap.size + 1) 0 _ 3 (0, 0) k2
  have HC := Lib.hid (on_nil x (.func (.func 36) #[] #[.pointer (some ⟨w.heap.size, 0, none⟩), .pointer (some ⟨w.heap.size + 1, 0, none⟩)]) ((w.alloc (.cells #[.pointer none] 22)).alloc (.cells #[.int .i64 x] 3)))
  have HB := Lib.hid B1
  clear k1 k2 B1
  go_enter Try.func16, Try.ntmps16
  go_wp2_with fail
  generalize (w.alloc (.cells #[.pointer none] 22)).alloc (.cells #[.int .i64 x] 3) = w1 at *
  refine HC.out.mono ?_
  rintro e w2 ⟨rfl, rfl⟩
  clear e1 e2
  go_wp2
  go_ret
  exact ⟨rfl, HB.out⟩

end
end Go.Proofs.Ytambdhoeakddhaa
