/- The walks over Drop and Double. -/
import Derived.Test.YtambdhoeakddhaaWalkK
namespace Go.Proofs.Ytambdhoeakddhaa
open Go Go.RowKit Go.Conc
set_option linter.unusedVariables false

theorem Way.after {w w1 w2 : World} {b : Nat} {vw vw' : Value} (hb : Below w.heap.size w w1) (h : Way w1 w2 b vw vw') : Way w w2 b vw vw' :=
  ⟨fun k hk hne hv => (h.block k (Nat.lt_of_lt_of_le hk hb.size) hne hv).trans (hb.block k hk), fun g hg => (h.row g hg).imp id (fun e => Nat.le_trans hb.size e)⟩

section
variable {w w' : World} {B b bx cap n : Nat} {vw : Value} {ps : List PV} {cs : Nat → Nat} {bufs : Nat → List PV}
set_option maxRecDepth 8000 in
set_option maxHeartbeats 2000000 in
theorem drop_cl {l1 l2 : List PV} {p : PV} (h : NetAt w B b vw (l1 ++ p :: l2) bx cap n cs bufs) (hB : B ≤ w.heap.size) (hlen : l1.length + l2.length < 256) (c1 c2 : Nat)
    (h1 : w.cell? ⟨c1, 0, none⟩ = some (.pointer (some ⟨b, 0, none⟩))) (h2 : w.cell? ⟨c2, 0, none⟩ = some (.int .i64 l1.length)) :
    Calls Try.prog 42 #[.agg #[.int .i64 p.src, .int .i64 p.dst, .slice p.a p.len p.cap], .pointer (some ⟨c1, 0, none⟩), .pointer (some ⟨c2, 0, none⟩)] w fun e w' => e = .returned (.int .i64 0) ∧ ∃ vw', NetAt w' B b vw' (l1 ++ l2) bx cap n cs bufs ∧ Way w w' b vw vw' ∧ Moved B w w' := by
  have B1 : Below w.heap.size w (w.alloc (.cells #[.int .i64 p.src, .int .i64 p.dst, .slice p.a p.len p.cap] 33)) := (Below.refl _ _).alloc (Nat.le_refl _) _
  have k1 := (B1.cell (World.block_lt_of_cell? w _ h1)).trans h1
  have k2 := (B1.cell (World.block_lt_of_cell? w _ h2)).trans h2
  have HO := Lib.hid (off_raw (h.kept B1) hlen)
  clear h h1 h2
  generalize l1.length = i at *
  go_enter Try.func42, Try.ntmps42
  go_wp2_with fail
  refine HO.out.mono ?_
  rintro e w2 ⟨rfl, vw', hN, hW, hM⟩
  have HB := Lib.hid B1
  clear B1 k1 k2
  generalize w.alloc (.cells #[.int .i64 p.src, .int .i64 p.dst, .slice p.a p.len p.cap] 33) = w1 at *
  go_wp2
  go_ret
  exact ⟨rfl, _, hN, hW.after HB.out, (Moved.of_below HB.out hB).trans hM⟩

set_option maxRecDepth 8000 in
set_option maxHeartbeats 2000000 in
theorem drop_ok {l1 l2 : List PV} {p : PV} (h : NetAt w B b vw (l1 ++ p :: l2) bx cap n cs bufs) (hB : B ≤ w.heap.size) (hlen : l1.length + l2.length < 256) :
    Calls Try.prog 29 #[.pointer (some ⟨b, 0, none⟩), .int .i64 l1.length] w fun e w' => e = .returned (.int .i64 0) ∧ ∃ vw', NetAt w' B b vw' (l1 ++ l2) bx cap n cs bufs ∧ Way w w' b vw vw' ∧ Moved B w w' := by
  have B1 : Below w.heap.size w ((w.alloc (.cells #[.pointer (some ⟨b, 0, none⟩)] 22)).alloc (.cells #[.int .i64 l1.length] 3)) := ((Below.refl _ _).alloc (Nat.le_refl _) _).alloc (by simp) _
  have k1 : ((w.alloc (.cells #[.pointer (some ⟨b, 0, none⟩)] 22)).alloc (.cells #[.int .i64 l1.length] 3)).heap[w.heap.size]? = some (.cells #[.pointer (some ⟨b, 0, none⟩)] 22 (0, 0)) := by
    rw [Below.heap_alloc _ _ _ (by simp)]; exact heap_alloc_new _ _
  have k2 : ((w.alloc (.cells #[.pointer (some ⟨b, 0, none⟩)] 22)).alloc (.cells #[.int .i64 l1.length] 3)).heap[w.heap.size + 1]? = some (.cells #[.int .i64 l1.length] 3 (0, 0)) := by
    have := heap_alloc_new (w.alloc (.cells #[.pointer (some ⟨b, 0, none⟩)] 22)) (.cells #[.int .i64 l1.length] 3); simpa only [World.size_alloc] using this
  have h1 := h.kept B1
  have hM := Moved.of_below B1 hB
  have hsz := B1.size
  have e1 := cell_of_row _ w.heap.size 0 _ 22 (0, 0) k1
  have e2 := cell_of_row _ (w.heap.size + 1) 0 _ 3 (0, 0) k2
  have HC := Lib.hid (on_fn h1 hlen 42 (.inr (.inr rfl)) _ _ _ _ (drop_cl h1 (by omega) hlen w.heap.size (w.heap.size + 1) e1 e2))
  have HB := Lib.hid B1
  clear h1 h k1 k2 hsz B1
  generalize l1.length = i at *
  go_enter Try.func29, Try.ntmps29
  go_wp2_with fail
  generalize (w.alloc (.cells #[.pointer (some ⟨b, 0, none⟩)] 22)).alloc (.cells #[.int .i64 i] 3) = w1 at *
  refine HC.out.mono ?_
  rintro e w2 ⟨rfl, vw', hN, hW, hM2⟩
  clear e1 e2
  go_wp2
  go_ret
  exact ⟨rfl, _, hN, hW.after HB.out, hM.trans hM2⟩
theorem drop_out (h : NetAt w B b vw ps bx cap n cs bufs) (hs : ps.length ≤ 256) (x : Int) (hx : x < 0 ∨ (ps.length : Int) ≤ x) :
    Calls Try.prog 29 #[.pointer (some ⟨b, 0, none⟩), .int .i64 x] w fun e w' => e = .returned (.int .i64 5) ∧ Below w.heap.size w w' := by
  have B1 : Below w.heap.size w ((w.alloc (.cells #[.pointer (some ⟨b, 0, none⟩)] 22)).alloc (.cells #[.int .i64 x] 3)) := ((Below.refl _ _).alloc (Nat.le_refl _) _).alloc (by simp) _
  have h1 := h.kept B1
  have k1 : ((w.alloc (.cells #[.pointer (some ⟨b, 0, none⟩)] 22)).alloc (.cells #[.int .i64 x] 3)).heap[w.heap.size]? = some (.cells #[.pointer (some ⟨b, 0, none⟩)] 22 (0, 0)) := by
    rw [Below.heap_alloc _ _ _ (by simp)]; exact heap_alloc_new _ _
  have k2 : ((w.alloc (.cells #[.pointer (some ⟨b, 0, none⟩)] 22)).alloc (.cells #[.int .i64 x] 3)).heap[w.heap.size + 1]? = some (.cells #[.int .i64 x] 3 (0, 0)) := by
    have := heap_alloc_new (w.alloc (.cells #[.pointer (some ⟨b, 0, none⟩)] 22)) (.cells #[.int .i64 x] 3); simpa only [World.size_alloc] using this
  have e1 := cell_of_row _ w.heap.size 0 _ 22 (0, 0) k1
  have e2 := cell_of_row _ (w.heap.size + 1) 0 _ 3 (0, 0) k2
  have HC := Lib.hid (on_out h1 hs x hx (.func (.func 42) #[] #[.pointer (some ⟨w.heap.size, 0, none⟩), .pointer (some ⟨w.heap.size + 1, 0, none⟩)]))
  have HB := Lib.hid B1
  clear h1 h k1 k2 B1 hx
  go_enter Try.func29, Try.ntmps29
  go_wp2_with fail
  generalize (w.alloc (.cells #[.pointer (some ⟨b, 0, none⟩)] 22)).alloc (.cells #[.int .i64 x] 3) = w1 at *
  refine HC.out.mono ?_
  rintro e w2 ⟨rfl, rfl⟩
  clear e1 e2
  go_wp2
  go_ret
  exact ⟨rfl, HB.out⟩
theorem drop_nil (x : Int) (w : World) : Calls Try.prog 29 #[.pointer none, .int .i64 x] w fun e w' => e = .returned (.int .i64 1) ∧ Below w.heap.size w w' := by
  have B1 : Below w.heap.size w ((w.alloc (.cells #[.pointer none] 22)).alloc (.cells #[.int .i64 x] 3)) := ((Below.refl _ _).alloc (Nat.le_refl _) _).alloc (by simp) _
  have k1 : ((w.alloc (.cells #[.pointer none] 22)).alloc (.cells #[.int .i64 x] 3)).heap[w.heap.size]? = some (.cells #[.pointer none] 22 (0, 0)) := by
    rw [Below.heap_alloc _ _ _ (by simp)]; exact heap_alloc_new _ _
  have k2 : ((w.alloc (.cells #[.pointer none] 22)).alloc (.cells #[.int .i64 x] 3)).heap[w.heap.size + 1]? = some (.cells #[.int .i64 x] 3 (0, 0)) := by
    have := heap_alloc_new (w.alloc (.cells #[.pointer none] 22)) (.cells #[.int .i64 x] 3); simpa only [World.size_alloc] using this
  have e1 := cell_of_row _ w.heap.size 0 _ 22 (0, 0) k1
  have e2 := cell_of_row _ (w.heap.size + 1) 0 _ 3 (0, 0) k2
  have HC := Lib.hid (on_nil x (.func (.func 42) #[] #[.pointer (some ⟨w.heap.size, 0, none⟩), .pointer (some ⟨w.heap.size + 1, 0, none⟩)]) ((w.alloc (.cells #[.pointer none] 22)).alloc (.cells #[.int .i64 x] 3)))
  have HB := Lib.hid B1
  clear k1 k2 B1
  go_enter Try.func29, Try.ntmps29
  go_wp2_with fail
  generalize (w.alloc (.cells #[.pointer none] 22)).alloc (.cells #[.int .i64 x] 3) = w1 at *
  refine HC.out.mono ?_
  rintro e w2 ⟨rfl, rfl⟩
  clear e1 e2
  go_wp2
  go_ret
  exact ⟨rfl, HB.out⟩

/-! Double -/
theorem double_out (h : NetAt w B b vw ps bx cap n cs bufs) (hs : ps.length ≤ 256) (x : Int) (hx : x < 0 ∨ (ps.length : Int) ≤ x) :
    Calls Try.prog 28 #[.pointer (some ⟨b, 0, none⟩), .int .i64 x] w fun e w' => e = .returned (.int .i64 5) ∧ w = w' := by
  have HC := Lib.hid (on_out h hs x hx (.func (.func 41) #[.pointer (some ⟨b, 0, none⟩)] #[]))
  clear h hx
  go_enter Try.func28, Try.ntmps28
  go_wp2_with fail
  refine HC.out.mono ?_
  rintro e w2 ⟨rfl, rfl⟩
  go_wp2
  go_ret
  exact ⟨rfl, rfl⟩
theorem double_nil (x : Int) (w : World) : Calls Try.prog 28 #[.pointer none, .int .i64 x] w fun e w' => e = .returned (.int .i64 1) ∧ w = w' := by
  have HC := Lib.hid (on_nil x (.func (.func 41) #[.pointer none] #[]) w)
  go_enter Try.func28, Try.ntmps28
  go_wp2_with fail
  refine HC.out.mono ?_
  rintro e w2 ⟨rfl, rfl⟩
  go_wp2
  go_ret
  exact ⟨rfl, rfl⟩
theorem double_fn {l1 l2 : List PV} {p : PV} (h : NetAt w B b vw (l1 ++ p :: l2) bx cap n cs bufs) (hs : l1.length + l2.length < 256) (r : Int) (R : World → Prop)
    (hK : Calls Try.prog 41 #[.pointer (some ⟨b, 0, none⟩), .agg #[.int .i64 p.src, .int .i64 p.dst, .slice p.a p.len p.cap]] w fun e w' => e = .returned (.int .i64 r) ∧ R w') :
    Calls Try.prog 28 #[.pointer (some ⟨b, 0, none⟩), .int .i64 l1.length] w fun e w' => e = .returned (.int .i64 r) ∧ R w' := by
  have HC := Lib.hid (on_method h hs _ r R hK)
  clear h hK
  go_enter Try.func28, Try.ntmps28
  go_wp2_with fail
  refine HC.out.mono ?_
  rintro e w2 ⟨rfl, hR⟩
  go_wp2
  go_ret
  exact ⟨rfl, hR⟩
end
end Go.Proofs.Ytambdhoeakddhaa
