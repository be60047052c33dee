/- The walks over Receive where nothing waits, and over Clear. -/
import Derived.Test.YtambdhoeakddhaaWalkB
namespace Go.Proofs.Ytambdhoeakddhaa
open Go Go.RowKit Go.Conc
set_option linter.unusedVariables false

def nobody : Value := .agg #[.int .i64 0, .int .i64 0, .slice none 0 0]
def pv0 : PV := ⟨0, 0, none, 0, 0⟩

theorem setChan_below {w w1 : World} (B1 : Below w.heap.size w w1) : Below w.heap.size w (put3 w1 w.heap.size pv0) := by
  have p1 := only_put3 w1 w.heap.size pv0
  exact B1.trans ⟨p1.os, p1.tape, p1.output, p1.size, fun k hk => p1.block k (Nat.lt_of_lt_of_le hk B1.size) (fun e => by have := Option.some.inj e; omega)⟩

section
variable {w w' : World} {B b bx cap n : Nat} {vw : Value} {ps : List PV} {cs : Nat → Nat} {bufs : Nat → List PV}
set_option maxHeartbeats 1000000 in
theorem receive_empty (h : NetAt w B b vw ps bx cap n cs bufs) (j : Nat) (hj : j < n) (hb : bufs j = []) :
    Calls Try.prog 13 #[.pointer (some ⟨b, 0, none⟩), .int .i64 j] w fun e w' => e = .returned (.tuple #[nobody, .bool false]) ∧ Below w.heap.size w w' := by
  obtain ⟨s, r, hch⟩ := h.chans j hj
  rw [hb] at hch
  have B1 : Below w.heap.size w (w.alloc (.cells #[.int .i64 0, .int .i64 0, .slice none 0 0] 33)) := (Below.refl _ _).alloc (Nat.le_refl _) _
  have h1 := h.kept B1
  have hch1 := (B1.block _ (block_lt hch)).trans hch
  have t2 := tri (show (w.alloc (.cells #[.int .i64 0, .int .i64 0, .slice none 0 0] 33)).heap[w.heap.size]? = some (.cells #[.int .i64 0, .int .i64 0, .slice none 0 0] 33 (0, 0)) from heap_alloc_new _ _)
  refine calls_of_wpN Try.func13 rfl ?_
  simp only [Try.ntmps13, List.size_toArray, List.length_cons, List.length_nil, Nat.reduceAdd, Nat.reduceSub, Array.replicate_succ, Array.replicate_zero, List.push_toArray, List.append_toArray, List.nil_append, List.cons_append]
  refine wpN_seq (wpN_wp ?_)
  go_wp2
  generalize w.alloc (.cells #[.int .i64 0, .int .i64 0, .slice none 0 0] 33) = w1 at *
  refine wpN_seq (wpN_seq (wpN_wp ?_))
  go_wp2_with fail
  refine (box_in h1 j hj).mono ?_
  rintro e w' ⟨rfl, rfl⟩
  go_wp2_with fail
  refine wpN_seq (wpN_region_comm (cases := #[rcase (cs j) (.agg #[.int .i64 0, .int .i64 0, .slice none 0 0])]) (shape := .select) (blocking := false) rfl (by simp [go_sem, execOp, rcase, Act.eval]) (fun fr ks es hst => step_lone_select_default hst hch1) ?_)
  have B2 := setChan_below B1
  simp only [put3, pv0] at B2
  have HB := Lib.hid B2
  clear B2
  go_wp2_with fail
  have t3 := t2.s0 (.int .i64 0)
  have t4 := t3.s1 (.int .i64 0)
  have t5 := t4.s2 (.slice none 0 0)
  obtain ⟨_, a20, a21, a22, b20, b21, b22⟩ := t2
  obtain ⟨_, a30, a31, a32, b30, b31, b32⟩ := t3
  obtain ⟨_, a40, a41, a42, b40, b41, b42⟩ := t4
  obtain ⟨_, a50, a51, a52, b50, b51, b52⟩ := t5
  refine wpN_wp ?_
  go_wp2_with fail
  refine wpN_wp ?_
  go_wp2_with fail
  refine ⟨rfl, .tuple #[nobody, .bool false], ?_, rfl, HB.out⟩
  rw [results_cell_tmp rfl]
  unfold nobody
  go_simp

set_option maxHeartbeats 1000000 in
theorem receive_out (h : NetAt w B b vw ps bx cap n cs bufs) (x : Int) (hx : x < 0 ∨ (n : Int) ≤ x) :
    Calls Try.prog 13 #[.pointer (some ⟨b, 0, none⟩), .int .i64 x] w fun e w' => e = .returned (.tuple #[nobody, .bool false]) ∧ Below w.heap.size w w' := by
  have B1 : Below w.heap.size w (w.alloc (.cells #[.int .i64 0, .int .i64 0, .slice none 0 0] 33)) := (Below.refl _ _).alloc (Nat.le_refl _) _
  have h1 := h.kept B1
  have t2 := tri (show (w.alloc (.cells #[.int .i64 0, .int .i64 0, .slice none 0 0] 33)).heap[w.heap.size]? = some (.cells #[.int .i64 0, .int .i64 0, .slice none 0 0] 33 (0, 0)) from heap_alloc_new _ _)
  refine calls_of_wpN Try.func13 rfl ?_
  simp only [Try.ntmps13, List.size_toArray, List.length_cons, List.length_nil, Nat.reduceAdd, Nat.reduceSub, Array.replicate_succ, Array.replicate_zero, List.push_toArray, List.append_toArray, List.nil_append, List.cons_append]
  refine wpN_seq (wpN_wp ?_)
  go_wp2
  generalize w.alloc (.cells #[.int .i64 0, .int .i64 0, .slice none 0 0] 33) = w1 at *
  refine wpN_seq (wpN_seq (wpN_wp ?_))
  go_wp2_with fail
  refine (box_out h1 x hx).mono ?_
  rintro e w' ⟨rfl, rfl⟩
  go_wp2_with fail
  refine wpN_seq (wpN_region_comm (w₁ := w1) (cases := #[rcaseNil (.agg #[.int .i64 0, .int .i64 0, .slice none 0 0])]) (shape := .select) (blocking := false) rfl (by simp [go_sem, execOp, rcaseNil, Act.eval]) (fun fr ks es hst => step_lone_select_recv_nil hst) ?_)
  have B2 := setChan_below B1
  simp only [put3, pv0] at B2
  have HB := Lib.hid B2
  clear B2
  go_wp2_with fail
  have t3 := t2.s0 (.int .i64 0)
  have t4 := t3.s1 (.int .i64 0)
  have t5 := t4.s2 (.slice none 0 0)
  obtain ⟨_, a20, a21, a22, b20, b21, b22⟩ := t2
  obtain ⟨_, a30, a31, a32, b30, b31, b32⟩ := t3
  obtain ⟨_, a40, a41, a42, b40, b41, b42⟩ := t4
  obtain ⟨_, a50, a51, a52, b50, b51, b52⟩ := t5
  refine wpN_wp ?_
  go_wp2_with fail
  refine wpN_wp ?_
  go_wp2_with fail
  refine ⟨rfl, .tuple #[nobody, .bool false], ?_, rfl, HB.out⟩
  rw [results_cell_tmp rfl]
  unfold nobody
  go_simp
end
end Go.Proofs.Ytambdhoeakddhaa
