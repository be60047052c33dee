/- The calls of a net that is nil. -/
import Derived.Test.YtambdhoeakddhaaWalkW
namespace Go.Proofs.Ytambdhoeakddhaa
open Go Go.RowKit Go.Conc
set_option linter.unusedVariables false

theorem ends_nil (w : World) : Calls Try.prog 30 #[.pointer none] w fun e w' => e = .returned (.int .i64 0) ∧ w = w' := by
  go_enter Try.func30, Try.ntmps30
  go_wp2
  go_ret
  exact ⟨rfl, rfl⟩
theorem box_nil (x : Int) (w : World) : Calls Try.prog 35 #[.pointer none, .int .i64 x] w fun e w' => e = .returned (.chan none) ∧ w = w' := by
  by_cases h0 : x < 0
  · go_enter Try.func35, Try.ntmps35
    go_wp2_with (go_at_call 30; refine (ends_nil _).mono ?_; rintro e w' ⟨rfl, rfl⟩)
    go_ret
    exact ⟨rfl, rfl⟩
  · have h1 : 0 ≤ x := by omega
    clear h0
    go_enter Try.func35, Try.ntmps35
    go_wp2_with (go_at_call 30; refine (ends_nil _).mono ?_; rintro e w' ⟨rfl, rfl⟩)
    go_ret
    exact ⟨rfl, rfl⟩
theorem waits_nil (x : Int) (w : World) : Calls Try.prog 12 #[.pointer none, .int .i64 x] w fun e w' => e = .returned (.int .i64 0) ∧ w = w' := by
  have hlen : ∀ ty, (Builtin.len_ #[60] ty #[.chan none]).run Try.prog w = .ok (.int .i64 0) w := fun ty => run_len_nil ty w
  go_enter Try.func12, Try.ntmps12
  go_wp2_with (go_at_call 35; refine (box_nil x _).mono ?_; rintro e w' ⟨rfl, rfl⟩)
  go_ret
  exact ⟨rfl, rfl⟩
theorem clear_nil (x : Int) (w : World) : Calls Try.prog 14 #[.pointer none, .int .i64 x] w fun e w' => e = .returned (.tuple #[]) ∧ w = w' := by
  have HW := Lib.hid (waits_nil x w)
  go_enter Try.func14, Try.ntmps14
  go_wp2
  go_loopw [] (fun wr => wr = w) (fun wr => 0)
  case atStart => rfl
  case round =>
    subst hrel
    go_wp2_with fail
    refine HW.out.mono ?_
    rintro e w' ⟨rfl, rfl⟩
    go_wp2_with fail
    go_end0
    exact ⟨rfl, rfl⟩
theorem send_nil (s d : Int) (a : Option Addr) (l c : Nat) (w : World) : Calls Try.prog 24 #[.pointer none, .int .i64 s, .int .i64 d, .slice a l c] w fun e w' => e = .returned (.int .i64 1) ∧ w = w' := by
  go_enter Try.func24, Try.ntmps24
  go_wp2_with fail
  go_ret
  exact ⟨rfl, rfl⟩
theorem way_nil (w : World) : Calls Try.prog 10 #[.pointer none] w fun e w' => e = .returned (.slice none 0 0) ∧ w = w' := by
  go_enter Try.func10, Try.ntmps10
  go_wp2_with fail
  go_ret
  exact ⟨rfl, rfl⟩
set_option maxHeartbeats 1000000 in
theorem receive_nil (x : Int) (w : World) :
    Calls Try.prog 13 #[.pointer none, .int .i64 x] w fun e w' => e = .returned (.tuple #[nobody, .bool false]) ∧ Below w.heap.size w w' := by
  have B1 : Below w.heap.size w (w.alloc (.cells #[.int .i64 0, .int .i64 0, .slice none 0 0] 33)) := (Below.refl _ _).alloc (Nat.le_refl _) _
  have t2 := tri (show (w.alloc (.cells #[.int .i64 0, .int .i64 0, .slice none 0 0] 33)).heap[w.heap.size]? = some (.cells #[.int .i64 0, .int .i64 0, .slice none 0 0] 33 (0, 0)) from heap_alloc_new _ _)
  refine calls_of_wpN Try.func13 rfl ?_
  simp only [Try.ntmps13, List.size_toArray, List.length_cons, List.length_nil, Nat.reduceAdd, Nat.reduceSub, Array.replicate_succ, Array.replicate_zero, List.push_toArray, List.append_toArray, List.nil_append, List.cons_append]
  refine wpN_seq (wpN_wp ?_)
  go_wp2
  generalize w.alloc (.cells #[.int .i64 0, .int .i64 0, .slice none 0 0] 33) = w1 at *
  refine wpN_seq (wpN_seq (wpN_wp ?_))
  go_wp2_with fail
  refine (box_nil x _).mono ?_
  rintro e w' ⟨rfl, rfl⟩
  go_wp2_with fail
  refine wpN_seq (wpN_region_comm (w₁ := w1) (cases := #[rcaseNil (.agg #[.int .i64 0, .int .i64 0, .slice none 0 0])]) (shape := .select) (blocking := false) rfl (by simp [go_sem, execOp, rcaseNil, Act.eval]) (fun fr ks es hst => step_lone_select_recv_nil hst) ?_)
  have B2 := setChan_below B1
  simp only [put3, pv0] at B2
  have HB := Lib.hid B2
  clear B2
  go_wp2_with fail
  have t3 := t2.s0 (.int .i64 0)
  have t4 := t3.s1 (.int .i64 0)
  have t5 := t4.s2 (.slice none 0 0)
  obtain ⟨_, a20, a21, a22, b20, b21, b22⟩ := t2
  obtain ⟨_, a30, a31, a32, b30, b31, b32⟩ := t3
  obtain ⟨_, a40, a41, a42, b40, b41, b42⟩ := t4
  obtain ⟨_, a50, a51, a52, b50, b51, b52⟩ := t5
  refine wpN_wp ?_
  go_wp2_with fail
  refine wpN_wp ?_
  go_wp2_with fail
  refine ⟨rfl, .tuple #[nobody, .bool false], ?_, rfl, HB.out⟩
  rw [results_cell_tmp rfl]
  unfold nobody
  go_simp
end Go.Proofs.Ytambdhoeakddhaa
