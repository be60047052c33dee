/- The walk over Send. -/
import Derived.Test.YtambdhoeakddhaaWalkE
namespace Go.Proofs.Ytambdhoeakddhaa
open Go Go.RowKit Go.Conc
set_option linter.unusedVariables false

theorem eql_some (w : World) (c : Nat) : (binOp BinOp.eql 60 (.chan (some c)) (.chan none)).run Try.prog w = .ok (.bool false) w := by
  have h : ∀ d, (Op.equalIn (d + 1) 60 (.chan (some c)) (.chan none)).run Try.prog w = .ok false w := fun d => by
    simp [Op.equalIn, run_underlying Try.underlying60]
  simp [binOp, Op.equal, Op.maxDepth, h 9999]
theorem eql_none (w : World) : (binOp BinOp.eql 60 (.chan none) (.chan none)).run Try.prog w = .ok (.bool true) w := by
  have h : ∀ d, (Op.equalIn (d + 1) 60 (.chan none) (.chan none)).run Try.prog w = .ok true w := fun d => by
    simp [Op.equalIn, run_underlying Try.underlying60]
  simp [binOp, Op.equal, Op.maxDepth, h 9999]
section
variable {w w' : World} {B b bx cap n : Nat} {vw : Value} {ps : List PV} {cs : Nat → Nat} {bufs : Nat → List PV}
theorem travels_raw (h : NetAt w B b vw ps bx cap n cs bufs) (hB : B ≤ w.heap.size) (hf : ps.length < 256) (s d : Int) (a : Option Addr) (l c : Nat) (xs : List Int) (hx : BAt w a l xs) :
    Calls Try.prog 41 #[.pointer (some ⟨b, 0, none⟩), .agg #[.int .i64 s, .int .i64 d, .slice a l c]] w fun e w' => e = .returned (.int .i64 0) ∧ ∃ vw' a' c', NetAt w' B b vw' (ps ++ [⟨s, d, a', l, c'⟩]) bx cap n cs bufs ∧ POwn w' B a' l c' xs ∧ Moved B w w' :=
  travels_ok h hB hf ⟨s, d, a, l, c⟩ xs hx
theorem travels_over (h : NetAt w B b vw ps bx cap n cs bufs) (hf : 256 ≤ ps.length) (hs : ps.length ≤ 140737488355328) (s d : Int) (a : Option Addr) (l c : Nat) :
    Calls Try.prog 41 #[.pointer (some ⟨b, 0, none⟩), .agg #[.int .i64 s, .int .i64 d, .slice a l c]] w fun e w' => e = .returned (.int .i64 3) ∧ Below w.heap.size w w' :=
  travels_full h hf hs ⟨s, d, a, l, c⟩

/-- Send, both ends there, with room: the message travels, its bytes copied. -/
theorem send_ok (h : NetAt w B b vw ps bx cap n cs bufs) (hB : B ≤ w.heap.size) (hf : ps.length < 256) (s d : Nat) (hs : s < n) (hd : d < n) (a : Option Addr) (l c : Nat) (xs : List Int) (hx : BAt w a l xs) :
    Calls Try.prog 24 #[.pointer (some ⟨b, 0, none⟩), .int .i64 s, .int .i64 d, .slice a l c] w fun e w' => e = .returned (.int .i64 0) ∧ ∃ vw' a' c', NetAt w' B b vw' (ps ++ [⟨s, d, a', l, c'⟩]) bx cap n cs bufs ∧ POwn w' B a' l c' xs ∧ Moved B w w' := by
  have hn := h.n2
  have hq1 := fun w c => eql_some w c
  have hq2 := fun w => eql_none w
  go_enter Try.func24, Try.ntmps24
  go_wp2_with fail
  refine (box_in h s hs).mono ?_
  rintro e w' ⟨rfl, rfl⟩
  go_wp2_with fail
  refine (box_in h d hd).mono ?_
  rintro e w' ⟨rfl, rfl⟩
  go_wp2_with fail
  refine (travels_raw h hB hf s d a l c xs hx).mono ?_
  rintro e w' ⟨rfl, hp⟩
  have HP := Lib.hid hp
  clear hp
  go_wp2_with fail
  go_ret
  exact ⟨rfl, HP.out⟩
theorem send_full (h : NetAt w B b vw ps bx cap n cs bufs) (hf : 256 ≤ ps.length) (hl : ps.length ≤ 140737488355328) (s d : Nat) (hs : s < n) (hd : d < n) (a : Option Addr) (l c : Nat) :
    Calls Try.prog 24 #[.pointer (some ⟨b, 0, none⟩), .int .i64 s, .int .i64 d, .slice a l c] w fun e w' => e = .returned (.int .i64 3) ∧ Below w.heap.size w w' := by
  have hn := h.n2
  have hq1 := fun w c => eql_some w c
  have hq2 := fun w => eql_none w
  go_enter Try.func24, Try.ntmps24
  go_wp2_with fail
  refine (box_in h s hs).mono ?_
  rintro e w' ⟨rfl, rfl⟩
  go_wp2_with fail
  refine (box_in h d hd).mono ?_
  rintro e w' ⟨rfl, rfl⟩
  go_wp2_with fail
  refine (travels_over h hf hl s d a l c).mono ?_
  rintro e w' ⟨rfl, hp⟩
  have HP := Lib.hid hp
  clear hp
  go_wp2_with fail
  go_ret
  exact ⟨rfl, HP.out⟩
/-- Send where an end is not there. -/
theorem send_bad_from (h : NetAt w B b vw ps bx cap n cs bufs) (s d : Int) (hs : s < 0 ∨ (n : Int) ≤ s) (a : Option Addr) (l c : Nat) :
    Calls Try.prog 24 #[.pointer (some ⟨b, 0, none⟩), .int .i64 s, .int .i64 d, .slice a l c] w fun e w' => e = .returned (.int .i64 2) ∧ w = w' := by
  have hq1 := fun w c => eql_some w c
  have hq2 := fun w => eql_none w
  go_enter Try.func24, Try.ntmps24
  go_wp2_with fail
  refine (box_out h s hs).mono ?_
  rintro e w' ⟨rfl, rfl⟩
  go_wp2_with fail
  go_ret
  exact ⟨rfl, rfl⟩
theorem send_bad_to (h : NetAt w B b vw ps bx cap n cs bufs) (s : Nat) (hs : s < n) (d : Int) (hd : d < 0 ∨ (n : Int) ≤ d) (a : Option Addr) (l c : Nat) :
    Calls Try.prog 24 #[.pointer (some ⟨b, 0, none⟩), .int .i64 s, .int .i64 d, .slice a l c] w fun e w' => e = .returned (.int .i64 2) ∧ w = w' := by
  have hq1 := fun w c => eql_some w c
  have hq2 := fun w => eql_none w
  go_enter Try.func24, Try.ntmps24
  go_wp2_with fail
  refine (box_in h s hs).mono ?_
  rintro e w' ⟨rfl, rfl⟩
  go_wp2_with fail
  refine (box_out h d hd).mono ?_
  rintro e w' ⟨rfl, rfl⟩
  go_wp2_with fail
  go_ret
  exact ⟨rfl, rfl⟩
end
end Go.Proofs.Ytambdhoeakddhaa
