/- The walks over the statements at rows of calls that are too long. -/
import Derived.Test.YtpiolgpfhplhcaaWalkF
namespace Go.Proofs.Ytpiolgpfhplhcaa
open Go Go.RowKit
set_option linter.unusedVariables false
theorem plays_else (m l : Int) (a : Option Addr) (n cap : Nat) (w : World) (hn : n ≤ 9223372036854775807) (h : 1000 < n) :
    Calls Try.prog 3 #[.int .i64 m, .int .i64 l, .slice a n cap] w fun e w' => e = .returned (.bool true) ∧ Below w.heap.size w w' := by
  go_enter Try.func3, Try.ntmps3
  go_wp2_with (go_at_call 8; refine (works_any _).mono ?_; rintro e w9 ⟨rfl, B9⟩)
  go_ret
  exact ⟨rfl, B9⟩
theorem gonelaw_else (m l : Int) (a : Option Addr) (n cap : Nat) (x : Int) (w : World) (hn : n ≤ 9223372036854775807) (h : 1000 < n) :
    Calls Try.prog 4 #[.int .i64 m, .int .i64 l, .slice a n cap, .int .u8 x] w fun e w' => e = .returned (.bool true) ∧ Below w.heap.size w w' := by
  go_enter Try.func4, Try.ntmps4
  go_wp2_with (go_at_call 8; refine (works_any _).mono ?_; rintro e w9 ⟨rfl, B9⟩)
  go_ret
  exact ⟨rfl, B9⟩
theorem apart_else (m l : Int) (a : Option Addr) (n cap : Nat) (w : World) (hn : n ≤ 9223372036854775807) (h : 500 < n) :
    Calls Try.prog 6 #[.int .u8 m, .int .u8 l, .slice a n cap] w fun e w' => e = .returned (.bool true) ∧ Below w.heap.size w w' := by
  go_enter Try.func6, Try.ntmps6
  go_wp2_with (go_at_call 8; refine (works_any _).mono ?_; rintro e w9 ⟨rfl, B9⟩)
  go_ret
  exact ⟨rfl, B9⟩
theorem rise_else (m l : Int) (a : Option Addr) (n cap : Nat) (w : World) (hn : n ≤ 9223372036854775807) (h : 80 < n) :
    Calls Try.prog 7 #[.int .u8 m, .int .u8 l, .slice a n cap] w fun e w' => e = .returned (.bool true) ∧ Below w.heap.size w w' := by
  go_enter Try.func7, Try.ntmps7
  go_wp2_with (go_at_call 8; refine (works_any _).mono ?_; rintro e w9 ⟨rfl, B9⟩)
  go_ret
  exact ⟨rfl, B9⟩
end Go.Proofs.Ytpiolgpfhplhcaa
