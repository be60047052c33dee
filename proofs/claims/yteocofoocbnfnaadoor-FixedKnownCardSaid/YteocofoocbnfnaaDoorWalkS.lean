/- The walks over layer 7's small functions: what each returns; no block is touched. -/
import Derived.Test.YteocofoocbnfnaaDoorRows
import Derived.WalkKit
import Derived.Handy
namespace Go.Proofs.YteocofoocbnfnaaDoor
open Go.RowKit
set_option linter.unusedVariables false

theorem share_ok (a n : Int) (w : World) (ha : 0 ≤ a) (hn : 1 ≤ n) (ha2 : a ≤ 9223372036854775807) :
    Calls Tryd.prog 12 #[.int .i64 a, .int .i64 n] w fun e w' => e = .returned (.tuple #[.int .i64 (a / n), .int .i64 0]) ∧ w = w' := by
  go_enter Tryd.func12, Tryd.ntmps12
  go_wp2
  go_ret2
  exact ⟨rfl, rfl⟩

theorem share_bad (a n : Int) (w : World) (h : a < 0 ∨ n < 1) :
    Calls Tryd.prog 12 #[.int .i64 a, .int .i64 n] w fun e w' => e = .returned (.tuple #[.int .i64 0, .int .i64 2]) ∧ w = w' := by
  by_cases ha : a < 0
  · go_enter Tryd.func12, Tryd.ntmps12
    go_wp2
    go_ret2
    exact ⟨rfl, rfl⟩
  · have hn : n < 1 := by omega
    clear h
    go_enter Tryd.func12, Tryd.ntmps12
    go_wp2
    go_ret2
    exact ⟨rfl, rfl⟩
end Go.Proofs.YteocofoocbnfnaaDoor
