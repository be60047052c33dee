/- The walk over RankTotal at what it does not look into. -/
import Derived.Test.YtcnggabjejkdbaaWalkG
namespace Go.Proofs.Ytcnggabjejkdbaa
open Go.RowKit
set_option linter.unusedVariables false

theorem total_else (a0 a1 : Option Addr) (n c0 l1 c1 : Nat) (damp : Int) (w : World) (hn : n ≤ 9223372036854775807) (hl2 : l1 ≤ 9223372036854775807) (h : n < 1 ∨ 40 < n ∨ l1 < n) :
    Calls Try.prog 5 #[.slice a0 n c0, .slice a1 l1 c1, .int .u64 damp] w fun e w' => e = .returned (.bool true) ∧ Below w.heap.size w w' := by
  by_cases h1 : n < 1
  · clear h
    go_enter Try.func5, Try.ntmps5
    go_wp2_with (go_at_call 11; refine (works_any _).mono ?_; rintro e w' ⟨rfl, rfl⟩)
    go_ret
    exact ⟨rfl, Below.refl _ _⟩
  · by_cases h2 : 40 < n
    · clear h
      go_enter Try.func5, Try.ntmps5
      go_wp2_with (go_at_call 11; refine (works_any _).mono ?_; rintro e w' ⟨rfl, rfl⟩)
      go_ret
      exact ⟨rfl, Below.refl _ _⟩
    · have h3 : l1 < n := by omega
      clear h
      go_enter Try.func5, Try.ntmps5
      go_wp2_with (go_at_call 11; refine (works_any _).mono ?_; rintro e w' ⟨rfl, rfl⟩)
      go_ret
      exact ⟨rfl, Below.refl _ _⟩
end Go.Proofs.Ytcnggabjejkdbaa
