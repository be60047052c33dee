/- The walks over the statements RankGive and RankTake, and over the chapter's examples. -/
import Derived.Test.YtcnggabjejkdbaaWalkE
import Derived.WalkKit
import Derived.Handy
import Derived.Lib.Hide
namespace Go.Proofs.Ytcnggabjejkdbaa
open Go.RowKit
set_option linter.unusedVariables false

theorem works_any (w : World) : Calls Try.prog 11 #[] w fun e w' => e = .returned (.bool true) ∧ w = w' := by
  have e1 : giveF 4294967296 1 = 4294967296 := by decide
  have e2 : giveF 4294967296 4 = 1073741824 := by decide
  have e3 : giveF 4294967296 0 = 0 := by decide
  have e4 : giveF 7 2 = 3 := by decide
  have e5 : giveF 7 0 = 0 := by decide
  have e6 : takeF 2 4294967296 5 4 = 7 := by decide
  have e7 : takeF 2 0 5 4 = 2147483648 := by decide
  go_enter Try.func11, Try.ntmps11
  go_wp2_with (first | (go_at_call 8; refine (start_any _ _).mono ?_; rintro e w' ⟨rfl, rfl⟩) | (go_at_call 7; refine (give_any _ _ _ (by omega)).mono ?_; rintro e w' ⟨rfl, rfl⟩) | (go_at_call 12; refine (take_any _ _ _ _ _ (by omega) (by omega) (by omega)).mono ?_; rintro e w' ⟨rfl, rfl⟩))
  go_ret
  exact ⟨rfl, rfl⟩

theorem share_mul {v n : Int} (h : 0 ≤ v) (h' : 1 ≤ n) : 0 ≤ giveF v n * n ∧ giveF v n * n ≤ v := by
  rw [giveF_ok h h']
  refine ⟨Int.mul_nonneg (Int.ediv_nonneg h (by omega)) (by omega), ?_⟩
  exact Int.ediv_mul_le v (by omega)

theorem rankgive_any (v n : Int) (w : World) (hv : v ≤ 9223372036854775807) (hn : n ≤ 9223372036854775807) :
    Calls Try.prog 3 #[.int .i64 v, .int .i64 n] w fun e w' => e = .returned (.bool true) ∧ w = w' := by
  have hy := giveF_bd 4294967296 n
  have hx := giveF_bd v n
  by_cases h : n < 1
  · go_enter Try.func3, Try.ntmps3
    go_wp2_with (first | (go_at_call 7; refine (give_any _ _ _ (by omega)).mono ?_; rintro e w' ⟨rfl, rfl⟩) | (go_at_call 8; refine (start_any _ _).mono ?_; rintro e w' ⟨rfl, rfl⟩) | (go_at_call 9; refine (refgive_any _ _ _ (by omega)).mono ?_; rintro e w' ⟨rfl, rfl⟩) | (go_at_call 10; refine (refstart_any _ _).mono ?_; rintro e w' ⟨rfl, rfl⟩) | (go_at_call 11; refine (works_any _).mono ?_; rintro e w' ⟨rfl, rfl⟩))
    go_ret
    exact ⟨rfl, rfl⟩
  · have h : 1 ≤ n := by omega
    have hm := share_mul (v := 4294967296) (by omega) h
    by_cases h2 : v < 0
    · have e : giveF v n = 0 := giveF_bad (Or.inl h2)
      go_enter Try.func3, Try.ntmps3
      go_wp2_with (first | (go_at_call 7; refine (give_any _ _ _ (by omega)).mono ?_; rintro e w' ⟨rfl, rfl⟩) | (go_at_call 8; refine (start_any _ _).mono ?_; rintro e w' ⟨rfl, rfl⟩) | (go_at_call 9; refine (refgive_any _ _ _ (by omega)).mono ?_; rintro e w' ⟨rfl, rfl⟩) | (go_at_call 10; refine (refstart_any _ _).mono ?_; rintro e w' ⟨rfl, rfl⟩) | (go_at_call 11; refine (works_any _).mono ?_; rintro e w' ⟨rfl, rfl⟩))
      go_ret
      exact ⟨rfl, rfl⟩
    · have h2 : 0 ≤ v := by omega
      have hm2 := share_mul h2 h
      go_enter Try.func3, Try.ntmps3
      go_wp2_with (first | (go_at_call 7; refine (give_any _ _ _ (by omega)).mono ?_; rintro e w' ⟨rfl, rfl⟩) | (go_at_call 8; refine (start_any _ _).mono ?_; rintro e w' ⟨rfl, rfl⟩) | (go_at_call 9; refine (refgive_any _ _ _ (by omega)).mono ?_; rintro e w' ⟨rfl, rfl⟩) | (go_at_call 10; refine (refstart_any _ _).mono ?_; rintro e w' ⟨rfl, rfl⟩) | (go_at_call 11; refine (works_any _).mono ?_; rintro e w' ⟨rfl, rfl⟩))
      go_ret
      exact ⟨rfl, rfl⟩

theorem ranktake_any (n damp mail sum : Int) (w : World) (hd : damp ≤ 9223372036854775807) (hm : mail ≤ 9223372036854775807) (hs : sum ≤ 9223372036854775807) :
    Calls Try.prog 4 #[.int .i64 n, .int .i64 damp, .int .i64 mail, .int .i64 sum] w fun e w' => e = .returned (.bool true) ∧ Below w.heap.size w w' := by
  go_enter Try.func4, Try.ntmps4
  go_wp2_with (first | (go_at_call 12; refine (take_any _ _ _ _ _ (by omega) (by omega) (by omega)).mono ?_; rintro e w' ⟨rfl, rfl⟩) | (go_at_call 13; refine (reftake_any _ _ _ _ _ (by omega) (by omega) (by omega)).mono ?_; rintro e w' ⟨rfl, hb⟩) | (go_at_call 11; refine (works_any _).mono ?_; rintro e w' ⟨rfl, rfl⟩))
  go_ret
  exact ⟨rfl, by assumption⟩
end Go.Proofs.Ytcnggabjejkdbaa
