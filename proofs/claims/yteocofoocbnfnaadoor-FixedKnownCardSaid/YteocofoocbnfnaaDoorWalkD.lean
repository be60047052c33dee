/- The walks over layer 5's Add and layer 7's own functions, the program's and the reference's. -/
import Derived.Test.YteocofoocbnfnaaDoorWalkS
import Derived.Test.YteocofoocbnfnaaDoorWalkC
import Derived.WalkKit
import Derived.Handy
import Derived.Lib.Hide
import Derived.WalkLawsBesides
namespace Go.Proofs.YteocofoocbnfnaaDoor
open Go.RowKit
set_option linter.unusedVariables false

/-- A number counted as a distance. -/
def distF (a : Int) : Int := if a < 0 then 0 else if 4611686018427387904 < a then 4611686018427387904 else a
theorem distF_bd (a : Int) : 0 ≤ distF a ∧ distF a ≤ 4611686018427387904 := by
  unfold distF; split
  · omega
  · split <;> omega

theorem distF_neg {a : Int} (h : a < 0) : distF a = 0 := by unfold distF; rw [if_pos h]
theorem distF_big {a : Int} (h : 4611686018427387904 < a) : distF a = 4611686018427387904 := by unfold distF; rw [if_neg (by omega), if_pos h]
theorem distF_mid {a : Int} (h : 0 ≤ a) (h' : a ≤ 4611686018427387904) : distF a = a := by unfold distF; rw [if_neg (by omega), if_neg (by omega)]

theorem distF_min (a : Int) : min (max a 0) 4611686018427387904 = distF a := by
  unfold distF; split
  · omega
  · split <;> omega
theorem distance_any (a : Int) (w : World) :
    Calls Tryd.prog 21 #[.int .i64 a] w fun e w' => e = .returned (.int .i64 (distF a)) ∧ w = w' := by
  have hm := distF_min a
  go_enter Tryd.func21, Tryd.ntmps21
  go_wp2
  go_ret
  exact ⟨by rw [← hm]; rfl, rfl⟩

theorem dist_any (a : Int) (w : World) :
    Calls Tryd.prog 22 #[.int .i64 a] w fun e w' => e = .returned (.int .i64 (distF a)) ∧ w = w' := by
  by_cases h1 : a < 0
  · rw [distF_neg h1]
    go_enter Tryd.func22, Tryd.ntmps22
    go_wp2
    go_ret
    exact ⟨rfl, rfl⟩
  · have h1 : 0 ≤ a := by omega
    by_cases h2 : 4611686018427387904 < a
    · rw [distF_big h2]
      go_enter Tryd.func22, Tryd.ntmps22
      go_wp2
      go_ret
      exact ⟨rfl, rfl⟩
    · have h2 : a ≤ 4611686018427387904 := by omega
      rw [distF_mid h1 h2]
      go_enter Tryd.func22, Tryd.ntmps22
      go_wp2
      go_ret
      exact ⟨rfl, rfl⟩

/-- Add as plain numbers. -/
def addF (a b : Int) : Int := if 4611686018427387904 < distF a + distF b then 4611686018427387904 else distF a + distF b
theorem addF_bd (a b : Int) : 0 ≤ addF a b ∧ addF a b ≤ 4611686018427387904 := by
  have := distF_bd a; have := distF_bd b
  unfold addF; split <;> omega

theorem addF_min (a b : Int) : min (distF a + distF b) 4611686018427387904 = addF a b := by
  unfold addF; split <;> omega
theorem add_any (a b : Int) (w : World) :
    Calls Tryd.prog 14 #[.int .i64 a, .int .i64 b] w fun e w' => e = .returned (.int .i64 (addF a b)) ∧ w = w' := by
  have ha := distF_bd a
  have hb := distF_bd b
  have hm := addF_min a b
  go_enter Tryd.func14, Tryd.ntmps14
  go_wp2_with (go_at_call 21; refine (distance_any _ _).mono ?_; rintro e w' ⟨rfl, rfl⟩)
  go_ret
  exact ⟨by rw [← hm]; rfl, rfl⟩

theorem refadd_any (a b : Int) (w : World) :
    Calls Tryd.prog 15 #[.int .i64 a, .int .i64 b] w fun e w' => e = .returned (.int .i64 (addF a b)) ∧ w = w' := by
  have ha := distF_bd a
  have hb := distF_bd b
  by_cases h : 4611686018427387904 < distF a + distF b
  · have e : addF a b = 4611686018427387904 := by unfold addF; rw [if_pos h]
    rw [e]; clear e
    go_enter Tryd.func15, Tryd.ntmps15
    go_wp2_with (go_at_call 22; refine (dist_any _ _).mono ?_; rintro e w' ⟨rfl, rfl⟩)
    go_ret
    exact ⟨rfl, rfl⟩
  · have e : addF a b = distF a + distF b := by unfold addF; rw [if_neg h]
    rw [e]; clear e
    have h : distF a + distF b ≤ 4611686018427387904 := by omega
    go_enter Tryd.func15, Tryd.ntmps15
    go_wp2_with (go_at_call 22; refine (dist_any _ _).mono ?_; rintro e w' ⟨rfl, rfl⟩)
    go_ret
    exact ⟨rfl, rfl⟩

/-- A share, 0 where there is none. -/
def giveF (v n : Int) : Int := if v < 0 ∨ n < 1 then 0 else v / n
theorem giveF_bad {v n : Int} (h : v < 0 ∨ n < 1) : giveF v n = 0 := by unfold giveF; rw [if_pos h]
theorem giveF_ok {v n : Int} (h : 0 ≤ v) (h' : 1 ≤ n) : giveF v n = v / n := by unfold giveF; rw [if_neg (by omega)]
theorem ediv_bd {v n : Int} (h : 0 ≤ v) (h' : 1 ≤ n) : 0 ≤ v / n ∧ v / n ≤ v :=
  ⟨Int.ediv_nonneg h (by omega), Int.ediv_le_self _ h⟩
theorem giveF_bd (v n : Int) : 0 ≤ giveF v n ∧ (0 ≤ v → giveF v n ≤ v) := by
  by_cases h : v < 0 ∨ n < 1
  · rw [giveF_bad h]; omega
  · rw [giveF_ok (by omega) (by omega)]
    have := ediv_bd (v := v) (n := n) (by omega) (by omega); omega

/-- Share's contract with orNone behind it: one number and one error. -/
def shareE (a n : Int) : Int := if a < 0 ∨ n < 1 then 2 else 0
theorem share_any (a n : Int) (w : World) (ha2 : a ≤ 9223372036854775807) :
    Calls Tryd.prog 12 #[.int .i64 a, .int .i64 n] w fun e w' => e = .returned (.tuple #[.int .i64 (giveF a n), .int .i64 (shareE a n)]) ∧ w = w' := by
  by_cases h : a < 0 ∨ n < 1
  · rw [giveF_bad h, show shareE a n = 2 from by unfold shareE; rw [if_pos h]]
    exact share_bad a n w h
  · rw [giveF_ok (by omega) (by omega), show shareE a n = 0 from by unfold shareE; rw [if_neg h]]
    exact share_ok a n w (by omega) (by omega) ha2

/-- How far two distances are apart. -/
def apartF (a b : Int) : Int := max (distF a) (distF b) - min (distF a) (distF b)
theorem apart_any (a b : Int) (w : World) :
    Calls Tryd.prog 16 #[.int .i64 a, .int .i64 b] w fun e w' => e = .returned (.int .i64 (apartF a b)) ∧ w = w' := by
  have ha := distF_bd a
  have hb := distF_bd b
  go_enter Tryd.func16, Tryd.ntmps16
  go_wp2_with (go_at_call 21; refine (distance_any _ _).mono ?_; rintro e w' ⟨rfl, rfl⟩)
  go_ret
  exact ⟨rfl, rfl⟩
theorem refapart_any (a b : Int) (w : World) :
    Calls Tryd.prog 17 #[.int .i64 a, .int .i64 b] w fun e w' => e = .returned (.int .i64 (apartF a b)) ∧ w = w' := by
  have ha := distF_bd a
  have hb := distF_bd b
  by_cases h : distF b < distF a
  · have hm : apartF a b = distF a - distF b := by unfold apartF; omega
    rw [hm]; clear hm
    go_enter Tryd.func17, Tryd.ntmps17
    go_wp2_with (go_at_call 22; refine (dist_any _ _).mono ?_; rintro e w' ⟨rfl, rfl⟩)
    go_ret
    exact ⟨rfl, rfl⟩
  · have hm : apartF a b = distF b - distF a := by unfold apartF; omega
    rw [hm]; clear hm
    have h : distF a ≤ distF b := by omega
    go_enter Tryd.func17, Tryd.ntmps17
    go_wp2_with (go_at_call 22; refine (dist_any _ _).mono ?_; rintro e w' ⟨rfl, rfl⟩)
    go_ret
    exact ⟨rfl, rfl⟩
theorem refshare_ok (a n : Int) (w : World) (ha : 0 ≤ a) (hn : 1 ≤ n) (ha2 : a ≤ 9223372036854775807) :
    Calls Tryd.prog 13 #[.int .i64 a, .int .i64 n] w fun e w' => e = .returned (.tuple #[.int .i64 (a / n), .int .i64 0]) ∧ w = w' := by
  go_enter Tryd.func13, Tryd.ntmps13
  go_wp2
  go_ret2
  exact ⟨rfl, rfl⟩
theorem refshare_bad (a n : Int) (w : World) (h : a < 0 ∨ n < 1) :
    Calls Tryd.prog 13 #[.int .i64 a, .int .i64 n] w fun e w' => e = .returned (.tuple #[.int .i64 0, .int .i64 2]) ∧ w = w' := by
  by_cases ha : a < 0
  · go_enter Tryd.func13, Tryd.ntmps13
    go_wp2
    go_ret2
    exact ⟨rfl, rfl⟩
  · have hn : n < 1 := by omega
    clear h
    go_enter Tryd.func13, Tryd.ntmps13
    go_wp2
    go_ret2
    exact ⟨rfl, rfl⟩
theorem refshare_any (a n : Int) (w : World) (ha2 : a ≤ 9223372036854775807) :
    Calls Tryd.prog 13 #[.int .i64 a, .int .i64 n] w fun e w' => e = .returned (.tuple #[.int .i64 (giveF a n), .int .i64 (shareE a n)]) ∧ w = w' := by
  by_cases h : a < 0 ∨ n < 1
  · rw [giveF_bad h, show shareE a n = 2 from by unfold shareE; rw [if_pos h]]
    exact refshare_bad a n w h
  · rw [giveF_ok (by omega) (by omega), show shareE a n = 0 from by unfold shareE; rw [if_neg h]]
    exact refshare_ok a n w (by omega) (by omega) ha2
end Go.Proofs.YteocofoocbnfnaaDoor
