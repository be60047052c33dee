/- The walks over the laws but the closed one. -/
import Derived.Test.YteocofoocbnfnaaDoorWalkW
namespace Go.Proofs.YteocofoocbnfnaaDoor
open Go Go.RowKit
set_option linter.unusedVariables false

theorem mulF_comm (a b : Int) : mulF b a = mulF a b := by
  unfold mulF; rw [Int.mul_comm b a]
  by_cases h : a < 0 ∨ b < 0
  · rw [if_pos h, if_pos (by omega)]
  · rw [if_neg h, if_neg (by omega)]
theorem mulF_one (a : Int) (h : 0 ≤ a) (h' : a ≤ 4611686018427387904) : mulF a 4294967296 = (a, 0) := by
  unfold mulF
  rw [if_neg (by omega), Int.mul_ediv_cancel _ (by omega), if_neg (by omega)]

set_option maxHeartbeats 2000000 in
theorem mul_law (a b : Int) (w : World) (ha : -9223372036854775808 ≤ a ∧ a ≤ 9223372036854775807) (hb : -9223372036854775808 ≤ b ∧ b ≤ 9223372036854775807) :
    Calls Tryd.prog 3 #[.int .i64 a, .int .i64 b] w fun e w' => e = .returned (.bool true) ∧ Below w.heap.size w w' := by
  have c1 := fun w => mul_any a b w ha.2 hb.2
  have c2 : ∀ w : World, Calls Tryd.prog 10 #[.int .i64 a, .int .i64 b] w fun e w' => e = .returned (.tuple #[.int .i64 (mulF a b).1, .int .i64 (mulF a b).2]) ∧ Below w.heap.size w w' := fun w => refmul_any a b w ha.2 hb.2
  have c3 := fun w => mul_any b a w hb.2 ha.2
  have c4 := fun w => mul_any a 4294967296 w ha.2 (by omega)
  have h4 : 0 ≤ a → a ≤ 4611686018427387904 → mulF a 4294967296 = (a, 0) := mulF_one a
  simp only [mulF_comm a b] at c3
  generalize mulF a b = p at *
  generalize mulF a 4294967296 = q at *
  obtain ⟨x, e⟩ := p
  obtain ⟨y, f⟩ := q
  try dsimp only at c1 c2 c3 c4
  have C1 := Lib.hid c1
  have C2 := Lib.hid c2
  have C3 := Lib.hid c3
  have C4 := Lib.hid c4
  have H4 := Lib.hid h4
  clear c1 c2 c3 c4 h4
  by_cases hin : 0 ≤ a ∧ a ≤ 4611686018427387904
  · have e4 := H4.out hin.1 hin.2
    simp only [Prod.mk.injEq] at e4
    obtain ⟨rfl, rfl⟩ := e4
    obtain ⟨hin1, hin2⟩ := hin
    go_enter Tryd.func3, Tryd.ntmps3
    go_wp2_with fail
    refine (C1.out _).mono ?_
    rintro en w' ⟨rfl, rfl⟩
    go_wp2_with fail
    refine (C2.out _).mono ?_
    rintro en w1 ⟨rfl, B1⟩
    go_wp2_with fail
    refine (C3.out _).mono ?_
    rintro en w' ⟨rfl, rfl⟩
    go_wp2_with fail
    refine (C4.out _).mono ?_
    rintro en w' ⟨rfl, rfl⟩
    go_wp2_with fail
    refine (works_any _).mono ?_
    rintro en w2 ⟨rfl, B2⟩
    go_wp2_with fail
    go_ret
    exact ⟨rfl, B1.trans (B2.mono B1.size)⟩
  · by_cases hin1 : a < 0
    · clear hin
      go_enter Tryd.func3, Tryd.ntmps3
      go_wp2_with fail
      refine (C1.out _).mono ?_
      rintro en w' ⟨rfl, rfl⟩
      go_wp2_with fail
      refine (C2.out _).mono ?_
      rintro en w1 ⟨rfl, B1⟩
      go_wp2_with fail
      refine (C3.out _).mono ?_
      rintro en w' ⟨rfl, rfl⟩
      go_wp2_with fail
      refine (C4.out _).mono ?_
      rintro en w' ⟨rfl, rfl⟩
      go_wp2_with fail
      refine (works_any _).mono ?_
      rintro en w2 ⟨rfl, B2⟩
      go_wp2_with fail
      go_ret
      exact ⟨rfl, B1.trans (B2.mono B1.size)⟩
    · have hin2 : 4611686018427387904 < a := by omega
      have hin1 : 0 ≤ a := by omega
      clear hin
      go_enter Tryd.func3, Tryd.ntmps3
      go_wp2_with fail
      refine (C1.out _).mono ?_
      rintro en w' ⟨rfl, rfl⟩
      go_wp2_with fail
      refine (C2.out _).mono ?_
      rintro en w1 ⟨rfl, B1⟩
      go_wp2_with fail
      refine (C3.out _).mono ?_
      rintro en w' ⟨rfl, rfl⟩
      go_wp2_with fail
      refine (C4.out _).mono ?_
      rintro en w' ⟨rfl, rfl⟩
      go_wp2_with fail
      refine (works_any _).mono ?_
      rintro en w2 ⟨rfl, B2⟩
      go_wp2_with fail
      go_ret
      exact ⟨rfl, B1.trans (B2.mono B1.size)⟩

theorem share_law (a n : Int) (w : World) (ha : -9223372036854775808 ≤ a ∧ a ≤ 9223372036854775807) (hn : -9223372036854775808 ≤ n ∧ n ≤ 9223372036854775807) :
    Calls Tryd.prog 4 #[.int .i64 a, .int .i64 n] w fun e w' => e = .returned (.bool true) ∧ Below w.heap.size w w' := by
  have c1 := fun w => share_any a n w ha.2
  have c2 := fun w => refshare_any a n w ha.2
  by_cases h : a < 0 ∨ n < 1
  · simp only [giveF_bad h, show shareE a n = 2 from by unfold shareE; rw [if_pos h]] at c1 c2
    have C1 := Lib.hid c1
    have C2 := Lib.hid c2
    clear c1 c2 h
    go_enter Tryd.func4, Tryd.ntmps4
    go_wp2_with fail
    refine (C1.out _).mono ?_
    rintro en w' ⟨rfl, rfl⟩
    go_wp2_with fail
    refine (C2.out _).mono ?_
    rintro en w' ⟨rfl, rfl⟩
    go_wp2_with fail
    refine (works_any _).mono ?_
    rintro en w2 ⟨rfl, B2⟩
    go_wp2_with fail
    go_ret
    exact ⟨rfl, B2⟩
  · have h0 : 0 ≤ a := by omega
    have h1 : 1 ≤ n := by omega
    simp only [giveF_ok h0 h1, show shareE a n = 0 from by unfold shareE; rw [if_neg h]] at c1 c2
    have e1 := Int.ediv_mul_le a (show n ≠ 0 by omega)
    have e2 := Int.lt_ediv_add_one_mul_self a (show 0 < n by omega)
    rw [Int.add_mul, Int.one_mul] at e2
    have e3 : 0 ≤ a / n * n := Int.mul_nonneg (Int.ediv_nonneg h0 (by omega)) (by omega)
    have e4 := ediv_bd h0 h1
    obtain ⟨x, hx⟩ : ∃ x, a / n = x := ⟨_, rfl⟩
    rw [hx] at e1 e2 e3 e4
    simp only [hx] at c1 c2
    clear hx h
    have C1 := Lib.hid c1
    have C2 := Lib.hid c2
    clear c1 c2
    generalize hp : x * n = p at *
    go_enter Tryd.func4, Tryd.ntmps4
    go_wp2_with fail
    refine (C1.out _).mono ?_
    rintro en w' ⟨rfl, rfl⟩
    go_wp2_with fail
    refine (C2.out _).mono ?_
    rintro en w' ⟨rfl, rfl⟩
    go_wp2_with fail
    refine (works_any _).mono ?_
    rintro en w2 ⟨rfl, B2⟩
    go_wp2_with fail
    go_ret
    exact ⟨rfl, B2⟩

theorem add_law (a b : Int) (w : World) :
    Calls Tryd.prog 5 #[.int .i64 a, .int .i64 b] w fun e w' => e = .returned (.bool true) ∧ Below w.heap.size w w' := by
  have C1 := Lib.hid (fun w => add_any a b w)
  have C2 := Lib.hid (fun w => refadd_any a b w)
  have C3 := Lib.hid (fun w => apart_any a b w)
  have C4 := Lib.hid (fun w => refapart_any a b w)
  generalize addF a b = x at *
  generalize apartF a b = y at *
  go_enter Tryd.func5, Tryd.ntmps5
  go_wp2_with fail
  refine (C1.out _).mono ?_
  rintro en w' ⟨rfl, rfl⟩
  go_wp2_with fail
  refine (C2.out _).mono ?_
  rintro en w' ⟨rfl, rfl⟩
  go_wp2_with fail
  refine (C3.out _).mono ?_
  rintro en w' ⟨rfl, rfl⟩
  go_wp2_with fail
  refine (C4.out _).mono ?_
  rintro en w' ⟨rfl, rfl⟩
  go_wp2_with fail
  refine (works_any _).mono ?_
  rintro en w2 ⟨rfl, B2⟩
  go_wp2_with fail
  go_ret
  exact ⟨rfl, B2⟩
end Go.Proofs.YteocofoocbnfnaaDoor
