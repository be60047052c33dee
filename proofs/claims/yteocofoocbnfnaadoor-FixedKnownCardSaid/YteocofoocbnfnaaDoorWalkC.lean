/- The walk over the reference's Mul, as layer 7 reaches it. -/
import Derived.Test.YteocofoocbnfnaaDoorWalkB
import Derived.WalkKit
import Derived.Handy
import Derived.Deep.QuietTactic
import Derived.BigQuiet
import Derived.Lib.Hide
import Derived.WalkSmall
namespace Go.Proofs.YteocofoocbnfnaaDoor
open Go.RowKit
set_option linter.unusedVariables false

/-- What Mul returns, new blocks allowed. -/
def MulPost (a b : Int) (w : World) (e : Ending) (w' : World) : Prop :=
  e = .returned (.tuple #[.int .i64 (mulF a b).1, .int .i64 (mulF a b).2]) ∧ Below w.heap.size w w'

theorem mulPost_over (a b : Int) (w w' : World) (h0 : 0 ≤ a) (h1 : 0 ≤ b) (h : 4611686018427387904 < a * b / 4294967296) (hb : Below w.heap.size w w') :
    MulPost a b w (.returned (.tuple #[.int .i64 0, .int .i64 50])) w' := by
  have e : mulF a b = (0, 50) := by unfold mulF; rw [if_neg (by omega), if_pos h]
  refine ⟨?_, hb⟩; rw [e]

theorem mulPost_ok (a b t : Int) (w w' : World) (h0 : 0 ≤ a) (h1 : 0 ≤ b) (h : a * b / 4294967296 ≤ 4611686018427387904) (ht : t = a * b / 4294967296) (hb : Below w.heap.size w w') :
    MulPost a b w (.returned (.tuple #[.int .i64 t, .int .i64 0])) w' := by
  have e : mulF a b = (t, 0) := by unfold mulF; rw [if_neg (by omega), if_neg (by omega), ht]
  refine ⟨?_, hb⟩; rw [e]

theorem mulPost_arg (a b : Int) (w w' : World) (h : a < 0 ∨ b < 0) (hb : Below w.heap.size w w') :
    MulPost a b w (.returned (.tuple #[.int .i64 0, .int .i64 2])) w' := by
  have e : mulF a b = (0, 2) := by unfold mulF; rw [if_pos h]
  refine ⟨?_, hb⟩; rw [e]

theorem halves (a b : Int) (p q r s P X Y Z : Nat)
    (e1 : a / 4294967296 = p) (e2 : a % 4294967296 = q) (e3 : b / 4294967296 = r) (e4 : b % 4294967296 = s)
    (f1 : (p : Int) * (r : Int) = P) (f2 : (p : Int) * (s : Int) = X) (f3 : (q : Int) * (r : Int) = Y) (f4 : (q : Int) * (s : Int) = Z) :
    a * b / 4294967296 = (P : Int) * 4294967296 + X + Y + Z / 4294967296 := by
  have ea : a = (p : Int) * 4294967296 + q := by omega
  have eb : b = (r : Int) * 4294967296 + s := by omega
  have : a * b = ((P : Int) * 4294967296 + X + Y) * 4294967296 + Z := by
    rw [ea, eb, ← f1, ← f2, ← f3, ← f4, Int.add_mul, Int.mul_add, Int.mul_add]
    simp only [Int.mul_add, Int.mul_assoc, Int.mul_comm, Int.mul_left_comm, Int.add_assoc, Int.add_comm]
  omega

set_option maxHeartbeats 1000000 in
theorem refmul_small (a b : Int) (p q r s P X Y Z : Nat) (w : World)
    (e1 : a / 4294967296 = p) (e2 : a % 4294967296 = q) (e3 : b / 4294967296 = r) (e4 : b % 4294967296 = s)
    (f1 : (p : Int) * (r : Int) = P) (f2 : (p : Int) * (s : Int) = X) (f3 : (q : Int) * (r : Int) = Y) (f4 : (q : Int) * (s : Int) = Z)
    (ha : 0 ≤ a) (hb : 0 ≤ b) (ha2 : a ≤ 9223372036854775807) (hb2 : b ≤ 9223372036854775807)
    (hX : X ≤ 9223372036854775807) (hY : Y ≤ 9223372036854775807) (hZ : Z ≤ 18446744073709551615)
    (hP : P ≤ 1073741824) (hp1 : p ≤ 2147483647) (hr1 : r ≤ 2147483647) (hq1 : q ≤ 4294967295) (hs1 : s ≤ 4294967295)
    (hd : 0 < p → (r : Int) ≤ 1073741824 / (p : Int)) :
    Calls Tryd.prog 10 #[.int .i64 a, .int .i64 b] w (MulPost a b w) := by
  have H := Lib.hid (halves a b p q r s P X Y Z e1 e2 e3 e4 f1 f2 f3 f4)
  go_enter Tryd.func10, Tryd.ntmps10
  go_wp2
  go_quiet (fail)
  rename_i nq
  have hb1 : Below w.heap.size w (w.drewN nq) := below_drewN (Below.refl _ _) _
  have hz : w.heap.size ≤ (w.drewN nq).heap.size := Nat.le_refl _
  generalize w.drewN nq = w1 at *
  go_wp2
  all_goals go_rounds 4
  all_goals go_ret2
  all_goals first
    | exact mulPost_over a b w _ ha hb (by rw [H.out]; omega) (by go_grown)
    | exact mulPost_ok a b ((P : Int) * 4294967296 + X + Y + Z / 4294967296) w _ ha hb (by rw [H.out]; omega) H.out.symm (by go_grown)

theorem refmul_big (a b : Int) (p q r s : Nat) (w : World)
    (e1 : a / 4294967296 = p) (e2 : a % 4294967296 = q) (e3 : b / 4294967296 = r) (e4 : b % 4294967296 = s)
    (ha : 0 ≤ a) (hb : 0 ≤ b) (ha2 : a ≤ 9223372036854775807) (hb2 : b ≤ 9223372036854775807)
    (hp : 0 < p) (hp1 : p ≤ 2147483647) (hr1 : r ≤ 2147483647) (hq1 : q ≤ 4294967295) (hs1 : s ≤ 4294967295)
    (hd : 1073741824 / (p : Int) < (r : Int)) (hbig : 4611686018427387904 < a * b / 4294967296) :
    Calls Tryd.prog 10 #[.int .i64 a, .int .i64 b] w (MulPost a b w) := by
  have hd0 : (0 : Int) ≤ 1073741824 / (p : Int) := Int.ediv_nonneg (by omega) (by omega)
  have H := Lib.hid hbig
  clear hbig
  go_enter Tryd.func10, Tryd.ntmps10
  go_wp2
  go_quiet (fail)
  rename_i nq
  have hb1 : Below w.heap.size w (w.drewN nq) := below_drewN (Below.refl _ _) _
  generalize w.drewN nq = w1 at *
  go_wp2
  go_ret2
  exact mulPost_over a b w _ ha hb H.out hb1

theorem refmul_arg (a b : Int) (w : World) (h : a < 0 ∨ b < 0) :
    Calls Tryd.prog 10 #[.int .i64 a, .int .i64 b] w (MulPost a b w) := by
  have H := Lib.hid h
  by_cases ha : a < 0
  · clear h
    go_enter Tryd.func10, Tryd.ntmps10
    go_wp2
    go_ret2
    exact mulPost_arg a b w _ H.out (Below.refl _ _)
  · have hn : b < 0 := by omega
    clear h
    go_enter Tryd.func10, Tryd.ntmps10
    go_wp2
    go_ret2
    exact mulPost_arg a b w _ H.out (Below.refl _ _)

theorem nat_prod_le {p q A B : Nat} (h : p ≤ A) (h' : q ≤ B) : p * q ≤ A * B := Nat.mul_le_mul h h'

theorem refmul_any (a b : Int) (w : World) (ha2 : a ≤ 9223372036854775807) (hb2 : b ≤ 9223372036854775807) :
    Calls Tryd.prog 10 #[.int .i64 a, .int .i64 b] w (MulPost a b w) := by
  by_cases h : a < 0 ∨ b < 0
  · exact refmul_arg a b w h
  · have ha : 0 ≤ a := by omega
    have hb : 0 ≤ b := by omega
    clear h
    obtain ⟨p, e1⟩ := Int.eq_ofNat_of_zero_le (show 0 ≤ a / 4294967296 by omega)
    obtain ⟨q, e2⟩ := Int.eq_ofNat_of_zero_le (show 0 ≤ a % 4294967296 by omega)
    obtain ⟨r, e3⟩ := Int.eq_ofNat_of_zero_le (show 0 ≤ b / 4294967296 by omega)
    obtain ⟨s, e4⟩ := Int.eq_ofNat_of_zero_le (show 0 ≤ b % 4294967296 by omega)
    have hp1 : p ≤ 2147483647 := by omega
    have hr1 : r ≤ 2147483647 := by omega
    have hq1 : q ≤ 4294967295 := by omega
    have hs1 : s ≤ 4294967295 := by omega
    have hX := nat_prod_le hp1 hs1
    have hY := nat_prod_le hq1 hr1
    have hZ := nat_prod_le hq1 hs1
    have hh := halves a b p q r s (p * r) (p * s) (q * r) (q * s) e1 e2 e3 e4 (by simp) (by simp) (by simp) (by simp)
    by_cases hP : p * r ≤ 1073741824
    · refine refmul_small a b p q r s (p * r) (p * s) (q * r) (q * s) w e1 e2 e3 e4 (by simp) (by simp) (by simp) (by simp) ha hb ha2 hb2 (by omega) (by omega) (by omega) hP hp1 hr1 hq1 hs1 ?_
      intro hp
      rw [Int.le_ediv_iff_mul_le (by omega)]
      have : ((r * p : Nat) : Int) ≤ 1073741824 := by rw [Nat.mul_comm]; omega
      simpa using this
    · have hp : 0 < p := by
        rcases Nat.eq_zero_or_pos p with h0 | h0
        · subst h0; simp at hP
        · exact h0
      refine refmul_big a b p q r s w e1 e2 e3 e4 ha hb ha2 hb2 hp hp1 hr1 hq1 hs1 ?_ ?_
      · apply Int.ediv_lt_of_lt_mul (by omega)
        have : (1073741824 : Int) < ((r * p : Nat) : Int) := by rw [Nat.mul_comm]; omega
        simpa using this
      · rw [hh]
        have : (1073741825 : Int) ≤ ((p * r : Nat) : Int) := by omega
        omega
end Go.Proofs.YteocofoocbnfnaaDoor
