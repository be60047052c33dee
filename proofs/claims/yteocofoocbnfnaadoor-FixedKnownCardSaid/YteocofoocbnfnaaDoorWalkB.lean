/- The walks over layer 5's Mul as layer 7 reaches it. -/
import Derived.Test.YteocofoocbnfnaaDoorShelf
import Derived.Test.YteocofoocbnfnaaDoorRows
import Derived.WalkKit
import Derived.Handy
namespace Go.Proofs.YteocofoocbnfnaaDoor
open Go.RowKit
set_option linter.unusedVariables false

theorem mul_arg (a b : Int) (w : World) (h : a < 0 ∨ b < 0) :
    Calls Tryd.prog 9 #[.int .i64 a, .int .i64 b] w fun e w' => e = .returned (.tuple #[.int .i64 0, .int .i64 2]) ∧ w = w' := by
  by_cases ha : a < 0
  · go_enter Tryd.func9, Tryd.ntmps9
    go_wp2
    go_ret2
    exact ⟨rfl, rfl⟩
  · have hn : b < 0 := by omega
    clear h
    go_enter Tryd.func9, Tryd.ntmps9
    go_wp2
    go_ret2
    exact ⟨rfl, rfl⟩

theorem or_join (hi lo : Nat) (h1 : hi < 4294967296) (h2 : lo < 18446744073709551616) :
    bits .or .u64 ((hi : Int) * 4294967296) ((lo : Int) / 4294967296) = ((hi * 4294967296 + lo / 4294967296 : Nat) : Int) := by
  have e1 : (hi : Int) * 4294967296 = ((hi * 4294967296 : Nat) : Int) := by simp
  have e2 : (lo : Int) / 4294967296 = ((lo / 4294967296 : Nat) : Int) := by simp
  rw [e1, e2, bits_or_u64_nat _ _ (by omega) (by omega)]
  have := Nat.two_pow_add_eq_or_of_lt (i := 32) (b := lo / 4294967296) (by omega) hi
  rw [Nat.mul_comm hi]
  exact congrArg Int.ofNat this.symm

theorem mul_ok (a b : Nat) (w : World) (ha : a ≤ 9223372036854775807) (hb : b ≤ 9223372036854775807) (h : a * b / 4294967296 ≤ 4611686018427387904) :
    Calls Tryd.prog 9 #[.int .i64 a, .int .i64 b] w fun e w' => e = .returned (.tuple #[.int .i64 ((a * b / 4294967296 : Nat) : Int), .int .i64 0]) ∧ w = w' := by
  have hj := or_join (a * b / 18446744073709551616) (a * b % 18446744073709551616) (by omega) (by omega)
  rw [show a * b / 18446744073709551616 * 4294967296 + a * b % 18446744073709551616 / 4294967296 = a * b / 4294967296 from by omega] at hj
  have hs : a * b / 18446744073709551616 < 4294967296 := by omega
  have hl : a * b % 18446744073709551616 < 18446744073709551616 := by omega
  generalize hp : a * b / 18446744073709551616 = hi at *
  generalize hq : a * b % 18446744073709551616 = lo at *
  generalize a * b / 4294967296 = r at *
  go_enter Tryd.func9, Tryd.ntmps9
  go_wp2_with (go_at_call 20; refine (Tryd.bits_Mul64 _ _ (by omega) (by omega) _).mono ?_; rintro e w' ⟨rfl, rfl⟩)
  go_ret2
  exact ⟨rfl, rfl⟩

theorem mul_over (a b : Nat) (w : World) (ha : a ≤ 9223372036854775807) (hb : b ≤ 9223372036854775807) (h : 4611686018427387904 < a * b / 4294967296) :
    Calls Tryd.prog 9 #[.int .i64 a, .int .i64 b] w fun e w' => e = .returned (.tuple #[.int .i64 0, .int .i64 50]) ∧ w = w' := by
  by_cases hh : a * b / 18446744073709551616 < 4294967296
  · have hj := or_join (a * b / 18446744073709551616) (a * b % 18446744073709551616) (by omega) (by omega)
    rw [show a * b / 18446744073709551616 * 4294967296 + a * b % 18446744073709551616 / 4294967296 = a * b / 4294967296 from by omega] at hj
    have hl : a * b % 18446744073709551616 < 18446744073709551616 := by omega
    generalize hp : a * b / 18446744073709551616 = hi at *
    generalize hq : a * b % 18446744073709551616 = lo at *
    generalize a * b / 4294967296 = r at *
    go_enter Tryd.func9, Tryd.ntmps9
    go_wp2_with (go_at_call 20; refine (Tryd.bits_Mul64 _ _ (by omega) (by omega) _).mono ?_; rintro e w' ⟨rfl, rfl⟩)
    go_ret2
    exact ⟨rfl, rfl⟩
  · have hk : 4294967296 ≤ a * b / 18446744073709551616 := by omega
    have hk2 : a * b / 18446744073709551616 < 18446744073709551616 := by
      have := Nat.mul_le_mul ha hb
      omega
    have hl : a * b % 18446744073709551616 < 18446744073709551616 := by omega
    clear h hh
    generalize hp : a * b / 18446744073709551616 = hi at *
    generalize hq : a * b % 18446744073709551616 = lo at *
    go_enter Tryd.func9, Tryd.ntmps9
    go_wp2_with (go_at_call 20; refine (Tryd.bits_Mul64 _ _ (by omega) (by omega) _).mono ?_; rintro e w' ⟨rfl, rfl⟩)
    go_ret2
    exact ⟨rfl, rfl⟩

/-- fixed.Mul as plain numbers. -/
def mulF (a b : Int) : Int × Int :=
  if a < 0 ∨ b < 0 then (0, 2) else if 4611686018427387904 < a * b / 4294967296 then (0, 50) else (a * b / 4294967296, 0)

theorem mul_any (a b : Int) (w : World) (ha : a ≤ 9223372036854775807) (hb : b ≤ 9223372036854775807) :
    Calls Tryd.prog 9 #[.int .i64 a, .int .i64 b] w fun e w' => e = .returned (.tuple #[.int .i64 (mulF a b).1, .int .i64 (mulF a b).2]) ∧ w = w' := by
  by_cases h : a < 0 ∨ b < 0
  · have e : mulF a b = (0, 2) := by simp [mulF, h]
    rw [e]; exact mul_arg a b w h
  · obtain ⟨x, rfl⟩ := Int.eq_ofNat_of_zero_le (show 0 ≤ a by omega)
    obtain ⟨y, rfl⟩ := Int.eq_ofNat_of_zero_le (show 0 ≤ b by omega)
    have ec : (x : Int) * (y : Int) / 4294967296 = ((x * y / 4294967296 : Nat) : Int) := by simp
    by_cases h2 : x * y / 4294967296 ≤ 4611686018427387904
    · have e : mulF x y = (((x * y / 4294967296 : Nat) : Int), 0) := by
        unfold mulF; rw [if_neg h, ec, if_neg (by omega)]
      rw [e]; exact mul_ok x y w (by omega) (by omega) h2
    · have e : mulF x y = (0, 50) := by
        unfold mulF; rw [if_neg h, ec, if_pos (by omega)]
      rw [e]; exact mul_over x y w (by omega) (by omega) (by omega)
end Go.Proofs.YteocofoocbnfnaaDoor
