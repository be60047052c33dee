/- The walks over the chapter's examples and over the laws but the closed one. -/
import Derived.Test.YteocofoocbnfnaaDoorWalkC
import Derived.Test.YteocofoocbnfnaaDoorWalkD
import Derived.Test.YteocofoocbnfnaaDoorWalkT
import Derived.Lib.AppendIntMem
namespace Go.Proofs.YteocofoocbnfnaaDoor
open Go Go.RowKit
set_option linter.unusedVariables false

theorem text_small (a : Nat) (ha : a ≤ 9223372036854775807) (hs : a / 4294967296 < 100) (w : World) :
    Calls Tryd.prog 18 #[.int .i64 a] w fun e w' => e = .returned (.string ⟨(textL a).toArray⟩) ∧ Below w.heap.size w w' :=
  text_pos a ha w (fun w2 _ => (Tryd.strconv_FormatInt_10_small (a / 4294967296) hs w2).mono (by rintro e w' ⟨rfl, rfl⟩; exact ⟨rfl, Below.refl _ _⟩))

theorem textL_ex : textL 6442450944 = [49, 46, 53, 48, 48, 48, 48, 48, 48, 48, 48] := by
  unfold textL
  rw [show 6442450944 / 4294967296 = 1 from rfl, Lib.decDigits_one (by omega)]
  rfl

set_option maxHeartbeats 4000000 in
theorem works_any (w : World) : Calls Tryd.prog 11 #[] w fun e w' => e = .returned (.bool true) ∧ Below w.heap.size w w' := by
  have c1 := fun w => mul_any 2147483648 3 w (by omega) (by omega)
  have c2 := fun w => mul_any 4611686018427387904 4294967297 w (by omega) (by omega)
  have c3 := fun w => mul_any (-1) 1 w (by omega) (by omega)
  have c4 := fun w => share_any 7 2 w (by omega)
  have c5 := fun w => add_any 4611686018427387903 5 w
  have c6 := fun w => add_any (-3) 4 w
  have c7 := fun w => apart_any 2 9 w
  have c8 := fun w => text_small 6442450944 (by omega) (by omega) w
  rw [show mulF 2147483648 3 = (1, 0) from by decide] at c1
  rw [show mulF 4611686018427387904 4294967297 = (0, 50) from by decide] at c2
  rw [show mulF (-1) 1 = (0, 2) from by decide] at c3
  rw [show giveF 7 2 = 3 from by decide, show shareE 7 2 = 0 from by decide] at c4
  rw [show addF 4611686018427387903 5 = 4611686018427387904 from by decide] at c5
  rw [show addF (-3) 4 = 4 from by decide] at c6
  rw [show apartF 2 9 = 7 from by decide] at c7
  rw [textL_ex] at c8
  have C1 := Lib.hid c1
  have C2 := Lib.hid c2
  have C3 := Lib.hid c3
  have C4 := Lib.hid c4
  have C5 := Lib.hid c5
  have C6 := Lib.hid c6
  have C7 := Lib.hid c7
  have C8 := Lib.hid c8
  clear c1 c2 c3 c4 c5 c6 c7 c8
  go_enter Tryd.func11, Tryd.ntmps11
  go_wp2_with fail
  refine (C1.out _).mono ?_
  rintro e w' ⟨rfl, rfl⟩
  go_wp2_with fail
  refine (C2.out _).mono ?_
  rintro e w' ⟨rfl, rfl⟩
  go_wp2_with fail
  refine (C3.out _).mono ?_
  rintro e w' ⟨rfl, rfl⟩
  go_wp2_with fail
  refine (C4.out _).mono ?_
  rintro e w' ⟨rfl, rfl⟩
  go_wp2_with fail
  refine (C5.out _).mono ?_
  rintro e w' ⟨rfl, rfl⟩
  go_wp2_with fail
  refine (C6.out _).mono ?_
  rintro e w' ⟨rfl, rfl⟩
  go_wp2_with fail
  refine (C7.out _).mono ?_
  rintro e w' ⟨rfl, rfl⟩
  go_wp2_with fail
  refine (C8.out _).mono ?_
  rintro e w' ⟨rfl, B⟩
  go_wp2_with fail
  go_ret
  exact ⟨rfl, B⟩
end Go.Proofs.YteocofoocbnfnaaDoor
