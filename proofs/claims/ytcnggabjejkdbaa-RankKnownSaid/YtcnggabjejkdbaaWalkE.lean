/- The walks over layer 7's Start, Give, Take, the program's and the reference's, and over the chapter's examples. -/
import Derived.Test.YtcnggabjejkdbaaWalkD
import Derived.WalkKit
import Derived.Handy
import Derived.Lib.Hide
namespace Go.Proofs.Ytcnggabjejkdbaa
open Go.RowKit
set_option linter.unusedVariables false

theorem start_any (n : Int) (w : World) :
    Calls Try.prog 8 #[.int .i64 n] w fun e w' => e = .returned (.int .i64 (giveF 4294967296 n)) ∧ w = w' := by
  go_enter Try.func8, Try.ntmps8
  go_wp2_with (first | (go_at_call 15; refine (share_any _ _ _ (by omega)).mono ?_; rintro e w' ⟨rfl, rfl⟩) | (go_at_call 14; refine (none_share _ _ _).mono ?_; rintro e w' ⟨rfl, rfl⟩))
  go_ret
  exact ⟨rfl, rfl⟩

theorem refgive_any (v n : Int) (w : World) (hv : v ≤ 9223372036854775807) :
    Calls Try.prog 9 #[.int .i64 v, .int .i64 n] w fun e w' => e = .returned (.int .i64 (giveF v n)) ∧ w = w' := by
  by_cases h1 : n < 1
  · rw [giveF_bad (Or.inr h1)]
    go_enter Try.func9, Try.ntmps9
    go_wp2
    go_ret
    exact ⟨rfl, rfl⟩
  · by_cases h2 : v < 0
    · rw [giveF_bad (Or.inl h2)]
      go_enter Try.func9, Try.ntmps9
      go_wp2
      go_ret
      exact ⟨rfl, rfl⟩
    · have h1 : 1 ≤ n := by omega
      have h2 : 0 ≤ v := by omega
      rw [giveF_ok h2 h1]
      have hd := ediv_bd h2 h1
      go_enter Try.func9, Try.ntmps9
      go_wp2
      go_ret
      exact ⟨rfl, rfl⟩

theorem refstart_any (n : Int) (w : World) :
    Calls Try.prog 10 #[.int .i64 n] w fun e w' => e = .returned (.int .i64 (giveF 4294967296 n)) ∧ w = w' := by
  by_cases h1 : n < 1
  · rw [giveF_bad (Or.inr h1)]
    go_enter Try.func10, Try.ntmps10
    go_wp2
    go_ret
    exact ⟨rfl, rfl⟩
  · have h1 : 1 ≤ n := by omega
    rw [giveF_ok (by omega) h1]
    go_enter Try.func10, Try.ntmps10
    go_wp2
    go_ret
    exact ⟨rfl, rfl⟩

/-- What a vertex has next. -/
def takeF (n damp mail sum : Int) : Int :=
  if n < 1 ∨ damp < 0 ∨ 4294967296 < damp ∨ mail < 0 ∨ sum < 0 then 0
  else if (mulF damp (addF mail (sum / n))).2 ≠ 0 then 0
  else (4294967296 - damp) / n + (mulF damp (addF mail (sum / n))).1
theorem mulF_bd (a b : Int) : 0 ≤ (mulF a b).1 ∧ (mulF a b).1 ≤ 4611686018427387904 := by
  unfold mulF; split
  · simp
  · split
    · simp
    · have : 0 ≤ a * b / 4294967296 := Int.ediv_nonneg (Int.mul_nonneg (by omega) (by omega)) (by omega)
      simp; omega
theorem takeF_bad {n damp mail sum : Int} (h : n < 1 ∨ damp < 0 ∨ 4294967296 < damp ∨ mail < 0 ∨ sum < 0) : takeF n damp mail sum = 0 := by unfold takeF; rw [if_pos h]

theorem take_bad1 (n damp mail sum : Int) (w : World)  (h : n < 1) :
    Calls Try.prog 12 #[.int .i64 n, .int .i64 damp, .int .i64 mail, .int .i64 sum] w fun e w' => e = .returned (.int .i64 0) ∧ w = w' := by
  go_enter Try.func12, Try.ntmps12
  go_wp2
  go_ret
  exact ⟨rfl, rfl⟩
theorem take_bad2 (n damp mail sum : Int) (w : World) (g0 : 1 ≤ n) (h : damp < 0) :
    Calls Try.prog 12 #[.int .i64 n, .int .i64 damp, .int .i64 mail, .int .i64 sum] w fun e w' => e = .returned (.int .i64 0) ∧ w = w' := by
  go_enter Try.func12, Try.ntmps12
  go_wp2
  go_ret
  exact ⟨rfl, rfl⟩
theorem take_bad3 (n damp mail sum : Int) (w : World) (g0 : 1 ≤ n) (g1 : 0 ≤ damp) (h : 4294967296 < damp) :
    Calls Try.prog 12 #[.int .i64 n, .int .i64 damp, .int .i64 mail, .int .i64 sum] w fun e w' => e = .returned (.int .i64 0) ∧ w = w' := by
  go_enter Try.func12, Try.ntmps12
  go_wp2
  go_ret
  exact ⟨rfl, rfl⟩
theorem take_bad4 (n damp mail sum : Int) (w : World) (g0 : 1 ≤ n) (g1 : 0 ≤ damp) (g2 : damp ≤ 4294967296) (h : mail < 0) :
    Calls Try.prog 12 #[.int .i64 n, .int .i64 damp, .int .i64 mail, .int .i64 sum] w fun e w' => e = .returned (.int .i64 0) ∧ w = w' := by
  go_enter Try.func12, Try.ntmps12
  go_wp2
  go_ret
  exact ⟨rfl, rfl⟩
theorem take_bad5 (n damp mail sum : Int) (w : World) (g0 : 1 ≤ n) (g1 : 0 ≤ damp) (g2 : damp ≤ 4294967296) (g3 : 0 ≤ mail) (h : sum < 0) :
    Calls Try.prog 12 #[.int .i64 n, .int .i64 damp, .int .i64 mail, .int .i64 sum] w fun e w' => e = .returned (.int .i64 0) ∧ w = w' := by
  go_enter Try.func12, Try.ntmps12
  go_wp2
  go_ret
  exact ⟨rfl, rfl⟩
theorem take_bad (n damp mail sum : Int) (w : World) (h : n < 1 ∨ damp < 0 ∨ 4294967296 < damp ∨ mail < 0 ∨ sum < 0) :
    Calls Try.prog 12 #[.int .i64 n, .int .i64 damp, .int .i64 mail, .int .i64 sum] w fun e w' => e = .returned (.int .i64 0) ∧ w = w' := by
  by_cases c0 : n < 1
  · exact take_bad1 n damp mail sum w  c0
  by_cases c1 : damp < 0
  · exact take_bad2 n damp mail sum w (by omega) c1
  by_cases c2 : 4294967296 < damp
  · exact take_bad3 n damp mail sum w (by omega) (by omega) c2
  by_cases c3 : mail < 0
  · exact take_bad4 n damp mail sum w (by omega) (by omega) (by omega) c3
  exact take_bad5 n damp mail sum w (by omega) (by omega) (by omega) (by omega) (by omega)
theorem reftake_bad1 (n damp mail sum : Int) (w : World)  (h : n < 1) :
    Calls Try.prog 13 #[.int .i64 n, .int .i64 damp, .int .i64 mail, .int .i64 sum] w fun e w' => e = .returned (.int .i64 0) ∧ w = w' := by
  go_enter Try.func13, Try.ntmps13
  go_wp2
  go_ret
  exact ⟨rfl, rfl⟩
theorem reftake_bad2 (n damp mail sum : Int) (w : World) (g0 : 1 ≤ n) (h : damp < 0) :
    Calls Try.prog 13 #[.int .i64 n, .int .i64 damp, .int .i64 mail, .int .i64 sum] w fun e w' => e = .returned (.int .i64 0) ∧ w = w' := by
  go_enter Try.func13, Try.ntmps13
  go_wp2
  go_ret
  exact ⟨rfl, rfl⟩
theorem reftake_bad3 (n damp mail sum : Int) (w : World) (g0 : 1 ≤ n) (g1 : 0 ≤ damp) (h : 4294967296 < damp) :
    Calls Try.prog 13 #[.int .i64 n, .int .i64 damp, .int .i64 mail, .int .i64 sum] w fun e w' => e = .returned (.int .i64 0) ∧ w = w' := by
  go_enter Try.func13, Try.ntmps13
  go_wp2
  go_ret
  exact ⟨rfl, rfl⟩
theorem reftake_bad4 (n damp mail sum : Int) (w : World) (g0 : 1 ≤ n) (g1 : 0 ≤ damp) (g2 : damp ≤ 4294967296) (h : mail < 0) :
    Calls Try.prog 13 #[.int .i64 n, .int .i64 damp, .int .i64 mail, .int .i64 sum] w fun e w' => e = .returned (.int .i64 0) ∧ w = w' := by
  go_enter Try.func13, Try.ntmps13
  go_wp2
  go_ret
  exact ⟨rfl, rfl⟩
theorem reftake_bad5 (n damp mail sum : Int) (w : World) (g0 : 1 ≤ n) (g1 : 0 ≤ damp) (g2 : damp ≤ 4294967296) (g3 : 0 ≤ mail) (h : sum < 0) :
    Calls Try.prog 13 #[.int .i64 n, .int .i64 damp, .int .i64 mail, .int .i64 sum] w fun e w' => e = .returned (.int .i64 0) ∧ w = w' := by
  go_enter Try.func13, Try.ntmps13
  go_wp2
  go_ret
  exact ⟨rfl, rfl⟩
theorem reftake_bad (n damp mail sum : Int) (w : World) (h : n < 1 ∨ damp < 0 ∨ 4294967296 < damp ∨ mail < 0 ∨ sum < 0) :
    Calls Try.prog 13 #[.int .i64 n, .int .i64 damp, .int .i64 mail, .int .i64 sum] w fun e w' => e = .returned (.int .i64 0) ∧ w = w' := by
  by_cases c0 : n < 1
  · exact reftake_bad1 n damp mail sum w  c0
  by_cases c1 : damp < 0
  · exact reftake_bad2 n damp mail sum w (by omega) c1
  by_cases c2 : 4294967296 < damp
  · exact reftake_bad3 n damp mail sum w (by omega) (by omega) c2
  by_cases c3 : mail < 0
  · exact reftake_bad4 n damp mail sum w (by omega) (by omega) (by omega) c3
  exact reftake_bad5 n damp mail sum w (by omega) (by omega) (by omega) (by omega) (by omega)

theorem take_any (n damp mail sum : Int) (w : World) (hd : damp ≤ 9223372036854775807) (hm : mail ≤ 9223372036854775807) (hs : sum ≤ 9223372036854775807) :
    Calls Try.prog 12 #[.int .i64 n, .int .i64 damp, .int .i64 mail, .int .i64 sum] w fun e w' => e = .returned (.int .i64 (takeF n damp mail sum)) ∧ w = w' := by
  by_cases h : n < 1 ∨ damp < 0 ∨ 4294967296 < damp ∨ mail < 0 ∨ sum < 0
  · rw [takeF_bad h]; exact take_bad n damp mail sum w h
  · have h1 : 1 ≤ n := by omega
    have h2 : 0 ≤ damp := by omega
    have h3 : damp ≤ 4294967296 := by omega
    have h4 : 0 ≤ mail := by omega
    have h5 : 0 ≤ sum := by omega
    have g1 : giveF (4294967296 - damp) n = (4294967296 - damp) / n := giveF_ok (by omega) h1
    have g2 : giveF sum n = sum / n := giveF_ok h5 h1
    have ht : takeF n damp mail sum = if (mulF damp (addF mail (giveF sum n))).2 ≠ 0 then 0 else giveF (4294967296 - damp) n + (mulF damp (addF mail (giveF sum n))).1 := by
      rw [g1, g2]; unfold takeF; rw [if_neg h]
    clear g1 g2 h
    have hb1 := mulF_bd damp (addF mail (giveF sum n))
    have hb2 := addF_bd mail (giveF sum n)
    have hb3 := giveF_bd (4294967296 - damp) n
    have hb3 : 0 ≤ giveF (4294967296 - damp) n ∧ giveF (4294967296 - damp) n ≤ 4294967296 - damp := ⟨hb3.1, hb3.2 (by omega)⟩
    rw [ht]; clear ht
    by_cases he : (mulF damp (addF mail (giveF sum n))).2 = 0
    · rw [if_neg (by simpa using he)]
      have he' : ((mulF damp (addF mail (giveF sum n))).2 != 0) = false := by simpa using he
      clear he
      go_enter Try.func12, Try.ntmps12
      go_wp2_with (first | (go_at_call 15; refine (share_any _ _ _ (by omega)).mono ?_; rintro e w' ⟨rfl, rfl⟩) | (go_at_call 14; refine (none_share _ _ _).mono ?_; rintro e w' ⟨rfl, rfl⟩) | (go_at_call 16; refine (mul_any _ _ _ (by omega) (by omega)).mono ?_; rintro e w' ⟨rfl, rfl⟩) | (go_at_call 17; refine (add_any _ _ _).mono ?_; rintro e w' ⟨rfl, rfl⟩))
      go_ret
      exact ⟨rfl, rfl⟩
    · rw [if_pos he]
      have he' : ((mulF damp (addF mail (giveF sum n))).2 != 0) = true := by simpa using he
      clear he
      go_enter Try.func12, Try.ntmps12
      go_wp2_with (first | (go_at_call 15; refine (share_any _ _ _ (by omega)).mono ?_; rintro e w' ⟨rfl, rfl⟩) | (go_at_call 14; refine (none_share _ _ _).mono ?_; rintro e w' ⟨rfl, rfl⟩) | (go_at_call 16; refine (mul_any _ _ _ (by omega) (by omega)).mono ?_; rintro e w' ⟨rfl, rfl⟩) | (go_at_call 17; refine (add_any _ _ _).mono ?_; rintro e w' ⟨rfl, rfl⟩))
      go_ret
      exact ⟨rfl, rfl⟩

theorem reftake_any (n damp mail sum : Int) (w : World) (hd : damp ≤ 9223372036854775807) (hm : mail ≤ 9223372036854775807) (hs : sum ≤ 9223372036854775807) :
    Calls Try.prog 13 #[.int .i64 n, .int .i64 damp, .int .i64 mail, .int .i64 sum] w fun e w' => e = .returned (.int .i64 (takeF n damp mail sum)) ∧ Below w.heap.size w w' := by
  by_cases h : n < 1 ∨ damp < 0 ∨ 4294967296 < damp ∨ mail < 0 ∨ sum < 0
  · rw [takeF_bad h]; refine (reftake_bad n damp mail sum w h).mono ?_; rintro e w' ⟨rfl, rfl⟩; exact ⟨rfl, Below.refl _ _⟩
  · have h1 : 1 ≤ n := by omega
    have h2 : 0 ≤ damp := by omega
    have h3 : damp ≤ 4294967296 := by omega
    have h4 : 0 ≤ mail := by omega
    have h5 : 0 ≤ sum := by omega
    have ht : takeF n damp mail sum = if (mulF damp (addF mail (sum / n))).2 ≠ 0 then 0 else (4294967296 - damp) / n + (mulF damp (addF mail (sum / n))).1 := by
      unfold takeF; rw [if_neg h]
    clear h
    have hb1 := mulF_bd damp (addF mail (sum / n))
    have hb2 := addF_bd mail (sum / n)
    have hb3 := ediv_bd (v := 4294967296 - damp) (n := n) (by omega) h1
    have hb4 := ediv_bd h5 h1
    rw [ht]; clear ht
    by_cases he : (mulF damp (addF mail (sum / n))).2 = 0
    · rw [if_neg (by simpa using he)]
      have he' : ((mulF damp (addF mail (sum / n))).2 != 0) = false := by simpa using he
      clear he
      go_enter Try.func13, Try.ntmps13
      go_wp2_with (first | (go_at_call 18; refine (refmul_any _ _ _ (by omega) (by omega)).mono ?_; rintro e w' ⟨rfl, hb⟩) | (go_at_call 19; refine (refadd_any _ _ _).mono ?_; rintro e w' ⟨rfl, rfl⟩))
      go_ret
      exact ⟨rfl, by assumption⟩
    · rw [if_pos he]
      have he' : ((mulF damp (addF mail (sum / n))).2 != 0) = true := by simpa using he
      clear he
      go_enter Try.func13, Try.ntmps13
      go_wp2_with (first | (go_at_call 18; refine (refmul_any _ _ _ (by omega) (by omega)).mono ?_; rintro e w' ⟨rfl, hb⟩) | (go_at_call 19; refine (refadd_any _ _ _).mono ?_; rintro e w' ⟨rfl, rfl⟩))
      go_ret
      exact ⟨rfl, by assumption⟩
end Go.Proofs.Ytcnggabjejkdbaa
