/- The walks over FixedSums and FixedText. -/
import Derived.Test.YteocofoocbnfnaaDoorWalkX
namespace Go.Proofs.YteocofoocbnfnaaDoor
open Go Go.RowKit
set_option linter.unusedVariables false

/-- The table that strconv reads. -/
def Tab (w : World) : Prop := Lib.TabIs Tryd.prog w "internal/strconv.uint64pow10" .u64 Lib.pow10Tab
theorem gTab : Tryd.prog.globalNamed "internal/strconv.uint64pow10" = some 0 := by kernel_rfl
theorem Tab.kept {w w' : World} (h : Tab w) (hb : Below w.heap.size w w') : Tab w' :=
  var?_below hb gTab (World.block_lt_of_cell? w ⟨0, 0, none⟩ (Lib.TabIs.cell h gTab 0 (by decide))) h

theorem text_tab (a : Nat) (ha : a ≤ 9223372036854775807) (w : World) (ht : Tab w) :
    Calls Tryd.prog 18 #[.int .i64 a] w fun e w' => e = .returned (.string ⟨(textL a).toArray⟩) ∧ Below w.heap.size w w' :=
  text_pos a ha w (fun w2 hb => (Tryd.strconv_FormatInt_10 ((a / 4294967296 : Nat) : Int) (by omega) (by omega) w2 (ht.kept hb)).mono (by
    rintro e w' ⟨rfl, k, os, rfl⟩
    exact ⟨by rw [Lib.itoa_nonneg], Lib.below_grow _ _ (Nat.le_refl _) _ _⟩))

theorem text_law (a : Int) (w : World) (ha : -9223372036854775808 ≤ a ∧ a ≤ 9223372036854775807) (ht : Tab w) :
    Calls Tryd.prog 7 #[.int .i64 a] w fun e w' => e = .returned (.bool true) ∧ Below w.heap.size w w' := by
  by_cases h : a < 0
  · go_enter Tryd.func7, Tryd.ntmps7
    go_wp2_with fail
    refine (text_neg a h _).mono ?_
    rintro en w1 ⟨rfl, B1⟩
    go_wp2_with fail
    refine (reftext_neg a h _).mono ?_
    rintro en w2 ⟨rfl, B2⟩
    go_wp2_with fail
    refine (works_any _).mono ?_
    rintro en w3 ⟨rfl, B3⟩
    go_wp2_with fail
    go_ret
    have B := B1.trans (B2.mono B1.size)
    exact ⟨rfl, B.trans (B3.mono B.size)⟩
  · obtain ⟨n, rfl⟩ := Int.eq_ofNat_of_zero_le (show 0 ≤ a by omega)
    have C1 := Lib.hid (text_tab n (by omega) w ht)
    have C2 := Lib.hid (fun w => reftext_any n (by omega) w)
    generalize textL n = T at *
    go_enter Tryd.func7, Tryd.ntmps7
    go_wp2_with fail
    refine C1.out.mono ?_
    rintro en w1 ⟨rfl, B1⟩
    go_wp2_with fail
    refine (C2.out _).mono ?_
    rintro en w2 ⟨rfl, B2⟩
    go_wp2_with fail
    refine (works_any _).mono ?_
    rintro en w3 ⟨rfl, B3⟩
    go_wp2_with fail
    go_ret
    have B := B1.trans (B2.mono B1.size)
    exact ⟨rfl, B.trans (B3.mono B.size)⟩

theorem distF_id {x : Int} (h : 0 ≤ x) (h' : x ≤ 4611686018427387904) : distF x = x := distF_mid h h'
theorem addF_comm (a b : Int) : addF b a = addF a b := by unfold addF; rw [Int.add_comm]
theorem addF_assoc (a b c : Int) : addF (addF a b) c = addF a (addF b c) := by
  have h1 := distF_bd a
  have h2 := distF_bd b
  have h3 := distF_bd c
  have e1 : distF (addF a b) = addF a b := distF_mid (addF_bd a b).1 (addF_bd a b).2
  have e2 : distF (addF b c) = addF b c := distF_mid (addF_bd b c).1 (addF_bd b c).2
  unfold addF at e1 e2 ⊢
  rw [e1, e2]
  split <;> split <;> split <;> split <;> omega
theorem addF_ge (a b : Int) (h : addF a b ≠ 4611686018427387904) : a ≤ addF a b ∧ b ≤ addF a b := by
  have h1 := distF_bd a
  have h2 := distF_bd b
  have e1 : a ≤ distF a ∨ distF a = 4611686018427387904 := by unfold distF; split; · omega
                                                              · split <;> omega
  have e2 : b ≤ distF b ∨ distF b = 4611686018427387904 := by unfold distF; split; · omega
                                                              · split <;> omega
  revert h
  unfold addF; split <;> omega
theorem apartF_comm (a b : Int) : apartF b a = apartF a b := by unfold apartF; omega
theorem apartF_self (a : Int) : apartF a a = 0 := by unfold apartF; omega

theorem sums_law (a b c : Int) (w : World) :
    Calls Tryd.prog 6 #[.int .i64 a, .int .i64 b, .int .i64 c] w fun e w' => e = .returned (.bool true) ∧ Below w.heap.size w w' := by
  have c1 := fun w => add_any a b w
  have c2 := fun w => add_any b a w
  have c3 := fun w => add_any (addF a b) c w
  have c4 := fun w => add_any b c w
  have c5 := fun w => add_any a (addF b c) w
  have c6 := fun w => apart_any a b w
  have c7 := fun w => apart_any b a w
  have c8 := fun w => apart_any a a w
  simp only [addF_comm a b] at c2
  simp only [← addF_assoc a b c] at c5
  simp only [apartF_comm a b] at c7
  simp only [apartF_self] at c8
  have hb := addF_bd a b
  have hge := addF_ge a b
  generalize addF (addF a b) c = z at *
  generalize addF a b = x at *
  generalize addF b c = y at *
  generalize apartF a b = d at *
  have C1 := Lib.hid c1
  have C2 := Lib.hid c2
  have C3 := Lib.hid c3
  have C4 := Lib.hid c4
  have C5 := Lib.hid c5
  have C6 := Lib.hid c6
  have C7 := Lib.hid c7
  have C8 := Lib.hid c8
  clear c1 c2 c3 c4 c5 c6 c7 c8
  obtain ⟨hb1, hb2⟩ := hb
  by_cases hx : x = 4611686018427387904
  · subst hx
    clear hge
    go_enter Tryd.func6, Tryd.ntmps6
    go_wp2_with fail
    refine (C1.out _).mono ?_
    rintro en w' ⟨rfl, rfl⟩
    go_wp2_with fail
    refine (C2.out _).mono ?_
    rintro en w' ⟨rfl, rfl⟩
    go_wp2_with fail
    refine (C3.out _).mono ?_
    rintro en w' ⟨rfl, rfl⟩
    go_wp2_with fail
    refine (C4.out _).mono ?_
    rintro en w' ⟨rfl, rfl⟩
    go_wp2_with fail
    refine (C5.out _).mono ?_
    rintro en w' ⟨rfl, rfl⟩
    go_wp2_with fail
    refine (C6.out _).mono ?_
    rintro en w' ⟨rfl, rfl⟩
    go_wp2_with fail
    refine (C7.out _).mono ?_
    rintro en w' ⟨rfl, rfl⟩
    go_wp2_with fail
    refine (C8.out _).mono ?_
    rintro en w' ⟨rfl, rfl⟩
    go_wp2_with fail
    refine (works_any _).mono ?_
    rintro en w3 ⟨rfl, B3⟩
    go_wp2_with fail
    go_ret
    exact ⟨rfl, B3⟩
  · obtain ⟨g1, g2⟩ := hge hx
    have hxb : (x == 4611686018427387904) = false := by simpa using hx
    clear hge hx
    go_enter Tryd.func6, Tryd.ntmps6
    go_wp2_with fail
    refine (C1.out _).mono ?_
    rintro en w' ⟨rfl, rfl⟩
    go_wp2_with fail
    refine (C2.out _).mono ?_
    rintro en w' ⟨rfl, rfl⟩
    go_wp2_with fail
    refine (C3.out _).mono ?_
    rintro en w' ⟨rfl, rfl⟩
    go_wp2_with fail
    refine (C4.out _).mono ?_
    rintro en w' ⟨rfl, rfl⟩
    go_wp2_with fail
    refine (C5.out _).mono ?_
    rintro en w' ⟨rfl, rfl⟩
    go_wp2_with fail
    refine (C6.out _).mono ?_
    rintro en w' ⟨rfl, rfl⟩
    go_wp2_with fail
    refine (C7.out _).mono ?_
    rintro en w' ⟨rfl, rfl⟩
    go_wp2_with fail
    refine (C8.out _).mono ?_
    rintro en w' ⟨rfl, rfl⟩
    go_wp2_with fail
    refine (works_any _).mono ?_
    rintro en w3 ⟨rfl, B3⟩
    go_wp2_with fail
    go_ret
    exact ⟨rfl, B3⟩
end Go.Proofs.YteocofoocbnfnaaDoor
