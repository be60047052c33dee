/- The walk over FixedKnown (printed by tools/gen_fixedknown.py): its calls are of statements that hold at every input. -/
import Derived.Test.YteocofoocbnfnaaDoorWalkY
import Derived.Test.YteocofoocbnfnaaDoorRow
namespace Go.Proofs.YteocofoocbnfnaaDoor
open Go Go.RowKit
set_option linter.unusedVariables false

/-- The statement's numbers at the bounds. -/
def edges : List Int := [0, 1, 2, 3, 9, 10, 4294967295, 4294967296, 4294967297, 2147483648, 12884901888, 70368744177664, 140737488355327, 140737488355328, 281474976710656, 4611686018427387903, 4611686018427387904, 4611686018427387905, 9223372036854775807, -1, -2, -4294967296, -9223372036854775808, 4294967295000000000, 2147483647, 12884901888000001]
theorem edges_len : edges.length = 26 := rfl
theorem edges_bd (i : Nat) : -9223372036854775808 ≤ edges.getD i 0 ∧ edges.getD i 0 ≤ 9223372036854775807 := by
  by_cases h : i < 26
  · have : ∀ j : Fin 26, -9223372036854775808 ≤ edges.getD j.val 0 ∧ edges.getD j.val 0 ≤ 9223372036854775807 := by decide
    exact this ⟨i, h⟩
  · rw [List.getD_eq_getElem?_getD, List.getElem?_eq_none (by rw [edges_len]; omega)]; simp

set_option maxRecDepth 16000 in
set_option maxHeartbeats 4000000 in
theorem known_any (w : World) (htab : Tab w) : Calls Tryd.prog 8 #[] w fun e w' => e = .returned (.bool true) ∧ Below w.heap.size w w' := by
  go_enter Tryd.func8, Tryd.ntmps8
  go_wp2
  have hr : IRow (w.alloc (.cells #[.int .i64 0, .int .i64 1, .int .i64 2, .int .i64 3, .int .i64 9, .int .i64 10, .int .i64 4294967295, .int .i64 4294967296, .int .i64 4294967297, .int .i64 2147483648, .int .i64 12884901888, .int .i64 70368744177664, .int .i64 140737488355327, .int .i64 140737488355328, .int .i64 281474976710656, .int .i64 4611686018427387903, .int .i64 4611686018427387904, .int .i64 4611686018427387905, .int .i64 9223372036854775807, .int .i64 (-1), .int .i64 (-2), .int .i64 (-4294967296), .int .i64 (-9223372036854775808), .int .i64 4294967295000000000, .int .i64 2147483647, .int .i64 12884901888000001] 2)) w.heap.size 2 edges := heap_alloc_new _ _
  have hb0 : Below w.heap.size w (w.alloc (.cells #[.int .i64 0, .int .i64 1, .int .i64 2, .int .i64 3, .int .i64 9, .int .i64 10, .int .i64 4294967295, .int .i64 4294967296, .int .i64 4294967297, .int .i64 2147483648, .int .i64 12884901888, .int .i64 70368744177664, .int .i64 140737488355327, .int .i64 140737488355328, .int .i64 281474976710656, .int .i64 4611686018427387903, .int .i64 4611686018427387904, .int .i64 4611686018427387905, .int .i64 9223372036854775807, .int .i64 (-1), .int .i64 (-2), .int .i64 (-4294967296), .int .i64 (-9223372036854775808), .int .i64 4294967295000000000, .int .i64 2147483647, .int .i64 12884901888000001] 2)) := (Below.refl _ _).alloc (Nat.le_refl _) _
  generalize w.alloc (.cells #[.int .i64 0, .int .i64 1, .int .i64 2, .int .i64 3, .int .i64 9, .int .i64 10, .int .i64 4294967295, .int .i64 4294967296, .int .i64 4294967297, .int .i64 2147483648, .int .i64 12884901888, .int .i64 70368744177664, .int .i64 140737488355327, .int .i64 140737488355328, .int .i64 281474976710656, .int .i64 4611686018427387903, .int .i64 4611686018427387904, .int .i64 4611686018427387905, .int .i64 9223372036854775807, .int .i64 (-1), .int .i64 (-2), .int .i64 (-4294967296), .int .i64 (-9223372036854775808), .int .i64 4294967295000000000, .int .i64 2147483647, .int .i64 12884901888000001] 2) = w1 at *
  go_loopw [2] (fun i wr => ∃ i' : Nat, i' ≤ 26 ∧ i = .int .i64 i' ∧ IRow wr w.heap.size 2 edges ∧ Below w.heap.size w wr) (fun i _ => 26 - (RowKit.intOf i).toNat)
  case atStart => exact ⟨0, by omega, rfl, hr, hb0⟩
  case round =>
    clear hr hb0
    obtain ⟨i, hi, rfl, hr, hb⟩ := hrel
    by_cases hi2 : i < 26
    · have hci := hr.cell i hi2
      have hxi := edges_bd i
      have hB := hr.lt
      have HT := Lib.hid (text_law (edges.getD i 0) wr hxi (htab.kept hb))
      have HX := Lib.hid hxi
      obtain ⟨x, hx⟩ : ∃ x, edges.getD i 0 = x := ⟨_, rfl⟩
      rw [hx] at hci HT HX hxi
      have i0 : (0 : Int) ≤ (i : Int) := by omega
      have i1 : (i : Int) < 26 := by omega
      have HXE := Lib.hid hx
      clear hx hxi
      go_wp2_with fail
      refine HT.out.mono ?_
      rintro e w2 ⟨rfl, hb2⟩
      have hr2 : IRow w2 w.heap.size 2 edges := hr.of_below hb2 hB
      have hb3 : Below w.heap.size w w2 := hb.trans (hb2.mono hb.size)
      clear hr hb hb2 hB hci HT
      go_wp2
      go_loopw [3] (fun k wx => ∃ k' : Nat, k' ≤ 26 ∧ k = .int .i64 k' ∧ IRow wx w.heap.size 2 edges ∧ Below w.heap.size w wx) (fun k _ => 26 - (RowKit.intOf k).toNat)
      case atStart => exact ⟨0, by omega, rfl, hr2, hb3⟩
      case round =>
        clear hr2 hb3
        obtain ⟨k, hk, rfl, hr, hb⟩ := hrel
        by_cases hk2 : k < 26
        · obtain ⟨t, ht⟩ : ∃ t : Nat, ((i : Int) * 7 + k) % 26 = t := Int.eq_ofNat_of_zero_le (by omega)
          have ht2 : t < 26 := by omega
          have hci := hr.cell i hi2
          have hck := hr.cell k hk2
          have hct := hr.cell t ht2
          have HK := Lib.hid (edges_bd k)
          have HZ := Lib.hid (edges_bd t)
          have hB := hr.lt
          rw [HXE.out] at hci
          generalize edges.getD k 0 = y at *
          generalize edges.getD t 0 = z at *
          have k0 : (0 : Int) ≤ (k : Int) := by omega
          have k1 : (k : Int) < 26 := by omega
          have t0 : (0 : Int) ≤ (t : Int) := by omega
          have t1 : (t : Int) < 26 := by omega
          go_wp2_with fail
          have hci' : ∀ u : Since wr.heap.size wr, u.val.cell? ⟨w.heap.size, i, none⟩ = some (.int .i64 x) := fun u => (u.ok.cell hB).trans hci
          have hck' : ∀ u : Since wr.heap.size wr, u.val.cell? ⟨w.heap.size, k, none⟩ = some (.int .i64 y) := fun u => (u.ok.cell hB).trans hck
          have hct' : ∀ u : Since wr.heap.size wr, u.val.cell? ⟨w.heap.size, t, none⟩ = some (.int .i64 z) := fun u => (u.ok.cell hB).trans hct
          refine wp_region_since wr.heap.size (by kernel_rfl) (by kernel_rfl) ?_
          repeat (go_big_quiet_step ((first | (go_at_call 3; exact Calls.since (Nat.le_refl _) (mul_law _ _ _ HX.out HK.out)) | (go_at_call 4; exact Calls.since (Nat.le_refl _) (share_law _ _ _ HX.out HK.out)) | (go_at_call 5; exact Calls.since (Nat.le_refl _) (add_law _ _ _)) | (go_at_call 6; exact Calls.since (Nat.le_refl _) (sums_law _ _ _ _)))))
          refine wpQuiet_nil ?_
          rintro _ ⟨u, rfl⟩
          obtain ⟨w2, hb2⟩ := u
          have hr2 : IRow w2 w.heap.size 2 edges := hr.of_below hb2 hB
          have hbb : Below w.heap.size w w2 := hb.trans (hb2.mono hb.size)
          clear hci hck hct hci' hck' hct'
          go_wp2
          go_roundw
          case rel => exact ⟨k + 1, by omega, by go_num, hr2, hbb⟩
          case measure => simp [RowKit.intOf]; omega
        · obtain rfl : k = 26 := by omega
          go_wp2
          go_roundw
          case rel => exact ⟨i + 1, by omega, by go_num, hr, hb⟩
          case measure => simp [RowKit.intOf]; omega
    · obtain rfl : i = 26 := by omega
      go_wp2_with fail
      refine (works_any _).mono ?_
      rintro e w2 ⟨rfl, hb2⟩
      go_wp2_with fail
      go_ret
      exact ⟨rfl, hb.trans (hb2.mono hb.size)⟩
end Go.Proofs.YteocofoocbnfnaaDoor
