/- The walk over RankKnown: its calls are of statements that hold at every input. -/
import Derived.Test.YtcnggabjejkdbaaWalkH
import Derived.Test.YtcnggabjejkdbaaQuiet
namespace Go.Proofs.Ytcnggabjejkdbaa
open Go.RowKit
set_option linter.unusedVariables false

/-- The statement's numbers at the bounds. -/
def edges : List Int := [0, 1, 2, 3, 511, 512, 4294967295, 4294967296, 4294967297, 4611686018427387904, 4611686018427387905, 9223372036854775807, -1, -9223372036854775808]
theorem edges_len : edges.length = 14 := rfl
theorem edges_le (i : Nat) : edges.getD i 0 ≤ 9223372036854775807 := by
  by_cases h : i < 14
  · have : ∀ j : Fin 14, edges.getD j.val 0 ≤ 9223372036854775807 := by decide
    exact this ⟨i, h⟩
  · rw [List.getD_eq_getElem?_getD, List.getElem?_eq_none (by rw [edges_len]; omega)]; simp

theorem total_lit (wr : World) (zs ks : List Int) (d : Int) (n : Nat) (hz : zs.length = n) (hk : ks.length = n) (hn : 1 ≤ n) (hn2 : n ≤ 40)
    (hzb : ∀ i, 0 ≤ zs.getD i 0 ∧ zs.getD i 0 ≤ 4294967295) (hkb : ∀ i, 0 ≤ ks.getD i 0 ∧ ks.getD i 0 ≤ 255) (hd : 0 ≤ d) (hd2 : d ≤ 18446744073709551615) :
    Calls Try.prog 5 #[.slice (some ⟨wr.heap.size, 0, none⟩) n n, .slice (some ⟨wr.heap.size + 1, 0, none⟩) n n, .int .u64 d]
      ((wr.alloc (.cells (zs.map (Value.int .u32)).toArray 32)).alloc (.cells (ks.map (Value.int .u8)).toArray 5))
      fun e w' => e = .returned (.bool true) ∧ Below wr.heap.size wr w' := by
  refine (total_main wr.heap.size 0 n (wr.heap.size + 1) 0 n n n zs ks d _ hn hn2 (Nat.le_refl _) (by omega) (fun i hi => ?_) (fun i hi => ?_) hzb hkb (by simp; omega) (by simp) hd hd2).mono ?_
  · rw [World.cell?_alloc_past _ _ _ (by simp), World.cell?_alloc_at _ _ _ _ rfl]
    simp [hz, hi]
  · rw [World.cell?_alloc_at _ _ _ _ (by simp)]
    simp [hk, hi]
  · rintro e w' ⟨he, hb⟩
    exact ⟨he, (((Below.refl _ wr).alloc (Nat.le_refl _) _).alloc (by simp) _).trans (hb.mono (by simp; omega))⟩

theorem lit3 (i : Nat) : 0 ≤ [4294967295, 4294967295, 4294967295].getD i (0 : Int) ∧ [4294967295, 4294967295, 4294967295].getD i (0 : Int) ≤ 4294967295 := by
  match i with
  | 0 => decide
  | 1 => decide
  | 2 => decide
  | i + 3 => simp
theorem lit3b (i : Nat) : 0 ≤ [0, 1, 3].getD i (0 : Int) ∧ [0, 1, 3].getD i (0 : Int) ≤ 255 := by
  match i with
  | 0 => decide
  | 1 => decide
  | 2 => decide
  | i + 3 => simp
theorem lit1 (i : Nat) : 0 ≤ [7].getD i (0 : Int) ∧ [7].getD i (0 : Int) ≤ 4294967295 := by
  match i with
  | 0 => decide
  | i + 1 => simp
theorem lit1b (i : Nat) : 0 ≤ [1].getD i (0 : Int) ∧ [1].getD i (0 : Int) ≤ 255 := by
  match i with
  | 0 => decide
  | i + 1 => simp

theorem total_first (wr : World) : Calls Try.prog 5 #[.slice (some ⟨wr.heap.size, 0, none⟩) 3 3, .slice (some ⟨wr.heap.size + 1, 0, none⟩) 3 3, .int .u64 4294967296]
      ((wr.alloc (.cells #[.int .u32 4294967295, .int .u32 4294967295, .int .u32 4294967295] 32)).alloc (.cells #[.int .u8 0, .int .u8 1, .int .u8 3] 5))
      fun e w' => e = .returned (.bool true) ∧ Below wr.heap.size wr w' :=
  total_lit wr [4294967295, 4294967295, 4294967295] [0, 1, 3] 4294967296 3 rfl rfl (by omega) (by omega) lit3 lit3b (by omega) (by omega)
theorem total_second (wr : World) : Calls Try.prog 5 #[.slice (some ⟨wr.heap.size, 0, none⟩) 1 1, .slice (some ⟨wr.heap.size + 1, 0, none⟩) 1 1, .int .u64 0]
      ((wr.alloc (.cells #[.int .u32 7] 32)).alloc (.cells #[.int .u8 1] 5))
      fun e w' => e = .returned (.bool true) ∧ Below wr.heap.size wr w' :=
  total_lit wr [7] [1] 0 1 rfl rfl (by omega) (by omega) lit1 lit1b (by omega) (by omega)

set_option maxHeartbeats 400000 in
theorem known_any (w : World) : Calls Try.prog 6 #[] w fun e w' => e = .returned (.bool true) ∧ Below w.heap.size w w' := by
  go_enter Try.func6, Try.ntmps6
  go_wp2
  have hr : IRow (w.alloc (.cells #[.int .i64 0, .int .i64 1, .int .i64 2, .int .i64 3, .int .i64 511, .int .i64 512, .int .i64 4294967295, .int .i64 4294967296, .int .i64 4294967297, .int .i64 4611686018427387904, .int .i64 4611686018427387905, .int .i64 9223372036854775807, .int .i64 (-1), .int .i64 (-9223372036854775808)] 2)) w.heap.size 2 edges := heap_alloc_new _ _
  have hb0 : Below w.heap.size w (w.alloc (.cells #[.int .i64 0, .int .i64 1, .int .i64 2, .int .i64 3, .int .i64 511, .int .i64 512, .int .i64 4294967295, .int .i64 4294967296, .int .i64 4294967297, .int .i64 4611686018427387904, .int .i64 4611686018427387905, .int .i64 9223372036854775807, .int .i64 (-1), .int .i64 (-9223372036854775808)] 2)) := (Below.refl _ _).alloc (Nat.le_refl _) _
  generalize w.alloc (.cells #[.int .i64 0, .int .i64 1, .int .i64 2, .int .i64 3, .int .i64 511, .int .i64 512, .int .i64 4294967295, .int .i64 4294967296, .int .i64 4294967297, .int .i64 4611686018427387904, .int .i64 4611686018427387905, .int .i64 9223372036854775807, .int .i64 (-1), .int .i64 (-9223372036854775808)] 2) = w1 at *
  go_loopw [2] (fun i wr => ∃ i' : Nat, i' ≤ 14 ∧ i = .int .i64 i' ∧ IRow wr w.heap.size 2 edges ∧ Below w.heap.size w wr) (fun i _ => 14 - (intOf i).toNat)
  case atStart => exact ⟨0, by omega, rfl, hr, hb0⟩
  case round =>
    clear hr hb0
    obtain ⟨i, hi, rfl, hr, hb⟩ := hrel
    by_cases hi2 : i < 14
    · obtain ⟨wo, rfl⟩ : ∃ wo : World, wo = wr := ⟨_, rfl⟩
      go_wp2
      go_loopw [3] (fun k wx => ∃ k' : Nat, k' ≤ 14 ∧ k = .int .i64 k' ∧ IRow wx w.heap.size 2 edges ∧ Below w.heap.size w wx) (fun k _ => 14 - (intOf k).toNat)
      case atStart => exact ⟨0, by omega, rfl, hr, hb⟩
      case round =>
        clear hr hb
        obtain ⟨k, hk, rfl, hr, hb⟩ := hrel
        by_cases hk2 : k < 14
        · have hci := hr.cell i hi2
          have hck := hr.cell k hk2
          have hxi := edges_le i
          have hxk := edges_le k
          have hB := hr.lt
          generalize edges.getD i 0 = x at *
          generalize edges.getD k 0 = y at *
          have i0 : (0 : Int) ≤ (i : Int) := by omega
          have i1 : (i : Int) < 14 := by omega
          have k0 : (0 : Int) ≤ (k : Int) := by omega
          have k1 : (k : Int) < 14 := by omega
          go_wp2_with fail
          have hci' : ∀ u : Since wr.heap.size wr, u.val.cell? ⟨w.heap.size, i, none⟩ = some (.int .i64 x) := fun u => (u.ok.cell hB).trans hci
          have hck' : ∀ u : Since wr.heap.size wr, u.val.cell? ⟨w.heap.size, k, none⟩ = some (.int .i64 y) := fun u => (u.ok.cell hB).trans hck
          refine wp_region_since wr.heap.size (by kernel_rfl) (by kernel_rfl) ?_
          repeat (go_big_quiet_step ((first | (go_at_call 3; exact Calls.since_same (rankgive_any _ _ _ (by omega) (by omega))) | (go_at_call 4; exact Calls.since (Nat.le_refl _) (ranktake_any _ _ _ _ _ (by omega) (by omega) (by omega))))))
          refine wpQuiet_nil ?_
          rintro _ ⟨u, rfl⟩
          obtain ⟨w2, hb2⟩ := u
          have hr2 : IRow w2 w.heap.size 2 edges := hr.of_below hb2 hB
          have hbb : Below w.heap.size w w2 := hb.trans (hb2.mono (by omega))
          clear hci hck hci' hck'
          go_wp2
          go_roundw
          case rel => exact ⟨k + 1, by omega, by go_num, hr2, hbb⟩
          case measure => simp [intOf]; omega
        · obtain rfl : k = 14 := by omega
          go_wp2
          go_roundw
          case rel => exact ⟨i + 1, by omega, by go_num, hr, hb⟩
          case measure => simp [intOf]; omega
    · obtain rfl : i = 14 := by omega
      have hB := hr.lt
      go_wp2_with fail
      refine (total_first _).mono ?_
      rintro e w2 ⟨rfl, hb2⟩
      go_wp2_with fail
      refine (total_second _).mono ?_
      rintro e w3 ⟨rfl, hb3⟩
      go_wp2_with (go_at_call 11; refine (works_any _).mono ?_; rintro e w' ⟨rfl, rfl⟩)
      go_ret
      exact ⟨rfl, (hb.trans (hb2.mono (by omega))).trans (hb3.mono (by have := hb2.size; omega))⟩
end Go.Proofs.Ytcnggabjejkdbaa
