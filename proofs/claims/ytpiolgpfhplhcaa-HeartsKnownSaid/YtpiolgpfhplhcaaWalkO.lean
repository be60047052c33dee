/- The walk over HeartsKnown. -/
import Derived.Test.YtpiolgpfhplhcaaWalkN
namespace Go.Proofs.Ytpiolgpfhplhcaa
open Go Go.RowKit
set_option linter.unusedVariables false

theorem CallRow.kept {w w' : World} {a : Option Addr} {n : Nat} {K N : Nat → Int} (h : CallRow w a n K N) (hb : Below w.heap.size w w') : CallRow w' a n K N :=
  ⟨fun hp => by
    obtain ⟨b, off, e, hlt, hc⟩ := h.cells hp
    exact ⟨b, off, e, Nat.lt_of_lt_of_le hlt hb.size, fun k hk => ⟨(hb.cell (p := ⟨b, off + k * 2, none⟩) hlt).trans (hc k hk).1, (hb.cell (p := ⟨b, off + k * 2 + 1, none⟩) hlt).trans (hc k hk).2⟩⟩, h.kinds, h.nums⟩

def litK (k : Nat) : Int := match k with
  | 0 => 0
  | 1 => 1
  | 2 => 4
  | 3 => 2
  | 4 => 3
  | 5 => 5
  | 6 => 0
  | 7 => 6
  | 8 => 6
  | 9 => 7
  | 10 => 0
  | 11 => 0
  | 12 => 0
  | _ => 0
def litN (k : Nat) : Int := match k with
  | 0 => 0
  | 1 => 0
  | 2 => 0
  | 3 => 0
  | 4 => 0
  | 5 => 1
  | 6 => 0
  | 7 => 64
  | 8 => -1
  | 9 => 0
  | 10 => 0
  | 11 => 0
  | 12 => 0
  | _ => 0
theorem litK_bd (k : Nat) : 0 ≤ litK k ∧ litK k ≤ 255 := by
  unfold litK; split <;> omega
theorem litN_bd (k : Nat) : -9223372036854775808 ≤ litN k ∧ litN k ≤ 9223372036854775807 := by
  unfold litN; split <;> omega

theorem callRow_lit (W : World) : CallRow (W.alloc (.cells #[.int .u8 0, .int .i64 0, .int .u8 1, .int .i64 0, .int .u8 4, .int .i64 0, .int .u8 2, .int .i64 0, .int .u8 3, .int .i64 0, .int .u8 5, .int .i64 1, .int .u8 0, .int .i64 0, .int .u8 6, .int .i64 64, .int .u8 6, .int .i64 (-1), .int .u8 7, .int .i64 0, .int .u8 0, .int .i64 0, .int .u8 0, .int .i64 0, .int .u8 0, .int .i64 0] 29)) (some ⟨W.heap.size, 0, none⟩) 13 litK litN :=
  ⟨fun _ => ⟨W.heap.size, 0, rfl, by simp, fun k hk => by
    rw [World.cell?_alloc_at _ _ _ _ rfl, World.cell?_alloc_at _ _ _ _ rfl]
    match k, hk with
    | 0, _ => exact ⟨rfl, rfl⟩
    | 1, _ => exact ⟨rfl, rfl⟩
    | 2, _ => exact ⟨rfl, rfl⟩
    | 3, _ => exact ⟨rfl, rfl⟩
    | 4, _ => exact ⟨rfl, rfl⟩
    | 5, _ => exact ⟨rfl, rfl⟩
    | 6, _ => exact ⟨rfl, rfl⟩
    | 7, _ => exact ⟨rfl, rfl⟩
    | 8, _ => exact ⟨rfl, rfl⟩
    | 9, _ => exact ⟨rfl, rfl⟩
    | 10, _ => exact ⟨rfl, rfl⟩
    | 11, _ => exact ⟨rfl, rfl⟩
    | 12, _ => exact ⟨rfl, rfl⟩
    | k + 13, h => omega⟩, litK_bd, litN_bd⟩

set_option maxHeartbeats 2000000 in
theorem known_any (w : World) : Calls Try.prog 5 #[] w fun e w' => e = .returned (.bool true) ∧ Below w.heap.size w w' := by
  go_enter Try.func5, Try.ntmps5
  go_wp2_with fail
  refine (tick_nil w).mono ?_
  rintro e w' ⟨rfl, rfl⟩
  go_wp2_with fail
  refine (reset_nil w).mono ?_
  rintro e w' ⟨rfl, rfl⟩
  go_wp2_with fail
  refine (members_nil w).mono ?_
  rintro e w' ⟨rfl, rfl⟩
  go_wp2_with fail
  refine (hear_nil w 0).mono ?_
  rintro e w' ⟨rfl, rfl⟩
  go_wp2_with fail
  refine (silent_nil w).mono ?_
  rintro e w' ⟨rfl, rfl⟩
  go_wp2_with fail
  refine (gone_nil w).mono ?_
  rintro e w1 ⟨rfl, B1⟩
  go_wp2_with fail
  refine (all_nil w1).mono ?_
  rintro e w2 ⟨rfl, B2⟩
  have B12 := B1.trans (B2.mono B1.size)
  clear B1 B2
  go_wp2_with fail
  have R := callRow_lit w2
  have B3 : Below w.heap.size w (w2.alloc (.cells #[.int .u8 0, .int .i64 0, .int .u8 1, .int .i64 0, .int .u8 4, .int .i64 0, .int .u8 2, .int .i64 0, .int .u8 3, .int .i64 0, .int .u8 5, .int .i64 1, .int .u8 0, .int .i64 0, .int .u8 6, .int .i64 64, .int .u8 6, .int .i64 (-1), .int .u8 7, .int .i64 0, .int .u8 0, .int .i64 0, .int .u8 0, .int .i64 0, .int .u8 0, .int .i64 0] 29)) := B12.alloc B12.size _
  generalize w2.alloc (.cells #[.int .u8 0, .int .i64 0, .int .u8 1, .int .i64 0, .int .u8 4, .int .i64 0, .int .u8 2, .int .i64 0, .int .u8 3, .int .i64 0, .int .u8 5, .int .i64 1, .int .u8 0, .int .i64 0, .int .u8 6, .int .i64 64, .int .u8 6, .int .i64 (-1), .int .u8 7, .int .i64 0, .int .u8 0, .int .i64 0, .int .u8 0, .int .i64 0, .int .u8 0, .int .i64 0] 29) = w3 at *
  refine (plays_main 2 2 _ 13 13 litK litN w3 R (by omega)).mono ?_
  rintro e w4 ⟨rfl, C4⟩
  have R4 := R.kept C4
  have B4 := B3.trans (C4.mono B3.size)
  go_wp2_with fail
  refine (plays_main 0 0 _ 13 13 litK litN w4 R4 (by omega)).mono ?_
  rintro e w5 ⟨rfl, C5⟩
  have R5 := R4.kept C5
  have B5 := B4.trans (C5.mono B4.size)
  go_wp2_with fail
  refine (plays_main (-5) (-5) _ 13 13 litK litN w5 R5 (by omega)).mono ?_
  rintro e w6 ⟨rfl, C6⟩
  have R6 := R5.kept C6
  have B6 := B5.trans (C6.mono B5.size)
  go_wp2_with fail
  refine (plays_main 65 1 _ 13 13 litK litN w6 R6 (by omega)).mono ?_
  rintro e w7 ⟨rfl, C7⟩
  have R7 := R6.kept C7
  have B7 := B6.trans (C7.mono B6.size)
  go_wp2_with fail
  refine (plays_main 3 1099511627776 _ 13 13 litK litN w7 R7 (by omega)).mono ?_
  rintro e w8 ⟨rfl, C8⟩
  have R8 := R7.kept C8
  have B8 := B7.trans (C8.mono B7.size)
  go_wp2_with fail
  refine (gonelaw_main 3 2 _ 13 13 1 litK litN w8 R8 (by omega) (by omega) (by omega)).mono ?_
  rintro e w9 ⟨rfl, C9⟩
  have B9 := B8.trans (C9.mono B8.size)
  go_wp2_with fail
  refine (works_any w9).mono ?_
  rintro e w10 ⟨rfl, C10⟩
  go_wp2_with fail
  go_ret
  exact ⟨rfl, B9.trans (C10.mono B9.size)⟩
end Go.Proofs.Ytpiolgpfhplhcaa
