/- The walk over HeartsGone. -/
import Derived.Test.YtpiolgpfhplhcaaWalkJ
namespace Go.Proofs.Ytpiolgpfhplhcaa
open Go Go.RowKit
set_option linter.unusedVariables false

theorem mem_goneUp (lim : Int) (ss : List Int) (k i : Nat) : (i : Int) ∈ goneUp lim ss k ↔ i < k ∧ lim < ss.getD i 0 := by
  unfold goneUp
  rw [List.mem_map]
  constructor
  · rintro ⟨j, hj, e⟩
    rw [List.mem_filter, List.mem_range] at hj
    have : j = i := by omega
    subst this
    exact ⟨hj.1, of_decide_eq_true hj.2⟩
  · rintro ⟨h1, h2⟩
    exact ⟨i, by rw [List.mem_filter, List.mem_range]; exact ⟨h1, decide_eq_true h2⟩, rfl⟩

theorem contains_take (gs : List Int) (k : Nat) (i : Int) (hk : k < gs.length) : (gs.take (k + 1)).contains i = ((gs.take k).contains i || (gs.getD k 0 == i)) := by
  rw [List.take_succ_eq_append_getElem hk, List.contains_eq_any_beq, List.contains_eq_any_beq, List.any_append]
  have e : gs.getD k 0 = gs[k] := by simp [hk]
  rw [e]
  simp [Bool.beq_comm]

/-- What holds in the loop: of member i it is as many ticks ago as were counted. -/
structure Counted (w : World) (b s : Nat) (lim : Int) (i : Nat) (ticks : Int) (k : Nat) (wr : World) (D : List Int) : Prop where
  wat : WatchAt wr b s lim D
  fair : Fair D
  at_i : D.getD i 0 = ticks
  lt : i < D.length
  lo : 0 ≤ ticks
  hi : ticks ≤ k
  bel : Below w.heap.size w wr

theorem hearF_at (D : List Int) (y : Int) (i : Nat) (hi : i < D.length) : (hearF D y).getD i 0 = if y = i then 0 else D.getD i 0 := by
  unfold hearF
  by_cases h : 0 ≤ y ∧ y < D.length
  · rw [if_pos h, getD_set _ _ _ _ (by omega)]
    by_cases e : y = i
    · rw [if_pos (by omega), if_pos e]
    · rw [if_neg (by omega), if_neg e]
  · rw [if_neg h, if_neg (by omega)]

set_option maxHeartbeats 4000000 in
theorem gonelaw_main (m l : Int) (a : Option Addr) (n cap : Nat) (x : Int) (K N : Nat → Int) (w : World) (hrow : CallRow w a n K N) (hn : n ≤ 1000) (hx : 0 ≤ x ∧ x ≤ 255) (hl : -9223372036854775808 ≤ l ∧ l ≤ 9223372036854775807) :
    Calls Try.prog 4 #[.int .i64 m, .int .i64 l, .slice a n cap, .int .u8 x] w fun e w' => e = .returned (.bool true) ∧ Below w.heap.size w w' := by
  go_enter Try.func4, Try.ntmps4
  go_wp2_with fail
  refine (new_any m l w).mono ?_
  rintro e w1 ⟨b, s, rfl, h1, gb, gs, B1⟩
  have hm := memF_bd m
  have hml : (List.replicate (memF m) (0 : Int)).length = memF m := by simp
  go_wp2_with fail
  refine (members_any w1 b s (limF l) _ h1).mono ?_
  rintro e w' ⟨rfl, rfl⟩
  rw [hml]
  obtain ⟨i, hi⟩ := Int.eq_ofNat_of_zero_le (Int.emod_nonneg x (show (memF m : Int) ≠ 0 by omega))
  have hi2 : i < memF m := by have := Int.emod_lt_of_pos x (show (0 : Int) < memF m by omega); omega
  have C0 : Counted w b s (limF l) i 0 0 w1 (List.replicate (memF m) 0) :=
    ⟨h1, fair_zero _, by rw [List.getD_eq_getElem?_getD, List.getElem?_replicate]; split <;> simp, by simpa using hi2, by omega, by omega, B1⟩
  have hlim : limF l = if l < 1 then 1 else if 1073741824 < l then 1073741824 else l := rfl
  have HLIM := Lib.hid hlim
  have HC := Lib.hid hrow.cells
  have HK := Lib.hid hrow.kinds
  clear hlim hrow h1 hml B1
  go_wp2
  rw [hi]
  clear hi
  generalize hlm : limF l = lim at *
  have HLM := Lib.hid hlm
  clear hlm
  go_loopw [11, 12] (fun t j wr => ∃ (k : Nat) (ticks : Int) (D : List Int), k ≤ n ∧ j = .int .i64 k ∧ t = .int .i64 ticks ∧ Counted w b s lim i ticks k wr D) (fun _ j _ => n - (intOf j).toNat)
  case atStart => exact ⟨0, 0, _, by omega, rfl, rfl, C0⟩
  case round =>
    clear C0
    obtain ⟨k, ticks, D, hk, rfl, rfl, C⟩ := hrel
    have hlo := C.lo
    have hhi := C.hi
    have hat := C.at_i
    have hlt2 := C.lt
    have hz := C.bel.size
    have HAT := Lib.hid hat
    clear hat
    by_cases hlt : k < n
    · obtain ⟨ba, off, rfl, hba, hcc⟩ := HC.out (by omega)
      obtain ⟨hc1, hc2⟩ := hcc k hlt
      have d1 := (C.bel.cell (p := ⟨ba, off + k * 2, none⟩) hba).trans hc1
      have d2 := fun w' (hb' : Below w.heap.size w w') => (hb'.cell (p := ⟨ba, off + k * 2 + 1, none⟩) hba).trans hc2
      have d3 := d2 _ C.bel
      have D2 := Lib.hid d2
      have hKk := HK.out k
      clear hcc hc1 hc2 d2
      generalize K k = q at *
      generalize N k = y at *
      have k0 : (0 : Int) ≤ (k : Int) := by omega
      have k1 : (k : Int) < (n : Int) := by omega
      by_cases hq3 : q % 8 ≤ 3
      · go_wp2_with fail
        refine (tick_all wr b s lim D C.wat C.fair).mono ?_
        rintro e w4 ⟨rfl, h4, o4⟩
        have C' : Counted w b s lim i (ticks + 1) (k + 1) w4 (D.map t1) :=
          ⟨h4, fair_tick C.fair, by rw [getD_map, if_pos hlt2, HAT.out, t1_lo (by omega)], by simpa using hlt2, by omega, by omega, C.bel.trans (o4.below gs hz)⟩
        clear C d1 d3 h4 o4
        go_wp2_with fail
        go_roundw
        case rel => exact ⟨k + 1, ticks + 1, _, by omega, by go_num, rfl, C'⟩
        case measure => simp [intOf]; omega
      · by_cases hx7 : q % 8 = 7
        · go_wp2_with fail
          refine (reset_all wr b s lim D C.wat).mono ?_
          rintro e w4 ⟨rfl, h4, o4⟩
          have C' : Counted w b s lim i 0 (k + 1) w4 (List.replicate D.length 0) :=
            ⟨h4, fair_zero _, by rw [List.getD_eq_getElem?_getD, List.getElem?_replicate]; split <;> simp, by simpa using hlt2, by omega, by omega, C.bel.trans (o4.below gs hz)⟩
          clear C d1 d3 h4 o4
          go_wp2_with fail
          go_roundw
          case rel => exact ⟨k + 1, 0, _, by omega, by go_num, rfl, C'⟩
          case measure => simp [intOf]; omega
        · have h456 : q % 8 = 4 ∨ q % 8 = 5 ∨ q % 8 = 6 := by omega
          clear hq3 hx7
          by_cases hy : y = i
          · have hyb : (y == (i : Int)) = true := by simpa using hy
            have hya : (hearF D y).getD i 0 = 0 := by rw [hearF_at _ _ _ hlt2, if_pos hy]
            have HYA := Lib.hid hya
            clear hy hya
            rcases h456 with hq | hq | hq
            all_goals
              go_wp2_with fail
              refine (hear_all wr b s lim D C.wat y).mono ?_
              rintro e w4 ⟨rfl, h4, o4⟩
              have C' : Counted w b s lim i 0 (k + 1) w4 (hearF D y) :=
                ⟨h4, fair_hear C.fair y, HYA.out, by rw [hearF_len]; exact hlt2, by omega, by omega, C.bel.trans (o4.below gs hz)⟩
              have d4 := D2.out _ C'.bel
              clear C d1 d3 h4 o4
              go_wp2_with fail
              go_roundw
              case rel => exact ⟨k + 1, 0, _, by omega, by go_num, rfl, C'⟩
              case measure => simp [intOf]; omega
          · have hyb : (y == (i : Int)) = false := by simpa using hy
            have hya : (hearF D y).getD i 0 = ticks := by rw [hearF_at _ _ _ hlt2, if_neg hy, HAT.out]
            have HYA := Lib.hid hya
            clear hy hya
            rcases h456 with hq | hq | hq
            all_goals
              go_wp2_with fail
              refine (hear_all wr b s lim D C.wat y).mono ?_
              rintro e w4 ⟨rfl, h4, o4⟩
              have C' : Counted w b s lim i ticks (k + 1) w4 (hearF D y) :=
                ⟨h4, fair_hear C.fair y, HYA.out, by rw [hearF_len]; exact hlt2, by omega, by omega, C.bel.trans (o4.below gs hz)⟩
              have d4 := D2.out _ C'.bel
              clear C d1 d3 h4 o4
              go_wp2_with fail
              go_roundw
              case rel => exact ⟨k + 1, ticks, _, by omega, by go_num, rfl, C'⟩
              case measure => simp [intOf]; omega
    · obtain rfl : k = n := by omega
      go_wp2_with fail
      refine (gone_any wr b s lim D C.wat).mono ?_
      rintro e w4 ⟨v, rfl, ov, _, B4⟩
      obtain ⟨al, cl, rfl, ql⟩ := owns_shape ov
      have h4 := C.wat.kept B4
      have hsil : silF D i = ticks := by unfold silF; rw [if_pos (by omega)]; simpa using HAT.out
      have HSIL := Lib.hid hsil
      have hgl : (goneOf lim D).length ≤ 64 := Nat.le_trans (goneUp_len _ _ _) C.wat.len2
      have hmem := mem_goneUp lim D D.length i
      rw [HAT.out] at hmem
      have BB := C.bel.trans (B4.mono hz)
      have HQ := Lib.hid ql
      have HM := Lib.hid (show (goneOf lim D).contains (i : Int) = decide (lim < ticks) by
        rw [List.contains_eq_mem]; unfold goneOf
        by_cases g : lim < ticks
        · rw [decide_eq_true g, decide_eq_true (hmem.2 ⟨hlt2, g⟩)]
        · rw [decide_eq_false g, decide_eq_false (fun h => g (hmem.1 h).2)])
      have HTAKE := Lib.hid (fun j hj => contains_take (goneOf lim D) j (i : Int) hj)
      have HALL := Lib.hid (show (goneOf lim D).take (goneOf lim D).length = goneOf lim D from List.take_length)
      clear ov B4 ql hmem hsil C HC HK
      generalize goneOf lim D = G at *
      go_wp2_with fail
      go_loop [13, 15] (fun g j => ∃ j' : Nat, j' ≤ G.length ∧ j = .int .i64 j' ∧ g = .bool ((G.take j').contains (i : Int))) (fun _ j => G.length - (intOf j).toNat)
      case atStart => exact ⟨0, by omega, rfl, by simp⟩
      case round =>
        obtain ⟨j, hj, rfl, hg⟩ := hrel
        by_cases hjl : j < G.length
        · obtain ⟨g, rfl, _, hc⟩ := HQ.out j hjl
          have HT := Lib.hid (HTAKE.out j hjl)
          have j0 : (0 : Int) ≤ (j : Int) := by omega
          have j1 : (j : Int) < (G.length : Int) := by omega
          generalize G.getD j 0 = y at *
          cases hB : (G.take j).contains (i : Int)
          · rw [hB] at hg
            subst hg
            have HT' := Lib.hid (show (G.take (j + 1)).contains (i : Int) = (y == (i : Int)) by rw [HT.out, hB, Bool.false_or])
            clear hB HT
            go_wp2
            go_round
            case rel => exact ⟨j + 1, by omega, by go_num, by rw [HT'.out]⟩
            case measure => simp [intOf]; omega
          · rw [hB] at hg
            subst hg
            have HT' := Lib.hid (show (G.take (j + 1)).contains (i : Int) = true by rw [HT.out, hB, Bool.true_or])
            clear hB HT
            go_wp2
            go_round
            case rel => exact ⟨j + 1, by omega, by go_num, by rw [HT'.out]⟩
            case measure => simp [intOf]; omega
        · obtain rfl : j = G.length := by omega
          rw [HALL.out, HM.out] at hg
          have hcase : (l ≤ 1 ∧ lim = 1) ∨ (1 < l ∧ l ≤ 1073741824 ∧ lim = l) ∨ (1073741824 < l ∧ lim = 1073741824) := by
            rw [← HLM.out]; have := HLIM.out
            by_cases c1 : l ≤ 1
            · rw [limF_lo c1]; omega
            · by_cases c2 : 1073741824 ≤ l
              · rw [limF_hi c2]; omega
              · rw [limF_mid (by omega) (by omega)]; omega
          clear HALL HM HTAKE HQ HLM HLIM
          have fin : ∀ w9, Below w4.heap.size w4 w9 → Below w.heap.size w w9 := fun w9 h => BB.trans (h.mono BB.size)
          by_cases g : lim < ticks
          · rw [decide_eq_true g] at hg
            subst hg
            rcases hcase with ⟨c1, c2⟩ | ⟨c1, c1', c2⟩ | ⟨c1, c2⟩
            · have g : 1 < ticks := by omega
              clear c2
              go_wp2_with fail
              refine (silent_all w4 b s lim D h4 i).mono ?_
              rintro e w' ⟨rfl, rfl⟩
              rw [HSIL.out]
              go_wp2_with (go_at_call 8; refine (works_any _).mono ?_; rintro e w9 ⟨rfl, B9⟩)
              go_ret
              exact ⟨rfl, fin _ B9⟩
            · have g : l < ticks := by omega
              clear c2
              go_wp2_with fail
              refine (silent_all w4 b s lim D h4 i).mono ?_
              rintro e w' ⟨rfl, rfl⟩
              rw [HSIL.out]
              go_wp2_with (go_at_call 8; refine (works_any _).mono ?_; rintro e w9 ⟨rfl, B9⟩)
              go_ret
              exact ⟨rfl, fin _ B9⟩
            · exfalso; omega
          · rw [decide_eq_false g] at hg
            subst hg
            rcases hcase with ⟨c1, c2⟩ | ⟨c1, c1', c2⟩ | ⟨c1, c2⟩
            · have gd : decide (1 < ticks) = false := by simp; omega
              clear c2
              go_wp2_with fail
              refine (silent_all w4 b s lim D h4 i).mono ?_
              rintro e w' ⟨rfl, rfl⟩
              rw [HSIL.out]
              go_wp2_with (go_at_call 8; refine (works_any _).mono ?_; rintro e w9 ⟨rfl, B9⟩)
              go_ret
              exact ⟨rfl, fin _ B9⟩
            · have gd : decide (l < ticks) = false := by simp; omega
              clear c2
              go_wp2_with fail
              refine (silent_all w4 b s lim D h4 i).mono ?_
              rintro e w' ⟨rfl, rfl⟩
              rw [HSIL.out]
              go_wp2_with (go_at_call 8; refine (works_any _).mono ?_; rintro e w9 ⟨rfl, B9⟩)
              go_ret
              exact ⟨rfl, fin _ B9⟩
            · have gd : decide (l < ticks) = false := by simp; omega
              clear c2
              go_wp2_with fail
              refine (silent_all w4 b s lim D h4 i).mono ?_
              rintro e w' ⟨rfl, rfl⟩
              rw [HSIL.out]
              go_wp2_with (go_at_call 8; refine (works_any _).mono ?_; rintro e w9 ⟨rfl, B9⟩)
              go_ret
              exact ⟨rfl, fin _ B9⟩
end Go.Proofs.Ytpiolgpfhplhcaa
