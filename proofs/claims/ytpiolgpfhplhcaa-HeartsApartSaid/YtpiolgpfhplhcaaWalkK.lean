/- The walk over HeartsPlays. -/
import Derived.Test.YtpiolgpfhplhcaaWalkJ
namespace Go.Proofs.Ytpiolgpfhplhcaa
open Go Go.RowKit
set_option linter.unusedVariables false

set_option maxHeartbeats 4000000 in
theorem plays_main (m l : Int) (a : Option Addr) (n cap : Nat) (K N : Nat → Int) (w : World) (hrow : CallRow w a n K N) (hn : n ≤ 1000) :
    Calls Try.prog 3 #[.int .i64 m, .int .i64 l, .slice a n cap] w fun e w' => e = .returned (.bool true) ∧ Below w.heap.size w w' := by
  go_enter Try.func3, Try.ntmps3
  go_wp2_with fail
  refine (new_any m l w).mono ?_
  rintro e w1 ⟨b, s, rfl, h1, gb, gs, B1⟩
  go_wp2_with fail
  refine (refnew_any m l w1).mono ?_
  rintro e w2 ⟨b', s', rfl, h2, gb', gs', B2⟩
  have hm := memF_bd m
  have hA : Apart w.heap.size b s b' s' := by
    have e1 := h1.ltb
    have e2 := h1.row.lt
    have e3 := B1.size
    exact ⟨gb, gs, by omega, by omega, by omega, by omega, by omega, by omega⟩
  have R0 : Rel w b s b' s' (limF l) 0 w2 := by
    refine ⟨0, List.replicate (memF m) 0, List.replicate (memF m) 0, ⟨?_, h1.kept B2, h2, ⟨by omega, fun j => ?_⟩⟩, by omega, by omega, B1.trans (B2.mono B1.size)⟩
    · apply ext_getD
      · simp [agoOf_len]
      · intro j hj
        rw [agoOf_at _ _ _ (by simpa using hj)]
        rw [List.getD_eq_getElem?_getD, List.getElem?_replicate]; split <;> simp
    · rw [List.getD_eq_getElem?_getD, List.getElem?_replicate]; split <;> simp
  clear h1 h2 B1 B2 gb gs gb' gs' hm
  have hc := hrow.cells
  have hK := hrow.kinds
  have HC := Lib.hid hc
  have HK := Lib.hid hK
  clear hc hK hrow
  generalize limF l = lim at *
  go_wp2
  go_loopw [9] (fun i wr => ∃ k : Nat, k ≤ n ∧ i = .int .i64 k ∧ Rel w b s b' s' lim k wr) (fun i _ => n - (intOf i).toNat)
  case atStart => exact ⟨0, by omega, rfl, R0⟩
  case round =>
    clear R0
    obtain ⟨k, hk, rfl, now, ls, D, hb, hnow, hnow2, B3⟩ := hrel
    by_cases hlt : k < n
    · obtain ⟨ba, off, rfl, hba, hcc⟩ := HC.out (by omega)
      obtain ⟨hc1, hc2⟩ := hcc k hlt
      have d1 := (B3.cell (p := ⟨ba, off + k * 2, none⟩) hba).trans hc1
      have d2 := (B3.cell (p := ⟨ba, off + k * 2 + 1, none⟩) hba).trans hc2
      have hKk := HK.out k
      clear hcc hc1 hc2
      generalize K k = x at *
      generalize N k = y at *
      have k0 : (0 : Int) ≤ (k : Int) := by omega
      have k1 : (k : Int) < (n : Int) := by omega
      have hz3 := B3.size
      by_cases hx : x % 8 ≤ 3
      · go_wp2_with fail
        refine (tick_all wr b s lim D hb.wat (by rw [hb.eq]; exact fair_ago hb.fair)).mono ?_
        rintro e w4 ⟨rfl, h4, o4⟩
        have r4 := hb.ref.other o4 hA.n3.symm hA.n4.symm
        have c4 := r4.c1
        have f4 := r4.f1
        have B4 := B3.trans (o4.below hA.s1 hz3)
        have b5 : Both (w4.setCell ⟨b', 1, none⟩ (.int .i64 (now + 1))) b s b' s' lim (now + 1) ls (D.map t1) :=
          ⟨ago_tick hb.eq hb.fair, h4.other (only_setCell _ _ _ _) hA.n1 hA.n3, r4.tick _, reffair_tick hb.fair (by omega)⟩
        have B5 : Below w.heap.size w (w4.setCell ⟨b', 1, none⟩ (.int .i64 (now + 1))) := B4.setCell hA.b2 _
        clear h4 o4 r4 d1 d2 hb B3 B4
        go_wp2_with fail
        refine (tells_any _ b s b' s' lim (now + 1) ls _ b5 y).mono ?_
        rintro e w6 ⟨rfl, B6⟩
        have R : Rel w b s b' s' lim (k + 1) w6 := ⟨now + 1, ls, _, b5.kept B6, by omega, by omega, B5.trans (B6.mono B5.size)⟩
        clear b5 B5 B6 c4 f4
        go_wp2_with fail
        go_roundw
        case rel => exact ⟨k + 1, by omega, by go_num, R⟩
        case measure => simp [intOf]; omega
      · by_cases hx7 : x % 8 = 7
        · go_wp2_with fail
          refine (reset_all wr b s lim D hb.wat).mono ?_
          rintro e w4 ⟨rfl, h4, o4⟩
          have r4 := hb.ref.other o4 hA.n3.symm hA.n4.symm
          have B4 := B3.trans (o4.below hA.s1 hz3)
          go_wp2_with fail
          refine (refreset_any w4 b' s' lim now ls r4).mono ?_
          rintro e w5 ⟨rfl, h5, o5⟩
          have b5 : Both w5 b s b' s' lim now (ls.map fun _ => now) (List.replicate D.length 0) :=
            ⟨ago_reset hb.eq, h4.other o5 hA.n2 hA.n4, h5, reffair_reset hb.fair hnow⟩
          have B5 := B4.trans (o5.below hA.s2 B4.size)
          clear h4 o4 r4 d1 d2 hb B3 B4 h5 o5
          go_wp2_with fail
          refine (tells_any _ b s b' s' lim now _ _ b5 y).mono ?_
          rintro e w6 ⟨rfl, B6⟩
          have R : Rel w b s b' s' lim (k + 1) w6 := ⟨now, _, _, b5.kept B6, hnow, by omega, B5.trans (B6.mono B5.size)⟩
          clear b5 B5 B6
          go_wp2_with fail
          go_roundw
          case rel => exact ⟨k + 1, by omega, by go_num, R⟩
          case measure => simp [intOf]; omega
        · have hx8 : 4 ≤ x % 8 ∧ x % 8 ≤ 6 := by omega
          have h456 : x % 8 = 4 ∨ x % 8 = 5 ∨ x % 8 = 6 := by omega
          clear hx hx7 hx8
          have r4 := fun w4 (o4 : Only s wr w4) => hb.ref.other o4 hA.n3.symm hA.n4.symm
          by_cases hy : 0 ≤ y ∧ y < D.length
          · have e1 : hearE D y = 0 := by unfold hearE; rw [if_pos hy]
            have e2 : refHearB ls y = true := by unfold refHearB; rw [hb.len, decide_eq_true hy]
            have E1 := Lib.hid e1
            have E2 := Lib.hid e2
            clear e1 e2
            rcases h456 with hq | hq | hq
            all_goals
              go_wp2_with fail
              refine (hear_all wr b s lim D hb.wat y).mono ?_
              rintro e w4 ⟨rfl, h4⟩
              rw [E1.out]
              have B4 := B3.trans (h4.2.below hA.s1 hz3)
              go_wp2_with fail
              refine (refhear_all w4 b' s' lim now ls (r4 w4 h4.2) y).mono ?_
              rintro e w5 ⟨rfl, h5⟩
              rw [E2.out]
              have b5 := hb.hear hA y hnow h4 h5
              have B5 := B4.trans (h5.2.below hA.s2 B4.size)
              clear h4 r4 d1 d2 hb B3 B4 h5
              go_wp2_with fail
              refine (tells_any _ b s b' s' lim now _ _ b5 y).mono ?_
              rintro e w6 ⟨rfl, B6⟩
              have R : Rel w b s b' s' lim (k + 1) w6 := ⟨now, _, _, b5.kept B6, hnow, by omega, B5.trans (B6.mono B5.size)⟩
              clear b5 B5 B6
              go_wp2_with fail
              go_roundw
              case rel => exact ⟨k + 1, by omega, by go_num, R⟩
              case measure => simp [intOf]; omega
          · have e1 : hearE D y = 2 := by unfold hearE; rw [if_neg hy]
            have e2 : refHearB ls y = false := by unfold refHearB; rw [hb.len, decide_eq_false hy]
            have e3 : hearF D y = D := by unfold hearF; rw [if_neg hy]
            have E1 := Lib.hid e1
            have E2 := Lib.hid e2
            have E3 := Lib.hid e3
            clear e1 e2 e3
            by_cases hy0 : y < 0
            · clear hy
              rcases h456 with hq | hq | hq
              all_goals
                go_wp2_with fail
                refine (hear_all wr b s lim D hb.wat y).mono ?_
                rintro e w4 ⟨rfl, h4⟩
                rw [E1.out]
                have B4 := B3.trans (h4.2.below hA.s1 hz3)
                go_wp2_with fail
                refine (refhear_all w4 b' s' lim now ls (r4 w4 h4.2) y).mono ?_
                rintro e w5 ⟨rfl, h5⟩
                rw [E2.out]
                have b5 := hb.hear hA y hnow h4 h5
                have B5 := B4.trans (h5.2.below hA.s2 B4.size)
                rw [E3.out] at b5
                clear h4 r4 d1 d2 hb B3 B4 h5
                go_wp2_with fail
                refine (hear_all w5 b s lim D b5.wat y).mono ?_
                rintro e w6 ⟨rfl, h6⟩
                rw [E1.out]
                rw [E3.out] at h6
                have b6 : Both w6 b s b' s' lim now _ D := ⟨b5.eq, h6.1, b5.ref.other h6.2 hA.n3.symm hA.n4.symm, b5.fair⟩
                have B6 := B5.trans (h6.2.below hA.s1 B5.size)
                clear b5 B5 h6
                go_wp2_with fail
                refine (tells_any _ b s b' s' lim now _ _ b6 y).mono ?_
                rintro e w7 ⟨rfl, B7⟩
                have R : Rel w b s b' s' lim (k + 1) w7 := ⟨now, _, _, b6.kept B7, hnow, by omega, B6.trans (B7.mono B6.size)⟩
                clear b6 B6 B7
                go_wp2_with fail
                go_roundw
                case rel => exact ⟨k + 1, by omega, by go_num, R⟩
                case measure => simp [intOf]; omega
            · have hy0 : 0 ≤ y := by omega
              clear hy
              rcases h456 with hq | hq | hq
              all_goals
                go_wp2_with fail
                refine (hear_all wr b s lim D hb.wat y).mono ?_
                rintro e w4 ⟨rfl, h4⟩
                rw [E1.out]
                have B4 := B3.trans (h4.2.below hA.s1 hz3)
                go_wp2_with fail
                refine (refhear_all w4 b' s' lim now ls (r4 w4 h4.2) y).mono ?_
                rintro e w5 ⟨rfl, h5⟩
                rw [E2.out]
                have b5 := hb.hear hA y hnow h4 h5
                have B5 := B4.trans (h5.2.below hA.s2 B4.size)
                clear h4 r4 d1 d2 hb B3 B4 h5
                go_wp2_with fail
                refine (tells_any _ b s b' s' lim now _ _ b5 y).mono ?_
                rintro e w6 ⟨rfl, B6⟩
                have R : Rel w b s b' s' lim (k + 1) w6 := ⟨now, _, _, b5.kept B6, hnow, by omega, B5.trans (B6.mono B5.size)⟩
                clear b5 B5 B6
                go_wp2_with fail
                go_roundw
                case rel => exact ⟨k + 1, by omega, by go_num, R⟩
                case measure => simp [intOf]; omega
    · obtain rfl : k = n := by omega
      clear hb HC HK
      go_wp2_with (go_at_call 8; refine (works_any _).mono ?_; rintro e w9 ⟨rfl, B9⟩)
      go_ret
      exact ⟨rfl, B3.trans (B9.mono B3.size)⟩
end Go.Proofs.Ytpiolgpfhplhcaa
