/- The walk over HeartsRise (printed by tools/gen_rise.py). -/
import Derived.Test.YtpiolgpfhplhcaaWalkR
namespace Go.Proofs.Ytpiolgpfhplhcaa
open Go Go.RowKit
set_option linter.unusedVariables false

set_option maxRecDepth 16000 in
set_option maxHeartbeats 16000000 in
theorem rise_main (m0 l : Int) (a : Option Addr) (q cap : Nat) (zs : List Int) (w : World) (hq : q ≤ 80)
    (hrow : 0 < q → ∃ ba off, a = some ⟨ba, off, none⟩ ∧ ba < w.heap.size ∧ ∀ k, k < q → w.cell? ⟨ba, off + k, none⟩ = some (.int .u8 (zs.getD k 0)))
    (hzs : ∀ k, 0 ≤ zs.getD k 0 ∧ zs.getD k 0 ≤ 255) (hm : 0 ≤ m0 ∧ m0 ≤ 255) (hl : 0 ≤ l ∧ l ≤ 255) :
    Calls Try.prog 7 #[.int .u8 m0, .int .u8 l, .slice a q cap] w fun e w' => e = .returned (.bool true) ∧ Below w.heap.size w w' := by
  obtain ⟨i0, hi, hz0, hz1, hz2⟩ := info_parts Try.info3
  obtain ⟨n, hn⟩ : ∃ n : Nat, (1 : Int) + m0 % 20 = n := Int.eq_ofNat_of_zero_le (by omega)
  have hn1 : 1 ≤ n ∧ n ≤ 20 := by omega
  have HN := Lib.hid hn
  have HK := Lib.hid hzs
  have HC := Lib.hid hrow
  have HLS := Lib.hid (limF_small (1 + l % 20) (by omega) (by omega))
  have HLM := Lib.hid (show 0 ≤ 1 + l % 20 ∧ 1 + l % 20 ≤ 20 by omega)
  clear hn hzs hrow
  go_enter Try.func7, Try.ntmps7
  go_wp2_with fail
  rw [HN.out]
  refine (new_any n (1 + l % 20) w).mono ?_
  rintro e w1 ⟨b, s, rfl, h1, gb, gs, B1⟩
  rw [memF_20 n hn1.1 hn1.2, HLS.out] at h1
  go_wp2_with (first | (refine wpList_make_full _ rfl _ _ 33 rfl w1.heap.size 3 i0 (.int .i64 0) 1 Try.underlying33 hi hz0 hz1 .i64 .i64 _ _ n rfl rfl rfl rfl (by rw [hz2]; omega) (by unfold maxLen; omega) (Nat.le_refl _) ?_; intro w2 hown hgrow))
  have hr2 : IRow w2 w1.heap.size 3 (List.replicate n 0) := by
    refine IRow.of_owns (base := w1.heap.size) (n := n) ?_
    rw [show Value.cells (.int .i64 0) = #[.int .i64 0] from rfl, toList_madeCells_one, Nat.mul_one] at hown
    simpa using hown
  have hk2 : Below w1.heap.size w1 w2 := (Below.refl _ _).grown hgrow (Nat.le_refl _) (fun k h => by cases h)
  have l1 := h1.ltb
  have l2 := h1.row.lt
  have R0 : RInv w w2 b s w1.heap.size (1 + l % 20) (List.replicate n 0) n 0 :=
    ⟨h1.kept hk2, hr2, by simp, fun j => by rw [zero_at]; omega, fun j => by rw [zero_at]; omega, by omega, by omega, gs, B1.size, B1.trans (hk2.mono B1.size)⟩
  clear hown hgrow hr2 hk2 l1 l2 h1 gb gs B1 HLS
  go_wp2
  go_loopw [9, 10] (fun v j wr => ∃ (i t : Nat) (D : List Int), i ≤ q ∧ v = .slice (some ⟨t, 0, none⟩) n n ∧ j = .int .i64 i ∧ RInv w wr b s t (1 + l % 20) D n i)
    (fun _ j _ => q - (intOf j).toNat)
  case atStart => exact ⟨0, _, _, by omega, rfl, rfl, R0⟩
  case round =>
    clear R0
    obtain ⟨i, t, D, hiq, rfl, rfl, R⟩ := hrel
    by_cases hlt : i < q
    · obtain ⟨ba, off, rfl, hba, hcc⟩ := HC.out (by omega)
      have hx := HK.out i
      have HX := Lib.hid (hcc i hlt)
      generalize zs.getD i 0 = x at *
      clear hcc
      have i0' : (0 : Int) ≤ (i : Int) := by omega
      have i1' : (i : Int) < (q : Int) := by omega
      have HW := Lib.hid R.wat
      have HLE := Lib.hid (show (goneOf (1 + l % 20) D).length ≤ 64 from Nat.le_trans (goneUp_len _ _ _) R.wat.len2)
      go_wp2_with fail
      refine (gone_any wr b s _ D HW.out).mono ?_
      rintro e w3 ⟨v3, rfl, ov3, _, B3⟩
      obtain ⟨al3, cl3, rfl, ql3⟩ := owns_shape ov3
      have R3 := R.kept B3
      have d3 := (R3.bel.cell (p := ⟨ba, off + i, none⟩) hba).trans HX.out
      clear ov3 ql3 B3 R HW
      have hg64 := HLE.out
      obtain ⟨G, hG⟩ : ∃ G, (goneOf (1 + l % 20) D).length = G := ⟨_, rfl⟩
      rw [hG] at hg64 ⊢
      have HG := Lib.hid hG
      have HW3 := Lib.hid R3.wat
      clear hG HLE
      by_cases hx255 : x = 255
      · subst hx255
        go_wp2_with fail
        refine (reset_all w3 b s _ D HW3.out).mono ?_
        rintro e w4 ⟨rfl, h4⟩
        have H4 := Lib.hid h4
        clear h4 d3
        go_wp2_with (first | (refine wpList_make_full _ rfl _ _ 33 rfl w4.heap.size 3 i0 (.int .i64 0) 1 Try.underlying33 hi hz0 hz1 .i64 .i64 _ _ n rfl rfl rfl rfl (by rw [hz2]; omega) (by unfold maxLen; omega) (Nat.le_refl _) ?_; intro w5 hown hgrow))
        have hr5 : IRow w5 w4.heap.size 3 (List.replicate n 0) := by
          refine IRow.of_owns (base := w4.heap.size) (n := n) ?_
          rw [show Value.cells (.int .i64 0) = #[.int .i64 0] from rfl, toList_madeCells_one, Nat.mul_one] at hown
          simpa using hown
        have R5 := R3.fresh H4.out hgrow hr5 (i + 1)
        have HW5 := Lib.hid R5.wat
        have HE := Lib.hid (show (goneOf (1 + l % 20) (List.replicate n 0)).isEmpty = true by rw [goneOf_zero _ _ HLM.out.1]; rfl)
        clear hown hgrow hr5 R3 HW3 HG
        generalize w4.heap.size = t' at *
        go_wp2_with fail
        refine (all_any w5 b s _ _ HW5.out).mono ?_
        rintro e w6 ⟨rfl, B6⟩
        rw [HE.out]
        have R6 := R5.kept B6
        clear R5 B6 HE HW5
        go_wp2
        go_loopw [14, 15] (fun lt j wr => ∃ (m c : Nat), m ≤ n ∧ j = .int .i64 m ∧ lt = .int .i64 c ∧ c = (goneUp (1 + l % 20) (List.replicate n (0 : Int)) m).length ∧ RInv w wr b s t' (1 + l % 20) (List.replicate n (0 : Int)) n (i + 1))
          (fun _ j _ => n - (intOf j).toNat)
        case atStart => exact ⟨0, 0, by omega, rfl, rfl, by simp [goneUp], R6⟩
        case round =>
          clear R6
          obtain ⟨m, c, hmn, rfl, rfl, hcl, R⟩ := hrel
          have hcm : c ≤ m := by rw [hcl]; exact goneUp_len _ _ _
          have HCL := Lib.hid hcl
          clear hcl
          by_cases hml : m < n
          · have hD := R.row.cell m (by rw [R.len]; exact hml)
            have HS := Lib.hid (show ∀ q, Calls Try.prog 19 #[.pointer (some ⟨b, 0, none⟩), .int .i64 m] (wr.drewN q) fun e w' => e = .returned (.int .i64 ((List.replicate n (0 : Int)).getD m 0)) ∧ ∃ n, w' = (wr.drewN q).drewN n from
              (fun q => (silent_in (wr.drewN q) b s _ _ (R.drewN q).wat m (by rw [R.len]; exact hml)).mono (by rintro e w' ⟨rfl, rfl⟩; exact ⟨rfl, 0, rfl⟩)))
            have HYES := Lib.hid (fun h => goneUp_succ_yes (lim := 1 + l % 20) (ss := (List.replicate n (0 : Int))) (k := m) h)
            have HNO := Lib.hid (fun h => goneUp_succ_no (lim := 1 + l % 20) (ss := (List.replicate n (0 : Int))) (k := m) h)
            generalize (List.replicate n (0 : Int)).getD m 0 = x at *
            have m0 : (0 : Int) ≤ (m : Int) := by omega
            have m1 : (m : Int) < (n : Int) := by omega
            by_cases hx : 1 + l % 20 < x
            · have hc' : c + 1 = (goneUp (1 + l % 20) (List.replicate n (0 : Int)) (m + 1)).length := by rw [HYES.out hx, HCL.out]; simp
              have HC' := Lib.hid hc'
              clear hc' HYES HNO
              go_wp2
              go_quiet ((go_at_call 19; exact Calls.quiet_of (HS.out _)))
              have R' := R.drewN nq
              go_wp2
              go_roundw
              case rel => exact ⟨m + 1, c + 1, by omega, by go_num, by go_num, HC'.out, R'⟩
              case measure => simp [intOf]; omega
            · have hx2 : x ≤ 1 + l % 20 := by omega
              have hc' : c = (goneUp (1 + l % 20) (List.replicate n (0 : Int)) (m + 1)).length := by rw [HNO.out hx2, HCL.out]
              have HC' := Lib.hid hc'
              clear hc' HYES HNO
              go_wp2
              go_quiet ((go_at_call 19; exact Calls.quiet_of (HS.out _)))
              have R' := R.drewN nq
              go_wp2
              go_roundw
              case rel => exact ⟨m + 1, c, by omega, by go_num, rfl, HC'.out, R'⟩
              case measure => simp [intOf]; omega
          · obtain rfl : n = m := by omega
            have HG := Lib.hid (show (goneOf (1 + l % 20) (List.replicate n (0 : Int))).length = c by unfold goneOf; rw [R.len, HCL.out])
            have HW := Lib.hid R.wat
            go_wp2_with fail
            refine (gone_any wr b s _ _ HW.out).mono ?_
            rintro e w7 ⟨v7, rfl, ov7, _, B7⟩
            obtain ⟨al7, cl7, rfl, ql7⟩ := owns_shape ov7
            rw [HG.out]
            have R7 := R.kept B7
            have HW7 := Lib.hid R7.wat
            clear ov7 ql7 B7 R HW HCL
            rcases Nat.eq_zero_or_pos c with hc0 | hc0
            · have HE := Lib.hid (show (goneOf (1 + l % 20) (List.replicate n (0 : Int))).isEmpty = true by
                rw [List.isEmpty_iff, ← List.length_eq_zero_iff, HG.out, hc0])
              clear HG
              subst hc0
              go_wp2_with fail
              refine (all_any w7 b s _ _ HW7.out).mono ?_
              rintro e w8 ⟨rfl, B8⟩
              rw [HE.out]
              have R8 := R7.kept B8
              clear R7 B8 HW7 HE
              go_wp2_with fail
              go_roundw
              case rel => exact ⟨i + 1, t', _, by omega, rfl, by go_num, R8⟩
              case measure => simp [intOf]; omega
            · have HE := Lib.hid (show (goneOf (1 + l % 20) (List.replicate n (0 : Int))).isEmpty = false by
                rw [← Bool.not_eq_true, List.isEmpty_iff, ← List.length_eq_zero_iff, HG.out]; omega)
              have hcb : ((c : Int) == 0) = false := by simp; omega
              clear HG
              go_wp2_with fail
              refine (all_any w7 b s _ _ HW7.out).mono ?_
              rintro e w8 ⟨rfl, B8⟩
              rw [HE.out]
              have R8 := R7.kept B8
              clear R7 B8 HW7 HE
              go_wp2_with fail
              go_roundw
              case rel => exact ⟨i + 1, t', _, by omega, rfl, by go_num, R8⟩
              case measure => simp [intOf]; omega
      · have hxb : (x == 255) = false := by simpa using hx255
        by_cases hx5 : x % 5 < 2
        · have hx5b : decide (x % 5 < 2) = true := by simpa using hx5
          have hi80 : i ≤ 80 := by omega
          go_wp2_with fail
          refine (tick_all w3 b s _ D HW3.out (R3.fair hi80)).mono ?_
          rintro e w4 ⟨rfl, h4⟩
          have r4 := R3.ticked_row h4
          have H4 := Lib.hid h4
          have hDlo := R3.lo
          have hDhi := R3.hi
          have HLEN := Lib.hid R3.len
          have HLO := Lib.hid hDlo
          have HHI := Lib.hid hDhi
          clear h4 d3 hDlo hDhi
          go_wp2
          go_loopw [13] (fun j wr => ∃ (m : Nat) (ms : List Int), m ≤ n ∧ j = .int .i64 m ∧ upTo t1 D m ms ∧ IRow wr t 3 ms ∧ Only t w4 wr)
            (fun j _ => n - (intOf j).toNat)
          case atStart => exact ⟨0, D, by omega, rfl, upTo_zero _ _, r4, only_refl _ _⟩
          case round =>
            clear r4
            obtain ⟨m, ms, hmn, rfl, hup, hr, ho⟩ := hrel
            by_cases hml : m < n
            · have hD1 := hr.cell m (by rw [hup.1, HLEN.out]; exact hml)
              have hD2 := hr.frozen m
              rw [upTo_at hup (by rw [HLEN.out]; exact hml)] at hD1
              have HS := Lib.hid (fun x hx => upTo_succ (f := t1) hup (by rw [HLEN.out]; exact hml) x hx)
              have hlo := HLO.out m
              have hhi := HHI.out m
              generalize D.getD m 0 = y at *
              have m0 : (0 : Int) ≤ (m : Int) := by omega
              have m1 : (m : Int) < (n : Int) := by omega
              have hr' := hr.set m (y + 1)
              go_wp2
              go_roundw
              case rel => exact ⟨m + 1, ms.set m (y + 1), by omega, by go_num, HS.out _ (t1_lo (by omega)).symm, hr', only_trans ho (only_setCell _ _ _ _)⟩
              case measure => simp [intOf]; omega
            · obtain rfl : n = m := by omega
              have R5 := R3.ticked hi80 H4.out hup hr ho
              have hmore := R3.tick_more hi80
              rw [HG.out] at hmore
              have HW5 := Lib.hid R5.wat
              have hle2 : (goneOf (1 + l % 20) (D.map t1)).length ≤ 64 := Nat.le_trans (goneUp_len _ _ _) R5.wat.len2
              clear R3 hup hr ho H4 HG HW3 HLO HHI HLEN
              go_wp2_with fail
              refine (gone_any wr b s _ _ HW5.out).mono ?_
              rintro e w6 ⟨v6, rfl, ov6, _, B6⟩
              obtain ⟨al6, cl6, rfl, ql6⟩ := owns_shape ov6
              have R6 := R5.kept B6
              clear ov6 ql6 B6 R5 HW5
              obtain ⟨G', hG'⟩ : ∃ G', (goneOf (1 + l % 20) (D.map t1)).length = G' := ⟨_, rfl⟩
              rw [hG'] at hmore hle2 ⊢
              clear hG'
              have hmoreb : decide (G' < G) = false := by simp; omega
              go_wp2
              try rw [hmoreb]
              go_loopw [14, 15] (fun lt j wr => ∃ (m c : Nat), m ≤ n ∧ j = .int .i64 m ∧ lt = .int .i64 c ∧ c = (goneUp (1 + l % 20) (D.map t1) m).length ∧ RInv w wr b s t (1 + l % 20) (D.map t1) n (i + 1))
                (fun _ j _ => n - (intOf j).toNat)
              case atStart => exact ⟨0, 0, by omega, rfl, rfl, by simp [goneUp], R6⟩
              case round =>
                clear R6
                obtain ⟨m, c, hmn, rfl, rfl, hcl, R⟩ := hrel
                have hcm : c ≤ m := by rw [hcl]; exact goneUp_len _ _ _
                have HCL := Lib.hid hcl
                clear hcl
                by_cases hml : m < n
                · have hD := R.row.cell m (by rw [R.len]; exact hml)
                  have HS := Lib.hid (show ∀ q, Calls Try.prog 19 #[.pointer (some ⟨b, 0, none⟩), .int .i64 m] (wr.drewN q) fun e w' => e = .returned (.int .i64 ((D.map t1).getD m 0)) ∧ ∃ n, w' = (wr.drewN q).drewN n from
                    (fun q => (silent_in (wr.drewN q) b s _ _ (R.drewN q).wat m (by rw [R.len]; exact hml)).mono (by rintro e w' ⟨rfl, rfl⟩; exact ⟨rfl, 0, rfl⟩)))
                  have HYES := Lib.hid (fun h => goneUp_succ_yes (lim := 1 + l % 20) (ss := (D.map t1)) (k := m) h)
                  have HNO := Lib.hid (fun h => goneUp_succ_no (lim := 1 + l % 20) (ss := (D.map t1)) (k := m) h)
                  generalize (D.map t1).getD m 0 = x at *
                  have m0 : (0 : Int) ≤ (m : Int) := by omega
                  have m1 : (m : Int) < (n : Int) := by omega
                  by_cases hx : 1 + l % 20 < x
                  · have hc' : c + 1 = (goneUp (1 + l % 20) (D.map t1) (m + 1)).length := by rw [HYES.out hx, HCL.out]; simp
                    have HC' := Lib.hid hc'
                    clear hc' HYES HNO
                    go_wp2
                    go_quiet ((go_at_call 19; exact Calls.quiet_of (HS.out _)))
                    have R' := R.drewN nq
                    go_wp2
                    go_roundw
                    case rel => exact ⟨m + 1, c + 1, by omega, by go_num, by go_num, HC'.out, R'⟩
                    case measure => simp [intOf]; omega
                  · have hx2 : x ≤ 1 + l % 20 := by omega
                    have hc' : c = (goneUp (1 + l % 20) (D.map t1) (m + 1)).length := by rw [HNO.out hx2, HCL.out]
                    have HC' := Lib.hid hc'
                    clear hc' HYES HNO
                    go_wp2
                    go_quiet ((go_at_call 19; exact Calls.quiet_of (HS.out _)))
                    have R' := R.drewN nq
                    go_wp2
                    go_roundw
                    case rel => exact ⟨m + 1, c, by omega, by go_num, rfl, HC'.out, R'⟩
                    case measure => simp [intOf]; omega
                · obtain rfl : n = m := by omega
                  have HG := Lib.hid (show (goneOf (1 + l % 20) (D.map t1)).length = c by unfold goneOf; rw [R.len, HCL.out])
                  have HW := Lib.hid R.wat
                  go_wp2_with fail
                  refine (gone_any wr b s _ _ HW.out).mono ?_
                  rintro e w7 ⟨v7, rfl, ov7, _, B7⟩
                  obtain ⟨al7, cl7, rfl, ql7⟩ := owns_shape ov7
                  rw [HG.out]
                  have R7 := R.kept B7
                  have HW7 := Lib.hid R7.wat
                  clear ov7 ql7 B7 R HW HCL
                  rcases Nat.eq_zero_or_pos c with hc0 | hc0
                  · have HE := Lib.hid (show (goneOf (1 + l % 20) (D.map t1)).isEmpty = true by
                      rw [List.isEmpty_iff, ← List.length_eq_zero_iff, HG.out, hc0])
                    clear HG
                    subst hc0
                    go_wp2_with fail
                    refine (all_any w7 b s _ _ HW7.out).mono ?_
                    rintro e w8 ⟨rfl, B8⟩
                    rw [HE.out]
                    have R8 := R7.kept B8
                    clear R7 B8 HW7 HE
                    go_wp2_with fail
                    go_roundw
                    case rel => exact ⟨i + 1, t, _, by omega, rfl, by go_num, R8⟩
                    case measure => simp [intOf]; omega
                  · have HE := Lib.hid (show (goneOf (1 + l % 20) (D.map t1)).isEmpty = false by
                      rw [← Bool.not_eq_true, List.isEmpty_iff, ← List.length_eq_zero_iff, HG.out]; omega)
                    have hcb : ((c : Int) == 0) = false := by simp; omega
                    clear HG
                    go_wp2_with fail
                    refine (all_any w7 b s _ _ HW7.out).mono ?_
                    rintro e w8 ⟨rfl, B8⟩
                    rw [HE.out]
                    have R8 := R7.kept B8
                    clear R7 B8 HW7 HE
                    go_wp2_with fail
                    go_roundw
                    case rel => exact ⟨i + 1, t, _, by omega, rfl, by go_num, R8⟩
                    case measure => simp [intOf]; omega
        · have hx5' : 2 ≤ x % 5 := by omega
          have hx5b : decide (x % 5 < 2) = false := by simpa using hx5'
          obtain ⟨y, hy⟩ : ∃ y : Nat, x % (n : Int) = y := Int.eq_ofNat_of_zero_le (Int.emod_nonneg _ (by omega))
          have hyn : y < n := by have := Int.emod_lt_of_pos x (show (0 : Int) < n by omega); omega
          have HY := Lib.hid hy
          have HLEN := Lib.hid R3.len
          go_wp2_with fail
          rw [HY.out]
          refine (hear_in w3 b s _ D HW3.out y (by rw [HLEN.out]; exact hyn)).mono ?_
          rintro e w4 ⟨rfl, h4, o4⟩
          have R5 := R3.heard y hyn h4 o4
          have r4 : IRow w4 t 3 D := (o4.block t R3.row.lt (fun e => R3.ns (Option.some.inj e).symm)).trans R3.row
          have c4 := r4.cell y (by rw [HLEN.out]; exact hyn)
          have f4 := r4.frozen y
          have hless := R3.heard_less y hyn
          rw [HG.out] at hless
          have HW5 := Lib.hid R5.wat
          have y0 : (0 : Int) ≤ (y : Int) := by omega
          have y1 : (y : Int) < (n : Int) := by omega
          clear h4 o4 r4 d3 R3 HW3 HG HLEN
          go_wp2_with fail
          refine (gone_any _ b s _ _ HW5.out).mono ?_
          rintro e w6 ⟨v6, rfl, ov6, _, B6⟩
          obtain ⟨al6, cl6, rfl, ql6⟩ := owns_shape ov6
          have R6 := R5.kept B6
          clear ov6 ql6 B6 R5 HW5 c4 f4
          obtain ⟨G', hG'⟩ : ∃ G', (goneOf (1 + l % 20) (D.set y 0)).length = G' := ⟨_, rfl⟩
          rw [hG'] at hless ⊢
          clear hG'
          have hlessb : decide (G < G') = false := by simp; omega
          go_wp2
          try rw [hlessb]
          go_loopw [14, 15] (fun lt j wr => ∃ (m c : Nat), m ≤ n ∧ j = .int .i64 m ∧ lt = .int .i64 c ∧ c = (goneUp (1 + l % 20) (D.set y 0) m).length ∧ RInv w wr b s t (1 + l % 20) (D.set y 0) n (i + 1))
            (fun _ j _ => n - (intOf j).toNat)
          case atStart => exact ⟨0, 0, by omega, rfl, rfl, by simp [goneUp], R6⟩
          case round =>
            clear R6
            obtain ⟨m, c, hmn, rfl, rfl, hcl, R⟩ := hrel
            have hcm : c ≤ m := by rw [hcl]; exact goneUp_len _ _ _
            have HCL := Lib.hid hcl
            clear hcl
            by_cases hml : m < n
            · have hD := R.row.cell m (by rw [R.len]; exact hml)
              have HS := Lib.hid (show ∀ q, Calls Try.prog 19 #[.pointer (some ⟨b, 0, none⟩), .int .i64 m] (wr.drewN q) fun e w' => e = .returned (.int .i64 ((D.set y 0).getD m 0)) ∧ ∃ n, w' = (wr.drewN q).drewN n from
                (fun q => (silent_in (wr.drewN q) b s _ _ (R.drewN q).wat m (by rw [R.len]; exact hml)).mono (by rintro e w' ⟨rfl, rfl⟩; exact ⟨rfl, 0, rfl⟩)))
              have HYES := Lib.hid (fun h => goneUp_succ_yes (lim := 1 + l % 20) (ss := (D.set y 0)) (k := m) h)
              have HNO := Lib.hid (fun h => goneUp_succ_no (lim := 1 + l % 20) (ss := (D.set y 0)) (k := m) h)
              generalize (D.set y 0).getD m 0 = x at *
              have m0 : (0 : Int) ≤ (m : Int) := by omega
              have m1 : (m : Int) < (n : Int) := by omega
              by_cases hx : 1 + l % 20 < x
              · have hc' : c + 1 = (goneUp (1 + l % 20) (D.set y 0) (m + 1)).length := by rw [HYES.out hx, HCL.out]; simp
                have HC' := Lib.hid hc'
                clear hc' HYES HNO
                go_wp2
                go_quiet ((go_at_call 19; exact Calls.quiet_of (HS.out _)))
                have R' := R.drewN nq
                go_wp2
                go_roundw
                case rel => exact ⟨m + 1, c + 1, by omega, by go_num, by go_num, HC'.out, R'⟩
                case measure => simp [intOf]; omega
              · have hx2 : x ≤ 1 + l % 20 := by omega
                have hc' : c = (goneUp (1 + l % 20) (D.set y 0) (m + 1)).length := by rw [HNO.out hx2, HCL.out]
                have HC' := Lib.hid hc'
                clear hc' HYES HNO
                go_wp2
                go_quiet ((go_at_call 19; exact Calls.quiet_of (HS.out _)))
                have R' := R.drewN nq
                go_wp2
                go_roundw
                case rel => exact ⟨m + 1, c, by omega, by go_num, rfl, HC'.out, R'⟩
                case measure => simp [intOf]; omega
            · obtain rfl : n = m := by omega
              have HG := Lib.hid (show (goneOf (1 + l % 20) (D.set y 0)).length = c by unfold goneOf; rw [R.len, HCL.out])
              have HW := Lib.hid R.wat
              go_wp2_with fail
              refine (gone_any wr b s _ _ HW.out).mono ?_
              rintro e w7 ⟨v7, rfl, ov7, _, B7⟩
              obtain ⟨al7, cl7, rfl, ql7⟩ := owns_shape ov7
              rw [HG.out]
              have R7 := R.kept B7
              have HW7 := Lib.hid R7.wat
              clear ov7 ql7 B7 R HW HCL
              rcases Nat.eq_zero_or_pos c with hc0 | hc0
              · have HE := Lib.hid (show (goneOf (1 + l % 20) (D.set y 0)).isEmpty = true by
                  rw [List.isEmpty_iff, ← List.length_eq_zero_iff, HG.out, hc0])
                clear HG
                subst hc0
                go_wp2_with fail
                refine (all_any w7 b s _ _ HW7.out).mono ?_
                rintro e w8 ⟨rfl, B8⟩
                rw [HE.out]
                have R8 := R7.kept B8
                clear R7 B8 HW7 HE
                go_wp2_with fail
                go_roundw
                case rel => exact ⟨i + 1, t, _, by omega, rfl, by go_num, R8⟩
                case measure => simp [intOf]; omega
              · have HE := Lib.hid (show (goneOf (1 + l % 20) (D.set y 0)).isEmpty = false by
                  rw [← Bool.not_eq_true, List.isEmpty_iff, ← List.length_eq_zero_iff, HG.out]; omega)
                have hcb : ((c : Int) == 0) = false := by simp; omega
                clear HG
                go_wp2_with fail
                refine (all_any w7 b s _ _ HW7.out).mono ?_
                rintro e w8 ⟨rfl, B8⟩
                rw [HE.out]
                have R8 := R7.kept B8
                clear R7 B8 HW7 HE
                go_wp2_with fail
                go_roundw
                case rel => exact ⟨i + 1, t, _, by omega, rfl, by go_num, R8⟩
                case measure => simp [intOf]; omega
    · obtain rfl : i = q := by omega
      have HW := Lib.hid R.wat
      have HLEN := Lib.hid R.len
      clear HC HK
      go_wp2_with fail
      refine (members_any wr b s _ D HW.out).mono ?_
      rintro e w' ⟨rfl, rfl⟩
      rw [HLEN.out]
      go_wp2_with (go_at_call 8; refine (works_any _).mono ?_; rintro e w9 ⟨rfl, B9⟩)
      go_ret
      exact ⟨rfl, R.bel.trans (B9.mono R.bel.size)⟩
end Go.Proofs.Ytpiolgpfhplhcaa
