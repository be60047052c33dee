/- The walk over RankTotal. -/
import Derived.Test.YtcnggabjejkdbaaSums
import Derived.Test.YtcnggabjejkdbaaRow
import Derived.WalkKit
import Derived.Handy
import Derived.Lib.Hide
import Derived.Deep.RegionHeld3
namespace Go.Proofs.Ytcnggabjejkdbaa
open Go.RowKit
set_option linter.unusedVariables false

theorem Try.info2 : (Try.prog.info? 2).map (fun i => (i.zero, i.size, i.bytes)) = some (some (.int .i64 0), 1, 8) := by kernel_rfl

/-- What holds of the mail and of what is lost: not more than top together. -/
structure MailInv (B n : Nat) (w wr : World) (ms : List Int) (s top : Int) : Prop where
  len : ms.length = n
  nonneg : ∀ x ∈ ms, 0 ≤ x
  s0 : 0 ≤ s
  sum : ms.sum + s ≤ top
  row : IRow wr B 2 ms
  bel : Below B w wr

theorem MailInv.add {B n : Nat} {w wr : World} {ms : List Int} {s top : Int} (h : MailInv B n w wr ms s top) (nq : Nat) (t : Nat) (ht : t < n) (x : Int) (hx : 0 ≤ x) (y : Int) (hy : y = ms.getD t 0 + x) (top' : Int) (htop : top + x ≤ top') :
    MailInv B n w ((wr.drewN nq).setCell ⟨B, t, none⟩ (.int .i64 y)) (ms.set t y) s top' := by
  have hb := getD_bd ms h.nonneg t
  have hl := h.len
  have hs := h.sum
  subst hy
  exact ⟨by simpa using h.len, nonneg_set ms t _ h.nonneg (by omega), h.s0, by rw [sum_set ms t x (by omega)]; omega, (h.row.drewN nq).set t _, (below_drewN h.bel nq).setCell (Nat.le_refl _) _⟩

set_option maxHeartbeats 2000000 in
theorem total_main (b0 o0 c0 b1 o1 c1 n l1 : Nat) (zs ks : List Int) (damp : Int) (w : World) (hn : 1 ≤ n) (hn2 : n ≤ 40) (hl : n ≤ l1) (hl2 : l1 ≤ 9223372036854775807)
    (hz : ∀ i, i < n → w.cell? ⟨b0, o0 + i, none⟩ = some (.int .u32 (zs.getD i 0))) (hk : ∀ i, i < n → w.cell? ⟨b1, o1 + i, none⟩ = some (.int .u8 (ks.getD i 0)))
    (hzb : ∀ i, 0 ≤ zs.getD i 0 ∧ zs.getD i 0 ≤ 4294967295) (hkb : ∀ i, 0 ≤ ks.getD i 0 ∧ ks.getD i 0 ≤ 255)
    (h0 : b0 < w.heap.size) (h1 : b1 < w.heap.size) (hd : 0 ≤ damp) (hd2 : damp ≤ 18446744073709551615) :
    Calls Try.prog 5 #[.slice (some ⟨b0, o0, none⟩) n c0, .slice (some ⟨b1, o1, none⟩) l1 c1, .int .u64 damp] w fun e w' => e = .returned (.bool true) ∧ Below w.heap.size w w' := by
  obtain ⟨i0, hi, hz0, hz1, hz2⟩ := info_parts Try.info2
  go_enter Try.func5, Try.ntmps5
  go_wp2_with (first | (refine wpList_make_full _ rfl _ _ 31 rfl w.heap.size 2 i0 (.int .i64 0) 1 Try.underlying31 hi hz0 hz1 .i64 .i64 _ _ n rfl rfl rfl rfl (by rw [hz2]; omega) (by unfold maxLen; omega) (Nat.le_refl _) ?_; intro w1 hown hgrow))
  have hr0 : IRow w1 w.heap.size 2 (List.replicate n 0) := by
    refine IRow.of_owns (base := w.heap.size) (n := n) ?_
    rw [show Value.cells (.int .i64 0) = #[.int .i64 0] from rfl, toList_madeCells_one, Nat.mul_one] at hown
    simpa using hown
  have hb1 : Below w.heap.size w w1 := (Below.refl _ _).grown hgrow (Nat.le_refl _) (fun k h => by cases h)
  have hinv0 : MailInv w.heap.size n w w1 (List.replicate n 0) 0 0 := ⟨by simp, by intro x hx; have := (List.mem_replicate.1 hx).2; omega, by omega, by rw [sum_replicate]; omega, hr0, hb1⟩
  clear hown hgrow hr0 hb1 hi hz0 hz1 hz2
  have hV0 : 0 ≤ (4294967295 : Int) / n := Int.ediv_nonneg (by omega) (by omega)
  have hV1 : (4294967295 : Int) / n ≤ 4294967295 := Int.ediv_le_self _ (by omega)
  go_loopw [10, 11] (fun s i wr => ∃ (i' : Nat) (s' : Int) (ms : List Int), i' ≤ n ∧ i = .int .i64 i' ∧ s = .int .i64 s' ∧ MailInv w.heap.size n w wr ms s' (i' * (4294967295 / n)))
    (fun _ i _ => n - (intOf i).toNat)
  case atStart => exact ⟨0, 0, List.replicate n 0, by omega, rfl, rfl, by simpa using hinv0⟩
  case round =>
    clear hinv0
    obtain ⟨i, s, ms, hin, rfl, rfl, hinv⟩ := hrel
    by_cases hlt : i < n
    · have hc0 := (hinv.bel.cell (p := ⟨b0, o0 + i, none⟩) h0).trans (hz i hlt)
      have hc1 := (hinv.bel.cell (p := ⟨b1, o1 + i, none⟩) h1).trans (hk i hlt)
      have hzi := hzb i
      have hki := hkb i
      have hv := share_top (zs.getD i 0) n hzi.1 hzi.2 (by omega)
      have htop := top_part n i hn hin
      have htop1 := top_part n (i + 1) hn (by omega)
      have hs0 := hinv.s0
      have hsum := hinv.sum
      have hms := sum_nonneg ms hinv.nonneg
      have hsn : ((i + 1 : Nat) : Int) * (4294967295 / n) = i * (4294967295 / n) + 4294967295 / n := by rw [Int.natCast_add, Int.add_mul]; simp
      have HSN := Lib.hid hsn
      clear hsn
      generalize zs.getD i 0 = z at *
      generalize ks.getD i 0 = k at *
      have hkm : 0 ≤ k % (n + 1) ∧ k % (n + 1) ≤ n := ⟨Int.emod_nonneg _ (by omega), by have := Int.emod_lt_of_pos k (show (0 : Int) < n + 1 by omega); omega⟩
      obtain ⟨K, hK⟩ := Int.eq_ofNat_of_zero_le hkm.1
      have hKn : K ≤ n := by omega
      have hKa : k % (n + 1) ≤ K := by omega
      have hKb : (K : Int) ≤ k % (n + 1) := by omega
      by_cases hk0 : K = 0
      · subst hk0
        go_wp2
        refine wp_loop_rounds 1 ?_
        rw [rounds_succ]
        go_wp2
        go_roundw
        case rel =>
          refine ⟨i + 1, s + z / n, ms, by omega, by go_num, rfl, ⟨hinv.len, hinv.nonneg, by omega, ?_, hinv.row, hinv.bel⟩⟩
          rw [HSN.out]; omega
        case measure => simp [intOf]; omega
      · have hk1 : 1 ≤ K := by omega
        have hk0' : (k % ((n : Int) + 1) == 0) = false := by rw [hK]; simpa using hk0
        clear hK
        have hg := giveF_bd (z / n) (k % (n + 1))
        have hg1 := share_mul (v := z / n) (n := k % (n + 1)) hv.1 (by omega)
        obtain ⟨wo, rfl⟩ : ∃ wo : World, wo = wr := ⟨_, rfl⟩
        go_wp2
        go_loopw [14] (fun j wx => ∃ (j' : Nat) (ms' : List Int), j' ≤ K ∧ j = .int .i64 j' ∧ MailInv w.heap.size n w wx ms' s (i * (4294967295 / n) + j' * giveF (z / n) (k % (n + 1))))
          (fun j _ => K - (intOf j).toNat)
        case atStart => exact ⟨0, ms, by omega, rfl, by simpa using hinv⟩
        case round =>
          clear hinv hsum hms hc0 hc1
          obtain ⟨j, ms', hj, rfl, hinv⟩ := hrel
          by_cases hjlt : j < K
          · have ht : (i + 1 + j) % n < n := Nat.mod_lt _ (by omega)
            have hc := hinv.row.cell ((i + 1 + j) % n) (by have := hinv.len; omega)
            have hf := hinv.row.frozen ((i + 1 + j) % n)
            have hgb := getD_bd ms' hinv.nonneg ((i + 1 + j) % n)
            have hms' := hinv.sum
            have hjg : (j : Int) * giveF (z / n) (k % (n + 1)) + giveF (z / n) (k % (n + 1)) ≤ z / n := by
              have : (j : Int) * giveF (z / n) (k % (n + 1)) + giveF (z / n) (k % (n + 1)) = (j + 1) * giveF (z / n) (k % (n + 1)) := by rw [Int.add_mul]; omega
              rw [this]
              refine Int.le_trans ?_ hg1.2
              rw [Int.mul_comm (giveF _ _)]
              exact Int.mul_le_mul_of_nonneg_right (by omega) hg.1
            generalize hm : ms'.getD ((i + 1 + j) % n) 0 = m at *
            have HM := Lib.hid hm
            clear hm
            have hm2 : 0 ≤ m ∧ m ≤ 8589934590 := by omega
            go_wp2
            rw [show ((i : Int) + 1 + j) % n = ((i + 1 + j) % n : Nat) from by simp]
            generalize (i + 1 + j) % n = t at *
            have ht0 : (0 : Int) ≤ (t : Int) := by omega
            have ht1 : (t : Int) < (n : Int) := by omega
            go_region_with ((go_at_call 7; refine (give_any _ _ _ (by omega)).mono ?_; rintro e w' ⟨rfl, rfl⟩))
            all_goals
              go_wp2
              go_roundw
              case rel =>
                refine ⟨j + 1, ms'.set t (m + giveF (z / n) (k % (n + 1))), by omega, by go_num, ?_⟩
                refine hinv.add 1 t ht (giveF (z / n) (k % (n + 1))) hg.1 _ ?_ _ ?_
                · rw [HM.out]
                · rw [Int.natCast_add, Int.add_mul]; simp; omega
              case measure => simp [intOf]; omega
          · have hjK : (j : Int) = k % (n + 1) := by omega
            have hbnd : (j : Int) * giveF (z / n) (k % (n + 1)) ≤ z / n := by rw [hjK, Int.mul_comm]; exact hg1.2
            have hfin : MailInv w.heap.size n w wr ms' s ((i + 1 : Nat) * (4294967295 / n)) := ⟨hinv.len, hinv.nonneg, hinv.s0, by have := hinv.sum; rw [HSN.out]; omega, hinv.row, hinv.bel⟩
            clear hjK hinv
            go_wp2
            go_roundw
            case rel => exact ⟨i + 1, s, ms', by omega, by go_num, rfl, hfin⟩
            case measure => simp [intOf]; omega
    · obtain rfl : i = n := by omega
      have htop := top_all i (by omega)
      have hsum := hinv.sum
      have hs0 := hinv.s0
      have hms := sum_nonneg ms hinv.nonneg
      have hD : 0 ≤ damp % 4294967297 ∧ damp % 4294967297 ≤ 4294967296 := by omega
      go_wp2
      go_loop [16, 17] (fun A j => ∃ (j' : Nat) (A' : Int), j' ≤ i ∧ j = .int .i64 j' ∧ A = .int .i64 A' ∧ Sofar i (damp % 4294967297) s ms j' A')
        (fun _ j => i - (intOf j).toNat)
      case atStart => exact ⟨0, 0, by omega, rfl, rfl, sofar_zero _ _ _ _⟩
      case round =>
        obtain ⟨j, A, hj, rfl, rfl, hso⟩ := hrel
        have hA := sofar_bd i (damp % 4294967297) s ms j A hn hD.1 hD.2 hs0 hinv.len hj hinv.nonneg (by omega) hso
        by_cases hjlt : j < i
        · have hc := hinv.row.cell j (by have := hinv.len; omega)
          have hgb := getD_bd ms hinv.nonneg j
          have hso' := sofar_succ i (damp % 4294967297) s ms j A (by omega) hD.1 hD.2 hs0 (by have := hinv.len; omega) hinv.nonneg hso
          have hA' := sofar_bd i (damp % 4294967297) s ms (j + 1) _ hn hD.1 hD.2 hs0 hinv.len (by omega) hinv.nonneg (by omega) hso'
          clear hso
          generalize ms.getD j 0 = m at *
          go_wp2_with (go_at_call 12; refine (take_any _ _ _ _ _ (by omega) (by omega) (by omega)).mono ?_; rintro e w' ⟨rfl, rfl⟩)
          go_round
          case rel => exact ⟨j + 1, A + takeF i (damp % 4294967297) m s, by omega, by go_num, rfl, hso'⟩
          case measure => simp [intOf]; omega
        · have hbel := hinv.bel
          go_wp2_with (go_at_call 11; refine (works_any _).mono ?_; rintro e w' ⟨rfl, rfl⟩)
          go_ret
          exact ⟨rfl, hbel⟩
end Go.Proofs.Ytcnggabjejkdbaa
