/- The walk over NetKnown. -/
import Derived.Test.YtambdhoeakddhaaRWalkK
import Derived.Test.YtambdhoeakddhaaNil
import Derived.Test.YtambdhoeakddhaaGrow
import Derived.Lib.SlBytesConst
import Derived.Deep.AppendLies
import Derived.Test.YtambdhoeakddhaaTells
namespace Go.Proofs.Ytambdhoeakddhaa
open Go Go.RowKit Go.Conc
set_option linter.unusedVariables false

/-- The three texts. -/
def abcS (k : Nat) : ByteArray := ⟨#[(97 + k : Nat).toUInt8]⟩
def abcL (k : Nat) : List Msg := (List.range k).map fun i => ⟨0, 1, numsOf (abcS i)⟩
abbrev mA : Msg := ⟨0, 1, [97]⟩
abbrev mB : Msg := ⟨0, 1, [98]⟩
abbrev mC : Msg := ⟨0, 1, [99]⟩
theorem abcL_next (k : Nat) : abcL (k + 1) = abcL k ++ [⟨0, 1, numsOf (abcS k)⟩] := by simp [abcL, List.range_succ]
theorem abcL_len (k : Nat) : (abcL k).length = k := by simp [abcL]
theorem abc_at {w : World} {t : Nat} (h : w.heap[t]? = some (.cells #[.string ⟨#[97]⟩, .string ⟨#[98]⟩, .string ⟨#[99]⟩] 9 (0, 0))) (k : Nat) (hk : k < 3) : w.cell? ⟨t, k, none⟩ = some (.string (abcS k)) := by
  rw [cell_of_row w t k _ 9 (0, 0) h]
  rcases k with _ | _ | _ | k
  · rfl
  · rfl
  · rfl
  · omega

theorem Try.info45 : (Try.prog.info? 45).map (fun i => (i.zero, i.size, i.bytes)) = some (some (.agg #[.int .u8 0, .int .i64 0, .int .i64 0, .slice none 0 0]), 4, 48) := by kernel_rfl
set_option maxRecDepth 8000 in
set_option maxHeartbeats 16000000 in
theorem known_main (w : World) : Calls Try.prog 7 #[] w fun e w' => e = .returned (.bool true) ∧ Below w.heap.size w w' := by
  go_enter Try.func7, Try.ntmps7
  go_wp2_with fail
  refine (n_new 2 w).mono ?_
  rintro e w1 ⟨b, rfl, hN, hB⟩
  have e3 : clampE 2 = 2 := rfl
  rw [e3] at hN
  have bA : Below w1.heap.size w1 (w1.alloc (.cells #[.string ⟨#[97]⟩, .string ⟨#[98]⟩, .string ⟨#[99]⟩] 9)) := (Below.refl _ _).alloc (Nat.le_refl _) _
  have HT := Lib.hid (heap_alloc_new w1 (.cells #[.string ⟨#[97]⟩, .string ⟨#[98]⟩, .string ⟨#[99]⟩] 9))
  have HN := Lib.hid (hN.kept bA)
  have HB := Lib.hid (hB.trans (bA.mono hB.size))
  clear hN hB e3 bA
  go_wp2_with fail
  generalize w1.alloc (.cells #[.string ⟨#[97]⟩, .string ⟨#[98]⟩, .string ⟨#[99]⟩] 9) = w2 at *
  generalize w1.heap.size = t at *
  go_loopw [17] (fun i wr => ∃ (k : Nat), k ≤ 3 ∧ i = .int .i64 k ∧ Net wr w.heap.size b 2 (abcL k) (fun _ => []) ∧ wr.heap[t]? = some (.cells #[.string ⟨#[97]⟩, .string ⟨#[98]⟩, .string ⟨#[99]⟩] 9 (0, 0)) ∧ Below w.heap.size w wr)
    (fun i _ => 3 - (intOf i).toNat)
  case atStart => exact ⟨0, by omega, rfl, HN.out, HT.out, HB.out⟩
  case round =>
    obtain ⟨k, hk, rfl, hN, hT2, hBw⟩ := hrel
    by_cases hlt : k < 3
    · have k0 : (0 : Int) ≤ (k : Int) := by omega
      have k1 : (k : Int) < 3 := by omega
      have ck := abc_at hT2 k hlt
      have cy := Lib.run_convert_string_bytes (P := Try.prog) wr 9 31 5 (abcS k) Try.underlying9 Try.underlying31 Try.underlying5
      have bY := below_bytes wr 5 (abcS k)
      have HNY := Lib.hid (hN.kept bY)
      have HRW := Lib.hid (bread_bytes wr (abcS k))
      have HT2Y := Lib.hid ((bY.block t (block_lt hT2)).trans hT2)
      have HBY := Lib.hid (hBw.trans (bY.mono hBw.size))
      have hsz : (abcS k).size = 1 := rfl
      rw [hsz] at cy HRW
      clear hN hT2 hBw HN HB bY HT
      generalize grownCap wr 1 0 5 = gc at *
      generalize Lib.bytesWorld wr 5 (abcS k) = wB at *
      generalize wr.heap.size = tb at *
      have hs := n_send HNY.out 0 1 (some ⟨tb, 0, none⟩) 1 gc _ (HRW.out.bat (by omega))
      have he : sendE 2 (abcL k).length 0 1 = 0 := by
        unfold sendE; rw [abcL_len, if_neg (by omega), if_pos (by omega)]
      have hw : sendW 2 (abcL k) 0 1 (numsOf (abcS k)) = abcL (k + 1) := by
        unfold sendW; rw [he, if_pos rfl, abcL_next]
      rw [he, hw] at hs
      have HS := Lib.hid hs
      clear hs he hw
      generalize abcS k = S at *
      go_wp2_with fail
      refine HS.out.mono ?_
      rintro e w3 ⟨rfl, hN3, hM3⟩
      have FIN := Lib.hid (And.intro hN3 (And.intro ((hM3.keeps t _ HT2Y.out rfl).trans HT2Y.out) (HBY.out.trans hM3.bel)))
      clear hN3 hM3
      go_wp2_with fail
      go_roundw
      case rel => exact ⟨k + 1, by omega, by go_num, FIN.out⟩
      case measure => simp [intOf]; omega
    · obtain rfl : k = 3 := by omega
      have e3 : abcL 3 = [mA, mB, mC] := by rfl
      rw [e3] at hN
      have HN2 := Lib.hid hN
      have HB2 := Lib.hid hBw
      clear hN hT2 hBw HN HB HT e3
      go_wp2_with fail
      have ed : (dblE (([] : List Msg) ++ mA :: [mB, mC]).length : Int) = 0 := rfl
      have ew : dblW (([] : List Msg) ++ mA :: [mB, mC]) mA = [mA, mB, mC] ++ mA :: [] := rfl
      have hd := n_double (l1 := []) HN2.out
      rw [ed, ew] at hd
      refine hd.mono ?_
      rintro e w4 ⟨rfl, hN, hM⟩
      have HN4 := Lib.hid hN
      have HB4 := Lib.hid (HB2.out.trans hM.bel)
      clear hN hM HN2 HB2 ed ew hd
      have hrs : rowStr ([mA, mB, mC] ++ mA :: []) = ⟨#[97, 59, 98, 59, 99, 59, 97, 59]⟩ := rfl
      have HR := row_any HN4.out
      rw [hrs] at HR
      have HRR := Lib.hid HR
      clear hrs HR
      go_wp2_with fail
      refine HRR.out.mono ?_
      rintro e w5 ⟨rfl, hB5⟩
      have HN5 := Lib.hid (HN4.out.kept hB5)
      have HB5 := Lib.hid (HB4.out.trans (hB5.mono HB4.out.size))
      clear hB5 HRR HN4 HB4
      go_wp2_with fail
      refine (n_drop HN5.out).mono ?_
      rintro e w6 ⟨rfl, hN, hM⟩
      have HN6 : Hid (Net w6 w.heap.size b 2 ([] ++ mA :: [mB, mC]) (fun _ => [])) := Lib.hid hN
      have HB6 := Lib.hid (HB5.out.trans hM.bel)
      clear hN hM HN5 HB5
      go_wp2_with fail
      refine (n_delay (l1 := []) HN6.out).mono ?_
      rintro e w7 ⟨rfl, hN, hM⟩
      have HN7 : Hid (Net w7 w.heap.size b 2 ([mB] ++ mC :: [mA]) (fun _ => [])) := Lib.hid hN
      have HB7 := Lib.hid (HB6.out.trans hM.bel)
      clear hN hM HN6 HB6
      go_wp2_with fail
      refine (n_drop HN7.out).mono ?_
      rintro e w8 ⟨rfl, hN, hM⟩
      have hrs : rowStr ([mB] ++ [mA]) = ⟨#[98, 59, 97, 59]⟩ := rfl
      have HR := row_any hN
      rw [hrs] at HR
      have HRR := Lib.hid HR
      have HB8 := Lib.hid (HB7.out.trans hM.bel)
      clear hN hM HN7 HB7 hrs HR
      go_wp2_with fail
      refine HRR.out.mono ?_
      rintro e w9 ⟨rfl, hB9⟩
      have HB9 := Lib.hid (HB8.out.trans (hB9.mono HB8.out.size))
      clear hB9 HRR HB8
      go_wp2_with fail
      refine (clear_nil 0 w9).mono ?_
      rintro e _ ⟨rfl, rfl⟩
      go_wp2_with fail
      refine (receive_nil 0 w9).mono ?_
      rintro e w10 ⟨rfl, hB10⟩
      have bA : Below w10.heap.size w10 (w10.alloc (.cells #[.int .i64 0, .int .i64 0, .slice none 0 0] 33)) := (Below.refl _ _).alloc (Nat.le_refl _) _
      have HB10 := Lib.hid ((HB9.out.trans (hB10.mono HB9.out.size)).trans (bA.mono (HB9.out.trans (hB10.mono HB9.out.size)).size))
      clear hB10 bA HB9
      unfold nobody
      go_wp2_with fail
      generalize w10.alloc (.cells #[.int .i64 0, .int .i64 0, .slice none 0 0] 33) = w11 at *
      refine (ends_nil w11).mono ?_
      rintro e _ ⟨rfl, rfl⟩
      go_wp2_with fail
      refine (send_nil 0 0 none 0 0 w11).mono ?_
      rintro e _ ⟨rfl, rfl⟩
      go_wp2_with fail
      refine (deliver_nil 0 w11).mono ?_
      rintro e w12 ⟨rfl, hb⟩
      have HB12 := Lib.hid (HB10.out.trans (hb.mono HB10.out.size))
      clear hb HB10
      go_wp2_with fail
      refine (drop_nil 0 w12).mono ?_
      rintro e w13 ⟨rfl, hb⟩
      have HB13 := Lib.hid (HB12.out.trans (hb.mono HB12.out.size))
      clear hb HB12
      go_wp2_with fail
      refine (double_nil 0 w13).mono ?_
      rintro e _ ⟨rfl, rfl⟩
      go_wp2_with fail
      refine (delay_nil 0 w13).mono ?_
      rintro e w14 ⟨rfl, hb⟩
      have HB14 := Lib.hid (HB13.out.trans (hb.mono HB13.out.size))
      clear hb HB13
      go_wp2_with fail
      refine (way_nil w14).mono ?_
      rintro e _ ⟨rfl, rfl⟩
      go_wp2_with fail
      refine (waits_nil 0 w14).mono ?_
      rintro e _ ⟨rfl, rfl⟩
      go_wp2_with fail
      refine (n_new 64 w14).mono ?_
      rintro e w15 ⟨f, rfl, hN, hB⟩
      have e3 : clampE 64 = 64 := rfl
      rw [e3] at hN
      have HN := Lib.hid hN
      have HB := Lib.hid (HB14.out.trans (hB.mono HB14.out.size))
      have HG := Lib.hid HB14.out.size
      clear hN hB e3 HB14
      generalize w14.heap.size = B14 at *
      go_wp2_with fail
      go_loopw [8] (fun i wr2 => ∃ (k : Nat) (way : List Msg), k ≤ 256 ∧ i = .int .i64 k ∧ way.length = k ∧ (∀ m ∈ way, m.dst = 63) ∧ Net wr2 B14 f 64 way (fun _ => []) ∧ Below w.heap.size w wr2)
        (fun i _ => 256 - (intOf i).toNat)
      case atStart => exact ⟨0, [], by omega, rfl, rfl, fun m h => (by cases h), HN.out, HB.out⟩
      case round =>
        clear HN HB
        obtain ⟨k, way, hk, rfl, hlen, hdst, hN, hBw⟩ := hrel
        have HN2 := Lib.hid hN
        have HBW := Lib.hid hBw
        have HD := Lib.hid hdst
        clear hN hBw hdst
        by_cases hlt : k < 256
        · have k0 : (0 : Int) ≤ (k : Int) := by omega
          have k1 : (k : Int) < 256 := by omega
          have k2 : (k : Int) ≤ 255 := by omega
          go_wp2_with fail
          have bA : Below wr.heap.size wr (wr.alloc (.cells #[.int .u8 k] 5)) := (Below.refl _ _).alloc (Nat.le_refl _) _
          have hs := n_send (HN2.out.kept bA) ((k : Int) % 64) 63 (some ⟨wr.heap.size, 0, none⟩) 1 1 _ (bat1 wr k (0, 0))
          have he : sendE 64 way.length ((k : Int) % 64) 63 = 0 := by
            unfold sendE; rw [hlen, if_neg (by omega), if_pos (by omega)]
          have hw : sendW 64 way ((k : Int) % 64) 63 [(k : Int)] = way ++ [⟨(k : Int) % 64, 63, [(k : Int)]⟩] := by
            unfold sendW; rw [he, if_pos rfl]
          rw [he, hw] at hs
          refine hs.mono ?_
          rintro e w3 ⟨rfl, hN3, hM3⟩
          have FIN := Lib.hid (And.intro hN3 ((HBW.out.trans (bA.mono HBW.out.size)).trans (hM3.bel.mono HG.out)))
          have HD2 : Hid (∀ m ∈ way ++ [⟨(k : Int) % 64, 63, [(k : Int)]⟩], m.dst = 63) := Lib.hid fun m hm => by
            rcases List.mem_append.1 hm with hm | hm
            · exact HD.out m hm
            · rw [List.mem_singleton.1 hm]
          clear hs he hw hN3 hM3 bA
          go_wp2_with fail
          go_roundw
          case rel => exact ⟨k + 1, _, by omega, by go_num, by simp [hlen], HD2.out, FIN.out⟩
          case measure => simp [intOf]; omega
        · obtain rfl : k = 256 := by omega
          obtain ⟨l1, m, l2, rfl, hl1⟩ := split_at way 255 (by omega)
          have hl2 : l2 = [] := List.length_eq_zero_iff.1 (by simp at hlen; omega)
          subst hl2
          have hnil : ∀ w : World, BAt w none 0 [] := fun w => ⟨rfl, by omega, .inl ⟨rfl, rfl⟩⟩
          have e1 : sendE 64 (l1 ++ m :: []).length 0 0 = 3 := by unfold sendE; rw [hlen, if_neg (by omega), if_neg (by omega)]
          have e2 : sendW 64 (l1 ++ m :: []) 0 0 [] = l1 ++ m :: [] := by unfold sendW; rw [e1, if_neg (by omega)]
          have e3 : dblE (l1 ++ m :: []).length = 3 := by unfold dblE; rw [hlen, if_neg (by omega)]
          have e4 : dblW (l1 ++ m :: []) m = l1 ++ m :: [] := by unfold dblW; rw [hlen, if_neg (by omega)]
          have e5 : sendE 64 (l1 ++ m :: []).length 64 0 = 2 := by unfold sendE; rw [if_pos (by omega)]
          have e6 : sendW 64 (l1 ++ m :: []) 64 0 [] = l1 ++ m :: [] := by unfold sendW; rw [e5, if_neg (by omega)]
          have hs := n_send HN2.out 0 0 none 0 0 [] (hnil _)
          rw [e1, e2] at hs
          have HE3 := Lib.hid e3
          have HE4 := Lib.hid e4
          have HE5 := Lib.hid e5
          have HE6 := Lib.hid e6
          have HL := Lib.hid hlen
          have HL1 := Lib.hid hl1
          have HNIL := Lib.hid hnil
          have HS := Lib.hid hs
          clear e1 e2 e3 e4 e5 e6 hlen hl1 hnil hs hlt
          go_wp2_with fail
          refine HS.out.mono ?_
          rintro e w3 ⟨rfl, hN, hM⟩
          have hs := n_double hN
          rw [HE3.out, HE4.out, HL1.out] at hs
          have HS2 := Lib.hid hs
          have HB3 := Lib.hid (HBW.out.trans (hM.bel.mono HG.out))
          clear hN hM hs HS HN2 HBW
          go_wp2_with fail
          refine HS2.out.mono ?_
          rintro e w4 ⟨rfl, hN, hM⟩
          have HN4 := Lib.hid hN
          have HB4 := Lib.hid (HB3.out.trans (hM.bel.mono HG.out))
          clear hN hM HS2 HB3
          go_wp2_with fail
          refine (n_out HN4.out 256 (by have := HL.out; omega) 28 (by simp)).mono ?_
          rintro e w5 ⟨rfl, hN, hb⟩
          have HB5 := Lib.hid (HB4.out.trans (hb.mono HB4.out.size))
          have hs := n_send hN 64 0 none 0 0 [] (HNIL.out _)
          rw [HE5.out, HE6.out] at hs
          have HS := Lib.hid hs
          clear hN hb hs HN4 HB4
          go_wp2_with fail
          refine HS.out.mono ?_
          rintro e w6 ⟨rfl, hN, hM⟩
          have hs := n_delay hN
          rw [HL1.out] at hs
          have HS2 := Lib.hid hs
          have HB6 := Lib.hid (HB5.out.trans (hM.bel.mono HG.out))
          clear hN hM hs HS HB5
          go_wp2_with fail
          refine HS2.out.mono ?_
          rintro e w7 ⟨rfl, hN, hM⟩
          have HN7 := Lib.hid hN
          have HB7 := Lib.hid (HB6.out.trans (hM.bel.mono HG.out))
          have hd7 : ∀ x ∈ l1 ++ ([] ++ [m]), x.dst = 63 := HD.out
          have hl7 : (l1 ++ ([] ++ [m])).length = 256 := HL.out
          clear hN hM HS2 HB6 HE3 HE4 HE5 HE6 HNIL HL HL1 HD
          generalize l1 ++ ([] ++ [m]) = way at *
          have HD7 := Lib.hid hd7
          have HL7 := Lib.hid hl7
          clear hd7 hl7
          go_wp2_with fail
          go_loopw [9] (fun i wr3 => ∃ (k : Nat) (way : List Msg) (box : Nat → List Msg), k ≤ 40 ∧ i = .int .i64 k ∧ way.length + k = 256 ∧ (∀ m ∈ way, m.dst = 63) ∧ (qAt 64 box 63).length = min 32 k ∧ Net wr3 B14 f 64 way box ∧ Below w.heap.size w wr3)
            (fun i _ => 40 - (intOf i).toNat)
          case atStart => exact ⟨0, _, _, by omega, rfl, HL7.out, HD7.out, rfl, HN7.out, HB7.out⟩
          case round =>
            clear HN7 HB7 HD7 HL7
            obtain ⟨k, way, box, hk, rfl, hlen, hdst, hq, hN, hBw⟩ := hrel
            have HBW := Lib.hid hBw
            have HD := Lib.hid hdst
            have HL := Lib.hid hlen
            have HQ := Lib.hid hq
            clear hBw hdst hlen hq
            by_cases hlt : k < 40
            · have k0 : (0 : Int) ≤ (k : Int) := by omega
              have k1 : (k : Int) < 40 := by omega
              cases way with
              | nil => have := HL.out; simp at this; omega
              | cons m l2 =>
                have hm : m.dst = 63 := HD.out m (by simp)
                have HNW := Lib.hid (n_deliver (l1 := []) hN)
                have hq2 : (qAt 64 (dlv 64 box m) 63).length = min 32 (k + 1) := by
                  unfold dlv
                  rw [hm, HQ.out]
                  split
                  · rw [qAt_setQ, if_pos (by omega), List.length_append, HQ.out]; simp; omega
                  · rw [HQ.out]; omega
                have HQ2 := Lib.hid hq2
                have he : (((qAt 64 (dlv 64 box m) 63).length : Nat) : Int) = min 32 ((k : Int) + 1) := by omega
                have HE := Lib.hid he
                clear hN hq2 he hm
                go_wp2_with fail
                refine HNW.out.mono ?_
                rintro e w3 ⟨rfl, hN, hM⟩
                have hwt := n_waits hN 63
                rw [HE.out] at hwt
                have HWT := Lib.hid hwt
                have HN3 := Lib.hid hN
                have HB3 := Lib.hid (HBW.out.trans (hM.bel.mono HG.out))
                clear hN hM hwt
                go_wp2_with fail
                refine HWT.out.mono ?_
                rintro e _ ⟨rfl, rfl⟩
                go_wp2_with fail
                go_roundw
                case rel => exact ⟨k + 1, l2, _, by omega, by go_num, by have := HL.out; simp at this; omega, fun x hx => HD.out x (List.mem_cons_of_mem _ hx), HQ2.out, HN3.out, HB3.out⟩
                case measure => simp [intOf]; omega
            · obtain rfl : k = 40 := by omega
              rw [show ((40 : Nat) : Int) = 40 from rfl]
              have HN8 := Lib.hid hN
              clear hN HQ HD hlt
              go_wp2_with fail
              obtain ⟨i0, hi, hz0, hz1, hz2⟩ := info_parts Try.info45
              have HI := Lib.hid hi
              have HZ0 := Lib.hid hz0
              have HZ1 := Lib.hid hz1
              have HZ2 := Lib.hid hz2
              clear hi hz0 hz1 hz2
              generalize wr = wG at *
              go_loopw [10, 11] (fun v i wx => ∃ (k : Nat) (K : List CallV), k ≤ 110 ∧ K.length = k ∧ i = .int .i64 k ∧ Grow wx wG.heap.size v K ∧ Below wG.heap.size wG wx)
                (fun _ i _ => 110 - (intOf i).toNat)
              case atStart => exact ⟨0, [], by omega, rfl, rfl, grow_nil _ _, Below.refl _ _⟩
              case round =>
                obtain ⟨k, K, hk, hKl, rfl, hG, hBG⟩ := hrel
                have HGR := Lib.hid hG
                have HBG := Lib.hid hBG
                clear hBG
                by_cases hlt : k < 110
                · have k0 : (0 : Int) ≤ (k : Int) := by omega
                  have k1 : (k : Int) < 110 := by omega
                  have kk0 : (0 : Int) ≤ (k : Int) * (k : Int) := Int.mul_nonneg k0 k0
                  have kk1 : (k : Int) * (k : Int) ≤ 110 * 110 := Int.mul_le_mul (by omega) (by omega) k0 (by omega)
                  obtain ⟨va, vc, rfl⟩ := hG.slice
                  clear hG
                  have bB : Below wr.heap.size wr ((wr.alloc (.cells #[.int .u8 ((k : Int) % 3)] 5)).alloc (.cells #[.int .u8 ((k : Int) * 7 % 11), .int .i64 ((k : Int) * (k : Int) % 5 - 1), .int .i64 ((k : Int) % 4 - 1), .slice (some ⟨wr.heap.size, 0, none⟩) 1 1] 45)) := ((Below.refl _ _).alloc (Nat.le_refl _) _).alloc (by simp) _
                  have HGZ := Lib.hid (HGR.out.kept bB)
                  have hr := HGZ.out.row
                  rw [hKl] at hr
                  have HRR := Lib.hid hr
                  have HBZ := Lib.hid (HBG.out.trans (bB.mono HBG.out.size))
                  have hn1 := heap_alloc_new (wr.alloc (.cells #[.int .u8 ((k : Int) % 3)] 5)) (.cells #[.int .u8 ((k : Int) * 7 % 11), .int .i64 ((k : Int) * (k : Int) % 5 - 1), .int .i64 ((k : Int) % 4 - 1), .slice (some ⟨wr.heap.size, 0, none⟩) 1 1] 45)
                  rw [World.size_alloc] at hn1
                  have HN1 := Lib.hid hn1
                  have hone : One ((wr.alloc (.cells #[.int .u8 ((k : Int) % 3)] 5)).alloc (.cells #[.int .u8 ((k : Int) * 7 % 11), .int .i64 ((k : Int) * (k : Int) % 5 - 1), .int .i64 ((k : Int) % 4 - 1), .slice (some ⟨wr.heap.size, 0, none⟩) 1 1] 45)) ⟨(k : Int) * 7 % 11, (k : Int) * (k : Int) % 5 - 1, (k : Int) % 4 - 1, some ⟨wr.heap.size, 0, none⟩, 1, 1, [(k : Int) % 3]⟩ :=
                    ⟨wr.heap.size, (k : Int) % 3, rfl, rfl, rfl, (Below.heap_alloc _ _ _ (by simp)).trans (heap_alloc_new wr _)⟩
                  have HONE := Lib.hid hone
                  clear bB hr hn1 hone
                  rw [hKl]
                  go_wp2_with (at_builtin; go_loud (refine wpList_append_lies _ rfl _ _ 40 rfl wG.heap.size 45 i0 _ 4 48 Try.underlying40 HI.out HZ0.out HZ1.out HZ2.out rfl (by decide) _ k (K.flatMap kcells) rfl HRR.out ⟨wr.heap.size + 1, 0, none⟩ 1 1 [.int .u8 ((k : Int) * 7 % 11), .int .i64 ((k : Int) * (k : Int) % 5 - 1), .int .i64 ((k : Int) % 4 - 1), .slice (some ⟨wr.heap.size, 0, none⟩) 1 1] rfl rfl (World.news_of_block HN1.out) (by simp [Value.oneCell']) (by omega) (by unfold maxLen; omega) (by omega) (by have := HBZ.out.size; omega) (wr.heap.size + 2) (by simp) ?_; intro g cap' w3 hown3 hgrow hat hlt3; have hown := Lib.hid hown3; have HGW := Lib.hid hgrow; clear hown3 hgrow hat hlt3))
                  have hm := HGZ.out.more (v' := .slice (some ⟨g, 0, none⟩) (k + 1) cap') (by rw [hKl]; exact HGW.out) (by rw [hKl]; exact hown.out) HONE.out (by simp; omega) (by simp; omega) (by simp; omega)
                  have hb3 := HBZ.out.grown HGW.out HBZ.out.size (fun r e => HGZ.out.ownge r (by rw [hKl]; exact e))
                  have FIN := Lib.hid (And.intro hm hb3)
                  clear hm hb3
                  go_roundw
                  case rel => exact ⟨k + 1, _, by omega, by simp [hKl], by go_num, FIN.out⟩
                  case measure => simp [intOf]; omega
                · obtain rfl : k = 110 := by omega
                  rw [show ((110 : Nat) : Int) = 110 from rfl]
                  obtain ⟨g, vc, rfl, hcl, hcm, hcalls⟩ := hG.calls (by omega)
                  have HN9 := Lib.hid (HN8.out.kept HBG.out)
                  have HB9 := Lib.hid (HBW.out.trans (HBG.out.mono HBW.out.size))
                  have HC := Lib.hid hcalls
                  clear hG hcalls HN8 HBW HI HZ0 HZ1 HZ2 hlt HBG HGR
                  rw [hKl] at hcl ⊢
                  generalize (fun i => K.getD i c0V) = C at *
                  have HCK := Lib.hid (show ∀ m, m ≤ 110 → CallRow wr (some ⟨g, 0, none⟩) m C from fun m hm => HC.out m (by omega))
                  clear HC hKl K
                  unfold maxLen at hcm
                  go_wp2_with fail
                  generalize wr = wL at *
                  go_loopw [12] (fun i wx => ∃ (j : Nat), j ≤ 22 ∧ i = .int .i64 ((j : Int) - 2) ∧ Below wL.heap.size wL wx)
                    (fun i _ => (20 - intOf i).toNat)
                  case atStart => exact ⟨0, by omega, rfl, Below.refl _ _⟩
                  case round =>
                    obtain ⟨j, hj, rfl, hBL⟩ := hrel
                    by_cases hlj : j < 22
                    · have j0 : (0 : Int) ≤ (j : Int) := by omega
                      have j1 : (j : Int) < 22 := by omega
                      have j2 : (j : Int) - 2 < 20 := by omega
                      have HBL := Lib.hid hBL
                      clear hBL
                      go_wp2_with fail
                      refine (tells_main wr _ _ _ vc C ((HCK.out _ (by omega)).kept HBL.out) (by omega)).mono ?_
                      rintro e w3 ⟨rfl, hb⟩
                      have HBL3 := Lib.hid (HBL.out.trans (hb.mono HBL.out.size))
                      clear hb HBL
                      go_wp2_with fail
                      refine (counts_main w3 3 _ 110 vc ((j : Int) - 2) C ((HCK.out _ (by omega)).kept HBL3.out) (by omega) (by omega) (by omega)).mono ?_
                      rintro e w4 ⟨rfl, hb⟩
                      have HBL4 := Lib.hid (HBL3.out.trans (hb.mono HBL3.out.size))
                      clear hb HBL3
                      go_wp2_with fail
                      refine (turns_any w4 _ _ (by omega) (by omega) (by omega) (by omega)).mono ?_
                      rintro e w5 ⟨rfl, hb⟩
                      have HBL5 := Lib.hid (HBL4.out.trans (hb.mono HBL4.out.size))
                      clear hb HBL4
                      go_wp2_with fail
                      refine (alone_any w5 _ _ _ _ _ (by omega) (by omega) (by omega) (by omega) (by omega) (by omega)).mono ?_
                      rintro e w6 ⟨rfl, hb⟩
                      have HBL6 := Lib.hid (HBL5.out.trans (hb.mono HBL5.out.size))
                      clear hb HBL5
                      go_wp2_with fail
                      go_roundw
                      case rel => exact ⟨j + 1, by omega, by go_num, HBL6.out⟩
                      case measure => simp [intOf]; omega
                    · obtain rfl : j = 22 := by omega
                      rw [show ((22 : Nat) : Int) - 2 = 20 from rfl]
                      have HNF := Lib.hid (HN9.out.kept hBL)
                      have HBW := Lib.hid (HB9.out.trans (hBL.mono HB9.out.size))
                      have HCR := Lib.hid ((HCK.out 5 (by omega)).kept hBL)
                      clear hBL HCK HN9 HB9 hlj
                      go_wp2_with fail
                      refine (n_way HNF.out).mono ?_
                      rintro e x1 ⟨v, qs, rfl, hown, hrows, hb⟩
                      obtain ⟨va, vb, rfl⟩ := told_slice hown hrows
                      have HX1 := Lib.hid (HBW.out.trans (hb.mono HBW.out.size))
                      have HC1 := Lib.hid (HCR.out.kept hb)
                      have hwl : way.length = 216 := by have := HL.out; omega
                      rw [hwl]
                      clear hown hrows hb HBW HCR HNF HL hwl
                      go_wp2_with fail
                      refine (n_new (-9223372036854775808) x1).mono ?_
                      rintro e x2 ⟨f2, rfl, hN, hb⟩
                      have e3 : clampE (-9223372036854775808) = 1 := rfl
                      rw [e3] at hN
                      have hends := n_ends hN
                      have HE2 := Lib.hid hends
                      have HX2 := Lib.hid (HX1.out.trans (hb.mono HX1.out.size))
                      have HC2 := Lib.hid (HC1.out.kept hb)
                      clear hN hb e3 hends HX1 HC1
                      go_wp2_with fail
                      refine HE2.out.mono ?_
                      rintro e _ ⟨rfl, rfl⟩
                      clear HE2
                      go_wp2_with fail
                      refine (n_new 65 x2).mono ?_
                      rintro e x3 ⟨f3, rfl, hN, hb⟩
                      have e3 : clampE 65 = 64 := rfl
                      rw [e3] at hN
                      have hends := n_ends hN
                      have HE3 := Lib.hid hends
                      have HX3 := Lib.hid (HX2.out.trans (hb.mono HX2.out.size))
                      have HC3 := Lib.hid (HC2.out.kept hb)
                      clear hN hb e3 hends HX2 HC2
                      go_wp2_with fail
                      refine HE3.out.mono ?_
                      rintro e _ ⟨rfl, rfl⟩
                      clear HE3
                      go_wp2_with fail
                      refine (tells_main x3 _ _ 5 vc C HC3.out (by omega)).mono ?_
                      rintro e x4 ⟨rfl, hb⟩
                      have HX4 := Lib.hid (HX3.out.trans (hb.mono HX3.out.size))
                      have HC4 := Lib.hid (HC3.out.kept hb)
                      clear hb HX3 HC3
                      go_wp2_with fail
                      refine (counts_main x4 _ _ 5 vc _ C HC4.out (by omega) (by omega) (by omega)).mono ?_
                      rintro e x5 ⟨rfl, hb⟩
                      have HX5 := Lib.hid (HX4.out.trans (hb.mono HX4.out.size))
                      clear hb HX4 HC4
                      go_wp2_with fail
                      refine (works_any x5).mono ?_
                      rintro e x6 ⟨rfl, hb⟩
                      have HX6 := Lib.hid (HX5.out.trans (hb.mono HX5.out.size))
                      clear hb HX5
                      go_wp2_with fail
                      go_ret
                      exact ⟨rfl, HX6.out⟩
end Go.Proofs.Ytambdhoeakddhaa
