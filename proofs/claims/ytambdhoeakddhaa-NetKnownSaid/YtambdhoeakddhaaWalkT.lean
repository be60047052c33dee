/- The walks over sent and works. -/
import Derived.Test.YtambdhoeakddhaaWalkS
import Derived.Lib.SlBytesConst
namespace Go.Proofs.Ytambdhoeakddhaa
open Go Go.RowKit Go.Conc
set_option linter.unusedVariables false

def sentM (i : Nat) : Msg := ⟨(i : Int) % 3, ((i : Int) / 3) % 3, [(i : Int), (i : Int) % 7]⟩
def sentL (k : Nat) : List Msg := (List.range k).map sentM
theorem sentL_next (k : Nat) : sentL (k + 1) = sentL k ++ [sentM k] := by simp [sentL, List.range_succ]
theorem sentL_len (k : Nat) : (sentL k).length = k := by simp [sentL]

theorem bat2 (w : World) (x y : Int) : BAt (w.alloc (.cells #[.int .u8 x, .int .u8 y] 5)) (some ⟨w.heap.size, 0, none⟩) 2 [x, y] := by
  have h := heap_alloc_new w (.cells #[.int .u8 x, .int .u8 y] 5)
  refine ⟨rfl, by omega, .inr ⟨_, rfl, fun i hi => ?_⟩⟩
  have ha : (⟨w.heap.size, 0, none⟩ : Addr).add i = ⟨w.heap.size, i, none⟩ := by unfold Addr.add; split <;> simp_all
  rw [ha, cell_of_row _ _ _ _ 5 (0, 0) h]
  rcases i with _ | _ | i
  · rfl
  · rfl
  · omega
theorem bat1 (w : World) (x : Int) (fr : Nat × Nat) : BAt (w.alloc (.cells #[.int .u8 x] 5 fr)) (some ⟨w.heap.size, 0, none⟩) 1 [x] := by
  have h := heap_alloc_new w (.cells #[.int .u8 x] 5 fr)
  refine ⟨rfl, by omega, .inr ⟨_, rfl, fun i hi => ?_⟩⟩
  have ha : (⟨w.heap.size, 0, none⟩ : Addr).add i = ⟨w.heap.size, i, none⟩ := by unfold Addr.add; split <;> simp_all
  rw [ha, cell_of_row _ _ _ _ 5 fr h]
  rcases i with _ | i
  · rfl
  · omega

set_option maxRecDepth 8000 in
set_option maxHeartbeats 4000000 in
theorem sent_any (w : World) (K : Nat) (hK : K ≤ 100) :
    Calls Try.prog 8 #[.int .i64 K] w fun e w' => ∃ b, e = .returned (.pointer (some ⟨b, 0, none⟩)) ∧ Net w' w.heap.size b 3 (sentL K) (fun _ => []) ∧ Below w.heap.size w w' := by
  go_enter Try.func8, Try.ntmps8
  go_wp2_with fail
  refine (n_new 3 w).mono ?_
  rintro e w1 ⟨b, rfl, hN, hB⟩
  have e3 : clampE 3 = 3 := rfl
  rw [e3] at hN
  have HN := Lib.hid hN
  have HB := Lib.hid hB
  clear hN hB e3
  go_wp2_with fail
  go_loopw [4] (fun i wr => ∃ (k : Nat), k ≤ K ∧ i = .int .i64 k ∧ Net wr w.heap.size b 3 (sentL k) (fun _ => []) ∧ Below w.heap.size w wr)
    (fun i _ => K - (intOf i).toNat)
  case atStart => exact ⟨0, by omega, rfl, HN.out, HB.out⟩
  case round =>
    obtain ⟨k, hk, rfl, hN, hBw⟩ := hrel
    by_cases hlt : k < K
    · have k0 : (0 : Int) ≤ (k : Int) := by omega
      have k1 : (k : Int) < (K : Int) := by omega
      have k2 : (k : Int) < 100 := by omega
      have HN2 := Lib.hid hN
      have HBW := Lib.hid hBw
      clear hN hBw HN HB
      go_wp2_with fail
      have bA : Below wr.heap.size wr (wr.alloc (.cells #[.int .u8 k, .int .u8 ((k : Int) % 7)] 5)) := (Below.refl _ _).alloc (Nat.le_refl _) _
      have hs := n_send (HN2.out.kept bA) ((k : Int) % 3) ((k : Int) / 3 % 3) (some ⟨wr.heap.size, 0, none⟩) 2 2 _ (bat2 wr k ((k : Int) % 7))
      have he : sendE 3 (sentL k).length ((k : Int) % 3) ((k : Int) / 3 % 3) = 0 := by
        unfold sendE; rw [sentL_len, if_neg (by omega), if_pos (by omega)]
      have hw : sendW 3 (sentL k) ((k : Int) % 3) ((k : Int) / 3 % 3) [(k : Int), (k : Int) % 7] = sentL (k + 1) := by
        unfold sendW; rw [he, if_pos rfl, sentL_next]; rfl
      rw [he, hw] at hs
      refine hs.mono ?_
      rintro e w2 ⟨rfl, hN3, hM3⟩
      have hB3 : Below w.heap.size w w2 := (HBW.out.trans (bA.mono HBW.out.size)).trans hM3.bel
      have FIN := Lib.hid (And.intro hN3 hB3)
      clear hs he hw hN3 hM3 hB3 bA
      go_wp2_with fail
      go_roundw
      case rel => exact ⟨k + 1, by omega, by go_num, FIN.out⟩
      case measure => simp [intOf]; omega
    · obtain rfl : k = K := by omega
      have HN2 := Lib.hid hN
      have HBW := Lib.hid hBw
      clear hN hBw HN HB
      go_wp2_with fail
      go_ret
      exact ⟨_, rfl, HN2.out, HBW.out⟩

set_option maxRecDepth 8000 in
set_option maxHeartbeats 4000000 in
theorem works_any (w : World) : Calls Try.prog 15 #[] w fun e w' => e = .returned (.bool true) ∧ Below w.heap.size w w' := by
  have kc := fun (w : World) (C : Array Value) (n c : Nat) => Lib.run_convert_bytes_const (P := Try.prog) w 31 5 C n c Try.underlying31 Try.underlying5
  go_enter Try.func15, Try.ntmps15
  go_wp2_with fail
  refine (n_new 2 w).mono ?_
  rintro e w1 ⟨b, rfl, hN, hB⟩
  have e3 : clampE 2 = 2 := rfl
  rw [e3] at hN
  have HN := Lib.hid hN
  have HB := Lib.hid hB
  clear hN hB e3
  go_wp2_with fail
  have bA : Below w1.heap.size w1 (w1.alloc (.cells #[.int .u8 97] 5 (1, 2))) := (Below.refl _ _).alloc (Nat.le_refl _) _
  refine (n_send (HN.out.kept bA) 0 1 (some ⟨w1.heap.size, 0, none⟩) 1 1 _ (bat1 w1 97 (1, 2))).mono ?_
  rintro e w2 ⟨rfl, hN, hM⟩
  have HN2 : Hid (Net w2 w.heap.size b 2 [⟨0, 1, [97]⟩] (fun _ => [])) := Lib.hid hN
  have HB2 := Lib.hid ((HB.out.trans (bA.mono HB.out.size)).trans hM.bel)
  clear hN hM HN HB bA
  have ee : sendE 2 ([] : List Msg).length 0 1 = 0 := rfl
  rw [ee]
  clear ee
  go_wp2_with fail
  have bA : Below w2.heap.size w2 (w2.alloc (.cells #[.int .u8 98] 5 (1, 2))) := (Below.refl _ _).alloc (Nat.le_refl _) _
  refine (n_send (HN2.out.kept bA) 0 1 (some ⟨w2.heap.size, 0, none⟩) 1 1 _ (bat1 w2 98 (1, 2))).mono ?_
  rintro e w3 ⟨rfl, hN, hM⟩
  have HN3 : Hid (Net w3 w.heap.size b 2 ([⟨0, 1, [97]⟩] ++ ⟨0, 1, [98]⟩ :: []) (fun _ => [])) := Lib.hid hN
  have HB3 := Lib.hid ((HB2.out.trans (bA.mono HB2.out.size)).trans hM.bel)
  clear hN hM HN2 HB2 bA
  have ee : sendE 2 ([⟨0, 1, [97]⟩] : List Msg).length 0 1 = 0 := rfl
  rw [ee]
  clear ee
  go_wp2_with fail
  refine (n_deliver HN3.out).mono ?_
  rintro e w4 ⟨rfl, hN, hM⟩
  have HN4 : Hid (Net w4 w.heap.size b 2 [⟨0, 1, [97]⟩] (dlv 2 (fun _ => []) ⟨0, 1, [98]⟩)) := Lib.hid hN
  have HB4 := Lib.hid (HB3.out.trans hM.bel)
  clear hN hM HN3 HB3
  go_wp2_with fail
  refine (n_receive_one HN4.out 1 ⟨0, 1, [98]⟩ [] rfl).mono ?_
  rintro e w5 ⟨p, rfl, hp, hN, hM⟩
  have h0 := hp.src
  have h1 := hp.dst
  have HP := Lib.hid hp
  have HN5 := Lib.hid hN
  have HB5 := Lib.hid (HB4.out.trans hM.bel)
  have bA : Below w5.heap.size w5 (w5.alloc (.cells #[.int .i64 0, .int .i64 1, .slice p.a p.len p.cap] 33)) := (Below.refl _ _).alloc (Nat.le_refl _) _
  have hconv := conv_own (hp.own.same (fun g cur hg => bA.block g (block_lt hg)))
  have hst : strOfNums [98] = ⟨#[98]⟩ := rfl
  rw [hst] at hconv
  have HR := Hid.out (Lib.hid (row_any (hN.kept bA)))
  have hrs : rowStr [⟨0, 1, [97]⟩] = ⟨#[97, 59]⟩ := rfl
  rw [hrs] at HR
  have HRR := Lib.hid HR
  have HBA := Lib.hid bA
  clear hN hM HN4 HB4 hp HR hst hrs bA
  unfold pagg
  go_wp2_with fail
  refine HRR.out.mono ?_
  rintro e w6 ⟨rfl, hB6⟩
  clear hconv
  go_wp2_with fail
  go_ret
  exact ⟨rfl, HB5.out.trans ((HBA.out.mono HB5.out.size).trans (hB6.mono (Nat.le_trans HB5.out.size HBA.out.size)))⟩
end Go.Proofs.Ytambdhoeakddhaa
