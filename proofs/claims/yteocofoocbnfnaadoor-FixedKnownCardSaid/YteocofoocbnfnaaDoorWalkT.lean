/- The walks over the two texts. -/
import Derived.Test.YteocofoocbnfnaaDoorWalkA
import Derived.Deep.QuietTactic
import Derived.BigQuiet
import Derived.Laws.Bits64b
import Derived.Test.YteocofoocbnfnaaDoorQuiet
namespace Go.Proofs.YteocofoocbnfnaaDoor
open Go Go.RowKit
set_option linter.unusedVariables false

/-- The k signs behind the point. -/
def tailL : Nat → Nat → List UInt8
  | 0, _ => []
  | k + 1, r => dg8 (r * 10 / 4294967296) :: tailL k (r * 10 % 4294967296)
theorem tailL_len (k r : Nat) : (tailL k r).length = k := by
  induction k generalizing r with
  | zero => rfl
  | succ k ih => simp [tailL, ih]
/-- A fixed number's text. -/
def textL (a : Nat) : List UInt8 := Lib.decDigits (a / 4294967296) ++ ([46] ++ tailL 9 (a % 4294967296))
theorem textL_len (a : Nat) (h : a ≤ 9223372036854775807) : (textL a).length ≤ 30 := by
  have := Lib.nDigits_le20 (a / 4294967296) (by omega)
  unfold textL
  simp only [List.length_append, Lib.decDigits_length, tailL_len, List.length_cons, List.length_nil]
  omega

theorem str_dot : (ByteArray.mk #[46]) = ByteArray.mk [(46 : UInt8)].toArray := rfl

set_option maxHeartbeats 2000000 in
theorem reftext_any (a : Nat) (ha : a ≤ 9223372036854775807) (w : World) :
    Calls Tryd.prog 19 #[.int .i64 a] w fun e w' => e = .returned (.string ⟨(textL a).toArray⟩) ∧ Below w.heap.size w w' := by
  have h0 : a / 4294967296 ≤ 9223372036854775807 := by omega
  have HL := Lib.hid (textL_len a ha)
  have hdl : (Lib.decDigits (a / 4294967296)).length ≤ 20 := by rw [Lib.decDigits_length]; exact Lib.nDigits_le20 _ (by omega)
  go_enter Tryd.func19, Tryd.ntmps19
  go_wp2_with (go_at_call 24; refine (digits_any (a / 4294967296) h0 w).mono ?_; rintro e w1 ⟨rfl, hb1⟩)
  rw [str_dot, ba_append]
  go_loopw [3, 4, 5] (fun s r j wr => ∃ (i r' : Nat) (l : List UInt8), i ≤ 9 ∧ j = .int .i64 i ∧ r = .int .i64 r' ∧ r' < 4294967296 ∧ s = .string ⟨l.toArray⟩ ∧ l ++ tailL (9 - i) r' = textL a ∧ Below w.heap.size w wr)
    (fun _ _ j _ => 9 - (RowKit.intOf j).toNat)
  case atStart => exact ⟨0, a % 4294967296, _, by omega, rfl, by go_num, by omega, rfl, by unfold textL; rw [List.append_assoc], hb1⟩
  case round =>
    clear hb1 hdl
    obtain ⟨i, r, l, hi, rfl, rfl, hr, rfl, hl, hb⟩ := hrel
    have hll : l.length ≤ 30 := by
      have h1 := congrArg List.length hl
      have := HL.out
      rw [List.length_append] at h1
      omega
    have HT := Lib.hid hl
    clear hl
    by_cases hi9 : i < 9
    · have hd9 : r * 10 / 4294967296 < 10 := by omega
      have hone : Lib.decDigits (r * 10 / 4294967296) = [dg8 (r * 10 / 4294967296)] := by rw [Lib.decDigits_one hd9]; rfl
      have hnew : (l ++ [dg8 (r * 10 / 4294967296)]) ++ tailL (9 - (i + 1)) (r * 10 % 4294967296) = textL a := by
        rw [← HT.out, show 9 - i = (9 - (i + 1)) + 1 from by omega, tailL]; simp
      have HN := Lib.hid hnew
      have hdig := digits_any (r * 10 / 4294967296) (by omega) wr
      rw [hone] at hdig
      have HO := Lib.hid hdig
      clear hnew hone hdig
      go_wp2_with (go_at_call 24; refine HO.out.mono ?_; rintro e w1 ⟨rfl, hb1⟩)
      go_roundw
      case rel => exact ⟨i + 1, r * 10 % 4294967296, l ++ [dg8 (r * 10 / 4294967296)], by omega, by go_num, by go_num, by omega, by rw [ba_append], HN.out, hb.trans (hb1.mono hb.size)⟩
      case measure => simp [RowKit.intOf]; omega
    · obtain rfl : i = 9 := by omega
      have e : l = textL a := by rw [← HT.out]; simp [tailL]
      go_wp2
      go_ret
      exact ⟨by rw [← e]; rfl, hb⟩

theorem reftext_neg (a : Int) (ha : a < 0) (w : World) : Calls Tryd.prog 19 #[.int .i64 a] w fun e w' => e = .returned (.string ⟨#[]⟩) ∧ Below w.heap.size w w' := by
  go_enter Tryd.func19, Tryd.ntmps19
  go_wp2
  go_ret
  exact ⟨rfl, Below.refl _ _⟩
theorem text_neg (a : Int) (ha : a < 0) (w : World) : Calls Tryd.prog 18 #[.int .i64 a] w fun e w' => e = .returned (.string ⟨#[]⟩) ∧ Below w.heap.size w w' := by
  go_enter Tryd.func18, Tryd.ntmps18
  go_wp2
  go_ret
  exact ⟨rfl, Below.refl _ _⟩
/-- The block of the nine signs. -/
def URow (w : World) (b : Nat) (ms : List Int) : Prop := w.heap[b]? = some (.cells (ms.map (Value.int .u8)).toArray 38 (0, 0))
theorem URow.lt {w : World} {b : Nat} {ms : List Int} (h : URow w b ms) : b < w.heap.size := by
  rcases Nat.lt_or_ge b w.heap.size with g | g
  · exact g
  · unfold URow at h; rw [Array.getElem?_eq_none g] at h; simp at h
theorem URow.cell {w : World} {b : Nat} {ms : List Int} (h : URow w b ms) (t : Nat) (ht : t < ms.length) : w.cell? ⟨b, t, none⟩ = some (.int .u8 (ms.getD t 0)) := by
  rw [cell_of_row w b t _ 38 (0, 0) h]
  simp [ht]
theorem URow.frozen {w : World} {b : Nat} {ms : List Int} (h : URow w b ms) (t : Nat) : w.frozen? ⟨b, t, none⟩ = false := frozen_of_row w b t _ 38 h
theorem URow.set {w : World} {b : Nat} {ms : List Int} (h : URow w b ms) (t : Nat) (x : Int) : URow (w.setCell ⟨b, t, none⟩ (.int .u8 x)) b (ms.set t x) := by
  unfold URow
  rw [heap_setCell_same w b t _ 38 _ h]
  simp [List.map_set]
theorem URow.of_below {w w' : World} {b B : Nat} {ms : List Int} (h : URow w b ms) (hb : Below B w w') (hlt : b < B) : URow w' b ms := by
  unfold URow; rw [hb.block b hlt]; exact h

theorem World.heap_alloc' (w : World) (o : Obj) : (w.alloc o).heap = w.heap.push o := rfl
def u8s (ms : List Int) : List UInt8 := ms.map fun n => UInt8.ofNat n.toNat
theorem take_set_succ (ms : List Int) (i : Nat) (hi : i < ms.length) (x : Int) : (ms.set i x).take (i + 1) = ms.take i ++ [x] := by
  rw [List.take_succ_eq_append_getElem (by simpa using hi)]
  simp [List.take_set_of_le]
theorem and_mask (a : Nat) (h : a < 18446744073709551616) : bits .and .u64 (a : Int) 4294967295 = ((a % 4294967296 : Nat) : Int) := by
  have := bits_and_u64_nat a 4294967295 h (by omega)
  rw [show ((4294967295 : Nat) : Int) = 4294967295 from rfl] at this
  rw [this, show (4294967295 : Nat) = 2 ^ 32 - 1 from rfl, Nat.and_two_pow_sub_one_eq_mod]

set_option maxHeartbeats 2000000 in
theorem text_pos (a : Nat) (ha : a ≤ 9223372036854775807) (w : World)
    (hf : ∀ w2, Below w.heap.size w w2 → Calls Tryd.prog 23 #[.int .i64 (a / 4294967296 : Nat), .int .i64 10] w2 fun e w' => e = .returned (.string ⟨(Lib.decDigits (a / 4294967296)).toArray⟩) ∧ Below w2.heap.size w2 w') :
    Calls Tryd.prog 18 #[.int .i64 a] w fun e w' => e = .returned (.string ⟨(textL a).toArray⟩) ∧ Below w.heap.size w w' := by
  have hmask := and_mask a (by omega)
  have HF := Lib.hid hf
  clear hf
  go_enter Tryd.func18, Tryd.ntmps18
  go_wp2
  have hU : URow (w.alloc (.cells #[.int .u8 0, .int .u8 0, .int .u8 0, .int .u8 0, .int .u8 0, .int .u8 0, .int .u8 0, .int .u8 0, .int .u8 0] 38)) w.heap.size [0, 0, 0, 0, 0, 0, 0, 0, 0] := by
    unfold URow; rw [World.heap_alloc']; simp
  have hB : Below w.heap.size w (w.alloc (.cells #[.int .u8 0, .int .u8 0, .int .u8 0, .int .u8 0, .int .u8 0, .int .u8 0, .int .u8 0, .int .u8 0, .int .u8 0] 38)) := (Below.refl _ _).alloc (Nat.le_refl _) _
  go_loopw [4, 11] (fun v j wr => ∃ (i r : Nat) (ms : List Int), i ≤ 9 ∧ j = .int .i64 i ∧ v = .int .u64 r ∧ r < 4294967296 ∧ ms.length = 9 ∧ URow wr w.heap.size ms ∧ u8s (ms.take i) ++ tailL (9 - i) r = tailL 9 (a % 4294967296) ∧ Below w.heap.size w wr)
    (fun _ j _ => 9 - (RowKit.intOf j).toNat)
  case atStart => exact ⟨0, a % 4294967296, _, by omega, rfl, by go_num, by omega, rfl, hU, by simp [u8s], hB⟩
  case round =>
    clear hU hB hmask
    obtain ⟨i, r, ms, hi, rfl, rfl, hr, hl, hU, ht, hb⟩ := hrel
    have HT := Lib.hid ht
    clear ht
    by_cases hi9 : i < 9
    · have hc := hU.cell i (by omega)
      have hfz := hU.frozen i
      have hm2 : bits .and .u64 ((r : Int) * 10) 4294967295 = ((r * 10 % 4294967296 : Nat) : Int) := by
        have := and_mask (r * 10) (by omega)
        rwa [show ((r * 10 : Nat) : Int) = (r : Int) * 10 from by omega] at this
      have hd9 : r * 10 / 4294967296 < 10 := by omega
      have hU' := hU.set i (48 + ((r * 10 / 4294967296 : Nat) : Int))
      have hnew : u8s ((ms.set i (48 + ((r * 10 / 4294967296 : Nat) : Int))).take (i + 1)) ++ tailL (9 - (i + 1)) (r * 10 % 4294967296) = tailL 9 (a % 4294967296) := by
        rw [← HT.out, take_set_succ _ _ (by omega), show 9 - i = (9 - (i + 1)) + 1 from by omega, tailL]
        have e : UInt8.ofNat (48 + ((r * 10 / 4294967296 : Nat) : Int)).toNat = dg8 (r * 10 / 4294967296) := by
          unfold dg8; congr 1
        unfold u8s; rw [List.map_append, List.append_assoc, List.map_cons, e]; rfl
      have HN := Lib.hid hnew
      clear hnew
      generalize ms.getD i 0 = y at *
      have i0 : (0 : Int) ≤ (i : Int) := by omega
      have i1 : (i : Int) < 9 := by omega
      go_wp2
      go_roundw
      case rel => exact ⟨i + 1, r * 10 % 4294967296, _, by omega, by go_num, by go_num, by omega, by simpa using hl, hU', HN.out, hb.setCell (Nat.le_refl _) _⟩
      case measure => simp [RowKit.intOf]; omega
    · obtain rfl : i = 9 := by omega
      have e : u8s ms = tailL 9 (a % 4294967296) := by rw [← HT.out, List.take_of_length_le (by omega)]; simp [tailL]
      have hconv : ∀ u : Since wr.heap.size wr, (convert 40 9 (.slice (some ⟨w.heap.size, 0, none⟩) 9 9)).run Tryd.prog u.val = .ok (.string ⟨(tailL 9 (a % 4294967296)).toArray⟩) u.val := fun u => by
        have hU2 := hU.of_below u.ok hU.lt
        have := run_convert_bytes_arg (P := Tryd.prog) u.val 40 5 Tryd.underlying40 Tryd.underlying5 w.heap.size 0 9 9 ms hl (fun i hi => by rw [Nat.zero_add]; exact hU2.cell i (by omega)) 9 Tryd.underlying9
        rw [this, ← e]; rfl
      have hdl : (Lib.decDigits (a / 4294967296)).length ≤ 20 := by rw [Lib.decDigits_length]; exact Lib.nDigits_le20 _ (by omega)
      have htl : (tailL 9 (a % 4294967296)).length = 9 := tailL_len _ _
      have hFu : ∀ u : Since wr.heap.size wr, Calls Tryd.prog 23 #[.int .i64 (a / 4294967296 : Nat), .int .i64 10] u.val fun e w' => e = .returned (.string ⟨(Lib.decDigits (a / 4294967296)).toArray⟩) ∧ Below u.val.heap.size u.val w' :=
        fun u => HF.out _ (hb.trans (u.ok.mono hb.size))
      have HFU := Lib.hid hFu
      have HX := Lib.hid (show textL a = Lib.decDigits (a / 4294967296) ++ ([46] ++ tailL 9 (a % 4294967296)) from rfl)
      clear hFu HF HT e hU
      generalize tailL 9 (a % 4294967296) = T at *
      generalize Lib.decDigits (a / 4294967296) = D at *
      go_wp2
      refine wp_region_since wr.heap.size (by kernel_rfl) (by kernel_rfl) ?_
      repeat (go_big_quiet_step ((first | (go_at_call 23; exact Calls.since (Nat.le_refl _) (HFU.out _)))))
      refine wpQuiet_nil ?_
      rintro _ ⟨u, rfl⟩
      obtain ⟨w3, B3⟩ := u
      go_wp2
      go_ret
      exact ⟨by rw [HX.out]; simp [ba_append], hb.trans (B3.mono hb.size)⟩
end Go.Proofs.YteocofoocbnfnaaDoor
