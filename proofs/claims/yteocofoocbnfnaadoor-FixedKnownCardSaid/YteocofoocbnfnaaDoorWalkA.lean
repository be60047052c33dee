/- The walk over the reference's digits. -/
import Derived.Test.YteocofoocbnfnaaDoorShelf
import Derived.Test.YteocofoocbnfnaaDoorRows
import Derived.WalkKit
import Derived.WalkSmall
import Derived.Handy
import Derived.Laws.BytesArg
import Derived.Lib.Hide
import Derived.Lib.ItoaLen
import Derived.Maps.AppendAt
namespace Go.Proofs.YteocofoocbnfnaaDoor
open Go Go.RowKit
set_option linter.unusedVariables false

theorem ba_append (a b : List UInt8) : (ByteArray.mk a.toArray) ++ (ByteArray.mk b.toArray) = ByteArray.mk (a ++ b).toArray := by
  apply ByteArray.ext; simp

/-- The sign of a digit. -/
def dg8 (d : Nat) : UInt8 := UInt8.ofNat (48 + d)

theorem strOf_one (d : Nat) : strOfNums [48 + (d : Int)] = ⟨[dg8 d].toArray⟩ := by
  unfold strOfNums dg8
  have : (48 + (d : Int)).toNat = 48 + d := by omega
  simp [this]

theorem conv_one (w : World) (x : Int) : (convert 40 9 (.slice (some ⟨w.heap.size, 0, none⟩) 1 1)).run Tryd.prog (w.alloc (.cells #[.int .u8 x] 5)) = .ok (.string (strOfNums [x])) (w.alloc (.cells #[.int .u8 x] 5)) :=
  run_convert_bytes_arg _ 40 5 Tryd.underlying40 Tryd.underlying5 w.heap.size 0 1 1 [x] rfl (fun i hi => by
    obtain rfl : i = 0 := by omega
    have := cell_one_new w (.int .u8 x) 5 0 (.int .u8 x) rfl
    exact this) 9 Tryd.underlying9

theorem decDigits_ge {u : Nat} (h : 9 < u) : Lib.decDigits u = Lib.decDigits (u / 10) ++ [dg8 (u % 10)] := by
  rw [Lib.decDigits, dif_neg (by omega)]; rfl

set_option maxHeartbeats 2000000 in
theorem digits_any (n : Nat) (hn : n ≤ 9223372036854775807) (w : World) :
    Calls Tryd.prog 24 #[.int .i64 n] w fun e w' => e = .returned (.string ⟨(Lib.decDigits n).toArray⟩) ∧ Below w.heap.size w w' := by
  go_enter Tryd.func24, Tryd.ntmps24
  go_wp2
  go_loopw [0, 3] (fun v s wr => ∃ (k : Nat) (l : List UInt8), k ≤ n ∧ v = .int .i64 k ∧ s = .string ⟨l.toArray⟩ ∧ Lib.decDigits k ++ l = Lib.decDigits n ∧ Below w.heap.size w wr) (fun v _ _ => (RowKit.intOf v).toNat)
  case atStart => exact ⟨n, [], by omega, rfl, rfl, by simp, Below.refl _ _⟩
  case round =>
    obtain ⟨k, l, hk, rfl, rfl, hd, hb⟩ := hrel
    have hll : l.length ≤ 20 := by
      have h1 := congrArg List.length hd
      rw [List.length_append, Lib.decDigits_length n] at h1
      have := Lib.nDigits_le20 n (by omega)
      omega
    have HD := Lib.hid hd
    clear hd
    by_cases hk9 : 9 < k
    · have hc := conv_one wr (48 + (k : Int) % 10)
      rw [show strOfNums [48 + (k : Int) % 10] = ⟨[dg8 (k % 10)].toArray⟩ from by
        rw [show (k : Int) % 10 = ((k % 10 : Nat) : Int) from by omega]; exact strOf_one _] at hc
      have hnew : Lib.decDigits (k / 10) ++ ([dg8 (k % 10)] ++ l) = Lib.decDigits n := by
        rw [← HD.out, decDigits_ge hk9, List.append_assoc]
      have HN := Lib.hid hnew
      clear hnew
      go_wp2
      go_roundw
      case rel => exact ⟨k / 10, [dg8 (k % 10)] ++ l, by omega, by go_num, by rw [ba_append], HN.out, hb.alloc hb.size _⟩
      case measure => simp [RowKit.intOf]; omega
    · have hc := conv_one wr (48 + (k : Int))
      rw [strOf_one] at hc
      have hnew : [dg8 k] ++ l = Lib.decDigits n := by
        rw [← HD.out, Lib.decDigits_one (by omega)]; rfl
      have HN := Lib.hid hnew
      clear hnew
      go_wp2
      go_ret
      exact ⟨by rw [ba_append, HN.out]; rfl, hb.alloc hb.size _⟩
end Go.Proofs.YteocofoocbnfnaaDoor
