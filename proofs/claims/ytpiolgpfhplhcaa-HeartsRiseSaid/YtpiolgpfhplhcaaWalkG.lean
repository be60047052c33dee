/- The walks over the reference's watch. -/
import Derived.Test.YtpiolgpfhplhcaaWalkF
namespace Go.Proofs.Ytpiolgpfhplhcaa
open Go Go.RowKit
set_option linter.unusedVariables false

/-- The reference's watch lies in block b, its row in block s. -/
structure RefAt (w : World) (b s : Nat) (lim now : Int) (ls : List Int) : Prop where
  head : w.heap[b]? = some (.cells #[.int .i64 lim, .int .i64 now, .slice (some ⟨s, 0, none⟩) ls.length ls.length] 35 (0, 0))
  row : IRow w s 3 ls
  len1 : 1 ≤ ls.length
  len2 : ls.length ≤ 64

section
variable {w : World} {b s : Nat} {lim now : Int} {ls : List Int}
theorem RefAt.c0 (h : RefAt w b s lim now ls) : w.cell? ⟨b, 0, none⟩ = some (.int .i64 lim) := by
  rw [cell_of_row w b 0 _ 35 (0, 0) h.head]; rfl
theorem RefAt.c1 (h : RefAt w b s lim now ls) : w.cell? ⟨b, 1, none⟩ = some (.int .i64 now) := by
  rw [cell_of_row w b 1 _ 35 (0, 0) h.head]; rfl
theorem RefAt.c2 (h : RefAt w b s lim now ls) : w.cell? ⟨b, 2, none⟩ = some (.slice (some ⟨s, 0, none⟩) ls.length ls.length) := by
  rw [cell_of_row w b 2 _ 35 (0, 0) h.head]; rfl
theorem RefAt.f1 (h : RefAt w b s lim now ls) : w.frozen? ⟨b, 1, none⟩ = false := frozen_of_row w b 1 _ 35 h.head
theorem RefAt.ne (h : RefAt w b s lim now ls) : b ≠ s := by
  intro e; have h1 := h.head; have h2 := h.row; unfold IRow at h2; rw [e, h2] at h1; simp at h1
theorem RefAt.ltb (h : RefAt w b s lim now ls) : b < w.heap.size := (Array.getElem?_eq_some_iff.1 h.head).1
theorem RefAt.set (h : RefAt w b s lim now ls) (i : Nat) (x : Int) : RefAt (w.setCell ⟨s, i, none⟩ (.int .i64 x)) b s lim now (ls.set i x) := by
  refine ⟨?_, h.row.set i x, by simpa using h.len1, by simpa using h.len2⟩
  rw [Below.heap_setCell _ _ _ _ h.ne, List.length_set]
  exact h.head
theorem RefAt.tick (h : RefAt w b s lim now ls) (x : Int) : RefAt (w.setCell ⟨b, 1, none⟩ (.int .i64 x)) b s lim x ls := by
  refine ⟨?_, ?_, h.len1, h.len2⟩
  · rw [heap_setCell_same w b 1 _ 35 _ h.head]; rfl
  · unfold IRow; rw [Below.heap_setCell _ _ _ _ h.ne.symm]; exact h.row
theorem RefAt.drew (h : RefAt w b s lim now ls) : RefAt w.drew b s lim now ls := ⟨h.head, h.row, h.len1, h.len2⟩
theorem RefAt.kept {w' : World} (h : RefAt w b s lim now ls) (hb : Below w.heap.size w w') : RefAt w' b s lim now ls :=
  ⟨(hb.block b h.ltb).trans h.head, h.row.of_below hb h.row.lt, h.len1, h.len2⟩
theorem RefAt.other {w' : World} {t : Nat} (h : RefAt w b s lim now ls) (ho : Only t w w') (h1 : b ≠ t) (h2 : s ≠ t) : RefAt w' b s lim now ls :=
  ⟨(ho.block b h.ltb (by simpa using h1)).trans h.head, by have := h.row; unfold IRow at *; rw [ho.block s h.row.lt (by simpa using h2)]; exact this, h.len1, h.len2⟩
end

theorem within_lim (n : Int) (w : World) : Calls Try.prog 21 #[.int .i64 n, .int .i64 1, .int .i64 1073741824] w fun e w' => e = .returned (.int .i64 (limF n)) ∧ w = w' := by
  by_cases h : n ≤ 1
  · rw [limF_lo h]
    go_enter Try.func21, Try.ntmps21
    go_wp2
    go_ret
    exact ⟨rfl, rfl⟩
  · by_cases h2 : 1073741824 ≤ n
    · rw [limF_hi h2]
      go_enter Try.func21, Try.ntmps21
      go_wp2
      go_ret
      exact ⟨rfl, rfl⟩
    · have h : 1 < n := by omega
      have h2 : n < 1073741824 := by omega
      rw [limF_mid h h2]
      go_enter Try.func21, Try.ntmps21
      go_wp2
      go_ret
      exact ⟨rfl, rfl⟩
theorem within_mem (n : Int) (w : World) : Calls Try.prog 21 #[.int .i64 n, .int .i64 1, .int .i64 64] w fun e w' => e = .returned (.int .i64 (memF n : Nat)) ∧ w = w' := by
  by_cases h : n ≤ 1
  · rw [memF_lo h]
    go_enter Try.func21, Try.ntmps21
    go_wp2
    go_ret
    exact ⟨rfl, rfl⟩
  · by_cases h2 : 64 ≤ n
    · rw [memF_hi h2]
      go_enter Try.func21, Try.ntmps21
      go_wp2
      go_ret
      exact ⟨rfl, rfl⟩
    · obtain ⟨k, rfl⟩ := Int.eq_ofNat_of_zero_le (show 0 ≤ n by omega)
      have h : 1 < k := by omega
      have h2 : k < 64 := by omega
      rw [memF_mid h h2]
      go_enter Try.func21, Try.ntmps21
      go_wp2
      go_ret
      exact ⟨rfl, rfl⟩

/-- What the reference's New returns. -/
def RefNewPost (m l : Int) (w : World) (e : Ending) (w' : World) : Prop :=
  ∃ b s, e = .returned (.pointer (some ⟨b, 0, none⟩)) ∧ RefAt w' b s (limF l) 0 (List.replicate (memF m) 0) ∧ w.heap.size ≤ b ∧ w.heap.size ≤ s ∧ Below w.heap.size w w'

theorem refNewPost_mk (m l : Int) (w w1 : World) (hown : w1.ownsRow w.heap.size 3 1 (.slice (some ⟨w.heap.size, 0, none⟩) (memF m) (memF m)) (memF m) (madeCells (Value.int .i64 0).cells (memF m * 1)).toList) (hg : w.grownBy w1 none) :
    RefNewPost m l w (.returned (.pointer (some ⟨w1.heap.size, 0, none⟩))) (w1.alloc (.cells #[.int .i64 (limF l), .int .i64 0, .slice (some ⟨w.heap.size, 0, none⟩) (memF m) (memF m)] 35)) := by
  have hm := memF_bd m
  have hr0 : IRow w1 w.heap.size 3 (List.replicate (memF m) 0) := by
    refine IRow.of_owns (base := w.heap.size) (n := memF m) ?_
    rw [show Value.cells (.int .i64 0) = #[.int .i64 0] from rfl, toList_madeCells_one, Nat.mul_one] at hown
    simpa using hown
  refine ⟨_, _, rfl, ⟨by simpa using heap_alloc_new w1 _, hr0.alloc _, by simpa using hm.1, by simpa using hm.2⟩, hg.size, Nat.le_refl _, ?_⟩
  exact ((Below.refl _ _).grown hg (Nat.le_refl _) (fun k h => by cases h)).alloc hg.size _

theorem refnew_any (m l : Int) (w : World) : Calls Try.prog 10 #[.int .i64 m, .int .i64 l] w (RefNewPost m l w) := by
  obtain ⟨i0, hi, hz0, hz1, hz2⟩ := info_parts Try.info3
  have hm := memF_bd m
  go_enter Try.func10, Try.ntmps10
  go_wp2_with fail
  refine (within_lim _ _).mono ?_
  rintro e w' ⟨rfl, rfl⟩
  go_wp2_with fail
  refine (within_mem _ _).mono ?_
  rintro e w' ⟨rfl, rfl⟩
  go_wp2_with (refine wpList_make_full _ rfl _ _ 33 rfl w.heap.size 3 i0 (.int .i64 0) 1 Try.underlying33 hi hz0 hz1 .i64 .i64 _ _ (memF m) rfl rfl rfl rfl (by rw [hz2]; omega) (by unfold maxLen; omega) (Nat.le_refl _) ?_; intro w1 hown hgrow)
  go_ret
  exact refNewPost_mk m l w w1 hown hgrow

/-- What the reference's calls do to its row. -/
def refHearF (ls : List Int) (now i : Int) : List Int := if 0 ≤ i ∧ i < ls.length then ls.set i.toNat now else ls
def refSilF (ls : List Int) (now i : Int) : Int := if 0 ≤ i ∧ i < ls.length then now - ls.getD i.toNat 0 else -1

def RefTurned (b s : Nat) (lim now : Int) (ls : List Int) (w w' : World) : Prop := RefAt w' b s lim now ls ∧ Only s w w'

theorem refhear_in (w : World) (b s : Nat) (lim now : Int) (ls : List Int) (h : RefAt w b s lim now ls) (i : Nat) (hi : i < ls.length) :
    Calls Try.prog 12 #[.pointer (some ⟨b, 0, none⟩), .int .i64 i] w fun e w' => e = .returned (.bool true) ∧ RefTurned b s lim now (ls.set i now) w w' := by
  have hc := h.c2
  have hc1 := h.c1
  have hr := h.row.cell i hi
  have hf := h.row.frozen i
  have hl := h.len2
  have i0 : (0 : Int) ≤ (i : Int) := by omega
  have i1 : (i : Int) < (ls.length : Int) := by omega
  go_enter Try.func12, Try.ntmps12
  go_wp2
  go_region
  all_goals
    go_wp2
    go_ret
    exact ⟨rfl, (h.set i now).drew, only_drew (only_setCell _ _ _ _)⟩
theorem refhear_out (w : World) (b s : Nat) (lim now : Int) (ls : List Int) (h : RefAt w b s lim now ls) (i : Int) (hi : i < 0 ∨ (ls.length : Int) ≤ i) :
    Calls Try.prog 12 #[.pointer (some ⟨b, 0, none⟩), .int .i64 i] w fun e w' => e = .returned (.bool false) ∧ w = w' := by
  have hc := h.c2
  have hl := h.len2
  by_cases h0 : i < 0
  · clear hi
    go_enter Try.func12, Try.ntmps12
    go_wp2
    go_ret
    exact ⟨rfl, rfl⟩
  · have h1 : (ls.length : Int) ≤ i := by omega
    have h0 : 0 ≤ i := by omega
    clear hi
    go_enter Try.func12, Try.ntmps12
    go_wp2
    go_ret
    exact ⟨rfl, rfl⟩
def refHearB (ls : List Int) (i : Int) : Bool := decide (0 ≤ i ∧ i < ls.length)
theorem refhear_all (w : World) (b s : Nat) (lim now : Int) (ls : List Int) (h : RefAt w b s lim now ls) (i : Int) :
    Calls Try.prog 12 #[.pointer (some ⟨b, 0, none⟩), .int .i64 i] w fun e w' => e = .returned (.bool (refHearB ls i)) ∧ RefTurned b s lim now (refHearF ls now i) w w' := by
  by_cases hi : 0 ≤ i ∧ i < ls.length
  · obtain ⟨k, rfl⟩ := Int.eq_ofNat_of_zero_le hi.1
    refine (refhear_in w b s lim now ls h k (by omega)).mono ?_
    rintro e w' ⟨rfl, h1⟩
    refine ⟨by unfold refHearB; rw [decide_eq_true hi], ?_⟩
    unfold refHearF; rw [if_pos hi]; simpa using h1
  · refine (refhear_out w b s lim now ls h i (by omega)).mono ?_
    rintro e w' ⟨rfl, rfl⟩
    refine ⟨by unfold refHearB; rw [decide_eq_false hi], ?_, only_refl _ _⟩
    unfold refHearF; rw [if_neg hi]; exact h

theorem refsil_in (w : World) (b s : Nat) (lim now : Int) (ls : List Int) (h : RefAt w b s lim now ls) (hn : now ≤ 1000000) (hb : ∀ j, 0 ≤ ls.getD j 0 ∧ ls.getD j 0 ≤ now) (i : Nat) (hi : i < ls.length) :
    Calls Try.prog 23 #[.pointer (some ⟨b, 0, none⟩), .int .i64 i] w fun e w' => e = .returned (.int .i64 (now - ls.getD i 0)) ∧ ∃ n, w' = w.drewN n := by
  have hc := h.c2
  have hc1 := h.c1
  have hr := h.row.cell i hi
  have hl := h.len2
  have hbi := hb i
  clear hb
  generalize ls.getD i 0 = x at *
  have i0 : (0 : Int) ≤ (i : Int) := by omega
  have i1 : (i : Int) < (ls.length : Int) := by omega
  have hd : IntKind.i64.wrap (now - x) = now - x := IntWalk.i64_in _ (by omega)
  have hd2 : now - x < 1073741825 := by omega
  go_enter Try.func23, Try.ntmps23
  go_wp2
  go_region
  all_goals
    go_wp2
    go_ret
    exact ⟨rfl, 1, rfl⟩
theorem refsil_out (w : World) (b s : Nat) (lim now : Int) (ls : List Int) (h : RefAt w b s lim now ls) (i : Int) (hi : i < 0 ∨ (ls.length : Int) ≤ i) :
    Calls Try.prog 23 #[.pointer (some ⟨b, 0, none⟩), .int .i64 i] w fun e w' => e = .returned (.int .i64 (-1)) ∧ ∃ n, w' = w.drewN n := by
  have hc := h.c2
  have hl := h.len2
  by_cases h0 : i < 0
  · clear hi
    go_enter Try.func23, Try.ntmps23
    go_wp2
    go_ret
    exact ⟨rfl, 0, rfl⟩
  · have h1 : (ls.length : Int) ≤ i := by omega
    have h0 : 0 ≤ i := by omega
    clear hi
    go_enter Try.func23, Try.ntmps23
    go_wp2
    go_ret
    exact ⟨rfl, 0, rfl⟩

/-- How long ago, by the reference. -/
def agoOf (now : Int) (ls : List Int) : List Int := ls.map fun x => now - x
theorem agoOf_len (now : Int) (ls : List Int) : (agoOf now ls).length = ls.length := by simp [agoOf]
theorem agoOf_at (now : Int) (ls : List Int) (j : Nat) (hj : j < ls.length) : (agoOf now ls).getD j 0 = now - ls.getD j 0 := by
  unfold agoOf; rw [getD_map, if_pos hj]

/-- The reference's numbers are from 0 to now, and there were few ticks. -/
def RefFair (now : Int) (ls : List Int) : Prop := now ≤ 1000000 ∧ ∀ j, 0 ≤ ls.getD j 0 ∧ ls.getD j 0 ≤ now

theorem refsil_all (w : World) (b s : Nat) (lim now : Int) (ls : List Int) (h : RefAt w b s lim now ls) (hf : RefFair now ls) (i : Int) :
    Calls Try.prog 23 #[.pointer (some ⟨b, 0, none⟩), .int .i64 i] w fun e w' => e = .returned (.int .i64 (silF (agoOf now ls) i)) ∧ ∃ n, w' = w.drewN n := by
  by_cases hi : 0 ≤ i ∧ i < ls.length
  · obtain ⟨k, rfl⟩ := Int.eq_ofNat_of_zero_le hi.1
    have e : silF (agoOf now ls) k = now - ls.getD k 0 := by unfold silF; rw [agoOf_len, if_pos hi]; simpa using agoOf_at now ls k (by omega)
    rw [e]; exact refsil_in w b s lim now ls h hf.1 hf.2 k (by omega)
  · have e : silF (agoOf now ls) i = -1 := by unfold silF; rw [agoOf_len, if_neg hi]
    rw [e]; exact refsil_out w b s lim now ls h i (by omega)

set_option maxHeartbeats 1000000 in
theorem refreset_any (w : World) (b s : Nat) (lim now : Int) (ls : List Int) (h : RefAt w b s lim now ls) :
    Calls Try.prog 14 #[.pointer (some ⟨b, 0, none⟩)] w fun e w' => e = .returned (.tuple #[]) ∧ RefTurned b s lim now (ls.map fun _ => now) w w' := by
  have hl := h.len2
  go_enter Try.func14, Try.ntmps14
  go_wp2
  go_loopw [2] (fun i wr => ∃ (k : Nat) (ms : List Int), k ≤ ls.length ∧ i = .int .i64 k ∧ upTo (fun _ => now) ls k ms ∧ RefAt wr b s lim now ms ∧ Only s w wr)
    (fun i _ => ls.length - (intOf i).toNat)
  case atStart => exact ⟨0, ls, by omega, rfl, upTo_zero _ _, h, only_refl _ _⟩
  case round =>
    obtain ⟨k, ms, hk, rfl, hup, hw, ho⟩ := hrel
    have hc := hw.c2
    have hc1 := hw.c1
    rw [hup.1] at hc
    by_cases hlt : k < ls.length
    · have hr := hw.row.cell k (by rw [hup.1]; exact hlt)
      have hf := hw.row.frozen k
      have HS := Lib.hid (upTo_succ (f := fun _ => now) hup hlt now rfl)
      have k0 : (0 : Int) ≤ (k : Int) := by omega
      have k1 : (k : Int) < (ls.length : Int) := by omega
      clear hup
      go_wp2
      go_region
      all_goals
        go_wp2
        go_roundw
        case rel => exact ⟨k + 1, ms.set k now, by omega, by go_num, HS.out, (hw.set k _).drew, only_drew (only_trans ho (only_setCell _ _ _ _))⟩
        case measure => simp [intOf]; omega
    · obtain rfl : k = ls.length := by omega
      have hm := upTo_all hup
      subst hm
      go_wp2
      go_end0
      exact ⟨rfl, hw, ho⟩
end Go.Proofs.Ytpiolgpfhplhcaa
