/- The walks over a watch's small functions: New, Members, Hear, Silent, Tick, Reset. -/
import Derived.Test.YtpiolgpfhplhcaaRow
import Derived.Test.YtpiolgpfhplhcaaQuiet
import Derived.WalkKit
import Derived.Handy
import Derived.Lib.Hide
import Derived.WalkLawsBesides
namespace Go.Proofs.Ytpiolgpfhplhcaa
open Go.RowKit
set_option linter.unusedVariables false

theorem Try.info3 : (Try.prog.info? 3).map (fun i => (i.zero, i.size, i.bytes)) = some (some (.int .i64 0), 1, 8) := by kernel_rfl

/-- A watch lies in block b, its row in block s. -/
structure WatchAt (w : World) (b s : Nat) (lim : Int) (ss : List Int) : Prop where
  head : w.heap[b]? = some (.cells #[.int .i64 lim, .slice (some ⟨s, 0, none⟩) ss.length ss.length] 47 (0, 0))
  row : IRow w s 3 ss
  len1 : 1 ≤ ss.length
  len2 : ss.length ≤ 64

theorem WatchAt.c0 {w : World} {b s : Nat} {lim : Int} {ss : List Int} (h : WatchAt w b s lim ss) : w.cell? ⟨b, 0, none⟩ = some (.int .i64 lim) := by
  rw [cell_of_row w b 0 _ 47 (0, 0) h.head]; rfl
theorem WatchAt.c1 {w : World} {b s : Nat} {lim : Int} {ss : List Int} (h : WatchAt w b s lim ss) : w.cell? ⟨b, 1, none⟩ = some (.slice (some ⟨s, 0, none⟩) ss.length ss.length) := by
  rw [cell_of_row w b 1 _ 47 (0, 0) h.head]; rfl
theorem WatchAt.ne {w : World} {b s : Nat} {lim : Int} {ss : List Int} (h : WatchAt w b s lim ss) : b ≠ s := by
  intro e; have h1 := h.head; have h2 := h.row; unfold IRow at h2; rw [e, h2] at h1; simp at h1
theorem WatchAt.ltb {w : World} {b s : Nat} {lim : Int} {ss : List Int} (h : WatchAt w b s lim ss) : b < w.heap.size := (Array.getElem?_eq_some_iff.1 h.head).1

theorem members_any (w : World) (b s : Nat) (lim : Int) (ss : List Int) (h : WatchAt w b s lim ss) :
    Calls Try.prog 17 #[.pointer (some ⟨b, 0, none⟩)] w fun e w' => e = .returned (.int .i64 ss.length) ∧ w = w' := by
  have hc := h.c1
  have hl := h.len2
  go_enter Try.func17, Try.ntmps17
  go_wp2
  go_ret
  exact ⟨rfl, rfl⟩
theorem members_nil (w : World) : Calls Try.prog 17 #[.pointer none] w fun e w' => e = .returned (.int .i64 0) ∧ w = w' := by
  go_enter Try.func17, Try.ntmps17
  go_wp2
  go_ret
  exact ⟨rfl, rfl⟩

theorem silent_in (w : World) (b s : Nat) (lim : Int) (ss : List Int) (h : WatchAt w b s lim ss) (i : Nat) (hi : i < ss.length) :
    Calls Try.prog 19 #[.pointer (some ⟨b, 0, none⟩), .int .i64 i] w fun e w' => e = .returned (.int .i64 (ss.getD i 0)) ∧ w = w' := by
  have hc := h.c1
  have hr := h.row.cell i hi
  have hl := h.len2
  generalize ss.getD i 0 = x at *
  go_enter Try.func19, Try.ntmps19
  go_wp2_with (go_at_call 17; refine (members_any _ b s lim ss h).mono ?_; rintro e w' ⟨rfl, rfl⟩)
  go_ret
  exact ⟨rfl, rfl⟩
theorem silent_out (w : World) (b s : Nat) (lim : Int) (ss : List Int) (h : WatchAt w b s lim ss) (i : Int) (hi : i < 0 ∨ (ss.length : Int) ≤ i) :
    Calls Try.prog 19 #[.pointer (some ⟨b, 0, none⟩), .int .i64 i] w fun e w' => e = .returned (.int .i64 (-1)) ∧ w = w' := by
  by_cases h0 : i < 0
  · clear hi
    go_enter Try.func19, Try.ntmps19
    go_wp2_with (go_at_call 17; refine (members_any _ b s lim ss h).mono ?_; rintro e w' ⟨rfl, rfl⟩)
    go_ret
    exact ⟨rfl, rfl⟩
  · have h1 : (ss.length : Int) ≤ i := by omega
    have h0 : 0 ≤ i := by omega
    clear hi
    go_enter Try.func19, Try.ntmps19
    go_wp2_with (go_at_call 17; refine (members_any _ b s lim ss h).mono ?_; rintro e w' ⟨rfl, rfl⟩)
    go_ret
    exact ⟨rfl, rfl⟩
theorem silent_nil (w : World) : Calls Try.prog 19 #[.pointer none, .int .i64 0] w fun e w' => e = .returned (.int .i64 (-1)) ∧ w = w' := by
  go_enter Try.func19, Try.ntmps19
  go_wp2_with (go_at_call 17; refine (members_nil _).mono ?_; rintro e w' ⟨rfl, rfl⟩)
  go_ret
  exact ⟨rfl, rfl⟩

/-- Only block s has changed. -/
abbrev Only (s : Nat) (w w' : World) : Prop := w.grownBy w' (some s)

theorem WatchAt.set {w : World} {b s : Nat} {lim : Int} {ss : List Int} (h : WatchAt w b s lim ss) (i : Nat) (x : Int) : WatchAt (w.setCell ⟨s, i, none⟩ (.int .i64 x)) b s lim (ss.set i x) := by
  refine ⟨?_, h.row.set i x, by simpa using h.len1, by simpa using h.len2⟩
  rw [Below.heap_setCell _ _ _ _ h.ne, List.length_set]
  exact h.head
theorem only_setCell (w : World) (s i : Nat) (v : Value) : Only s w (w.setCell ⟨s, i, none⟩ v) :=
  ⟨rfl, rfl, rfl, by simp, fun k _ hk => heap_setCell_other w ⟨s, i, none⟩ k v (fun e => hk (by simp [e]))⟩

theorem hear_in (w : World) (b s : Nat) (lim : Int) (ss : List Int) (h : WatchAt w b s lim ss) (i : Nat) (hi : i < ss.length) :
    Calls Try.prog 11 #[.pointer (some ⟨b, 0, none⟩), .int .i64 i] w fun e w' => e = .returned (.int .i64 0) ∧ WatchAt w' b s lim (ss.set i 0) ∧ Only s w w' := by
  have hc := h.c1
  have hr := h.row.cell i hi
  have hf := h.row.frozen i
  have hl := h.len2
  go_enter Try.func11, Try.ntmps11
  go_wp2
  go_ret
  exact ⟨rfl, h.set i 0, only_setCell _ _ _ _⟩
theorem hear_out (w : World) (b s : Nat) (lim : Int) (ss : List Int) (h : WatchAt w b s lim ss) (i : Int) (hi : i < 0 ∨ (ss.length : Int) ≤ i) :
    Calls Try.prog 11 #[.pointer (some ⟨b, 0, none⟩), .int .i64 i] w fun e w' => e = .returned (.int .i64 2) ∧ w = w' := by
  have hc := h.c1
  have hl := h.len2
  by_cases h0 : i < 0
  · clear hi
    go_enter Try.func11, Try.ntmps11
    go_wp2
    go_ret
    exact ⟨rfl, rfl⟩
  · have h1 : (ss.length : Int) ≤ i := by omega
    have h0 : 0 ≤ i := by omega
    clear hi
    go_enter Try.func11, Try.ntmps11
    go_wp2
    go_ret
    exact ⟨rfl, rfl⟩
theorem hear_nil (w : World) (i : Int) : Calls Try.prog 11 #[.pointer none, .int .i64 i] w fun e w' => e = .returned (.int .i64 1) ∧ w = w' := by
  go_enter Try.func11, Try.ntmps11
  go_wp2
  go_ret
  exact ⟨rfl, rfl⟩

/-- A limit, and how many members, as New takes them. -/
def limF (x : Int) : Int := if x < 1 then 1 else if 1073741824 < x then 1073741824 else x
def memF (x : Int) : Nat := if x < 1 then 1 else if 64 < x then 64 else x.toNat
theorem limF_bd (x : Int) : 1 ≤ limF x ∧ limF x ≤ 1073741824 := by unfold limF; split <;> (try split) <;> omega
theorem memF_bd (x : Int) : 1 ≤ memF x ∧ memF x ≤ 64 := by unfold memF; split <;> (try split) <;> omega

theorem below_setCell_of (B : Nat) {a w : World} (h : Below B a w) {p : Addr} (hp : B ≤ p.block) (u : Value) : Below B a (w.setCell p u) := h.setCell hp u

/-- What New returns. -/
def NewPost (m l : Int) (w : World) (e : Ending) (w' : World) : Prop :=
  ∃ b s, e = .returned (.pointer (some ⟨b, 0, none⟩)) ∧ WatchAt w' b s (limF l) (List.replicate (memF m) 0) ∧ w.heap.size ≤ b ∧ w.heap.size ≤ s ∧ Below w.heap.size w w'

theorem newPost_mk (m l : Int) (w w1 : World) (L : Int) (M : Nat) (hL : limF l = L) (hM : memF m = M)
    (hown : w1.ownsRow w.heap.size 3 1 (.slice (some ⟨w.heap.size, 0, none⟩) M M) M (madeCells (Value.int .i64 0).cells (M * 1)).toList) (hg : w.grownBy w1 none) :
    NewPost m l w (.returned (.pointer (some ⟨w1.heap.size, 0, none⟩))) (w1.alloc (.cells #[.int .i64 L, .slice (some ⟨w.heap.size, 0, none⟩) M M] 47)) := by
  subst hL hM
  have hm := memF_bd m
  have hr0 : IRow w1 w.heap.size 3 (List.replicate (memF m) 0) := by
    refine IRow.of_owns (base := w.heap.size) (n := memF m) ?_
    rw [show Value.cells (.int .i64 0) = #[.int .i64 0] from rfl, toList_madeCells_one, Nat.mul_one] at hown
    simpa using hown
  refine ⟨_, _, rfl, ⟨by simpa using heap_alloc_new w1 _, hr0.alloc _, by simpa using hm.1, by simpa using hm.2⟩, hg.size, Nat.le_refl _, ?_⟩
  exact ((Below.refl _ _).grown hg (Nat.le_refl _) (fun k h => by cases h)).alloc hg.size _

theorem limF_lo {l : Int} (h : l ≤ 1) : limF l = 1 := by unfold limF; split <;> (try split) <;> omega
theorem limF_hi {l : Int} (h : 1073741824 ≤ l) : limF l = 1073741824 := by unfold limF; split <;> (try split) <;> omega
theorem limF_mid {l : Int} (h : 1 < l) (h' : l < 1073741824) : limF l = l := by unfold limF; rw [if_neg (by omega), if_neg (by omega)]
theorem memF_lo {m : Int} (h : m ≤ 1) : memF m = 1 := by unfold memF; split <;> (try split) <;> omega
theorem memF_hi {m : Int} (h : 64 ≤ m) : memF m = 64 := by unfold memF; split <;> (try split) <;> omega
theorem memF_mid {k : Nat} (h : 1 < k) (h' : k < 64) : memF k = k := by unfold memF; rw [if_neg (by omega), if_neg (by omega)]; simp

theorem new_lo_lo (m l : Int) (w : World) (q : m ≤ 1) (g : l ≤ 1) : Calls Try.prog 9 #[.int .i64 m, .int .i64 l] w (NewPost m l w) := by
  obtain ⟨i0, hi, hz0, hz1, hz2⟩ := info_parts Try.info3
  have HM := Lib.hid (memF_lo q)
  have HL := Lib.hid (limF_lo g)
  go_enter Try.func9, Try.ntmps9
  go_wp2_with (refine wpList_make_full _ rfl _ _ 33 rfl w.heap.size 3 i0 (.int .i64 0) 1 Try.underlying33 hi hz0 hz1 .i64 .i64 _ _ 1 rfl rfl rfl rfl (by rw [hz2]; omega) (by unfold maxLen; omega) (Nat.le_refl _) ?_; intro w1 hown hgrow)
  go_ret
  exact newPost_mk _ l w w1 1 1 HL.out HM.out hown hgrow
theorem new_lo_hi (m l : Int) (w : World) (q : m ≤ 1) (g : 1073741824 ≤ l) : Calls Try.prog 9 #[.int .i64 m, .int .i64 l] w (NewPost m l w) := by
  obtain ⟨i0, hi, hz0, hz1, hz2⟩ := info_parts Try.info3
  have HM := Lib.hid (memF_lo q)
  have HL := Lib.hid (limF_hi g)
  go_enter Try.func9, Try.ntmps9
  go_wp2_with (refine wpList_make_full _ rfl _ _ 33 rfl w.heap.size 3 i0 (.int .i64 0) 1 Try.underlying33 hi hz0 hz1 .i64 .i64 _ _ 1 rfl rfl rfl rfl (by rw [hz2]; omega) (by unfold maxLen; omega) (Nat.le_refl _) ?_; intro w1 hown hgrow)
  go_ret
  exact newPost_mk _ l w w1 1073741824 1 HL.out HM.out hown hgrow
theorem new_lo_mid (m l : Int) (w : World) (q : m ≤ 1) (g : 1 < l) (g' : l < 1073741824) : Calls Try.prog 9 #[.int .i64 m, .int .i64 l] w (NewPost m l w) := by
  obtain ⟨i0, hi, hz0, hz1, hz2⟩ := info_parts Try.info3
  have HM := Lib.hid (memF_lo q)
  have HL := Lib.hid (limF_mid g g')
  go_enter Try.func9, Try.ntmps9
  go_wp2_with (refine wpList_make_full _ rfl _ _ 33 rfl w.heap.size 3 i0 (.int .i64 0) 1 Try.underlying33 hi hz0 hz1 .i64 .i64 _ _ 1 rfl rfl rfl rfl (by rw [hz2]; omega) (by unfold maxLen; omega) (Nat.le_refl _) ?_; intro w1 hown hgrow)
  go_ret
  exact newPost_mk _ l w w1 l 1 HL.out HM.out hown hgrow
theorem new_hi_lo (m l : Int) (w : World) (q : 64 ≤ m) (g : l ≤ 1) : Calls Try.prog 9 #[.int .i64 m, .int .i64 l] w (NewPost m l w) := by
  obtain ⟨i0, hi, hz0, hz1, hz2⟩ := info_parts Try.info3
  have HM := Lib.hid (memF_hi q)
  have HL := Lib.hid (limF_lo g)
  go_enter Try.func9, Try.ntmps9
  go_wp2_with (refine wpList_make_full _ rfl _ _ 33 rfl w.heap.size 3 i0 (.int .i64 0) 1 Try.underlying33 hi hz0 hz1 .i64 .i64 _ _ 64 rfl rfl rfl rfl (by rw [hz2]; omega) (by unfold maxLen; omega) (Nat.le_refl _) ?_; intro w1 hown hgrow)
  go_ret
  exact newPost_mk _ l w w1 1 64 HL.out HM.out hown hgrow
theorem new_hi_hi (m l : Int) (w : World) (q : 64 ≤ m) (g : 1073741824 ≤ l) : Calls Try.prog 9 #[.int .i64 m, .int .i64 l] w (NewPost m l w) := by
  obtain ⟨i0, hi, hz0, hz1, hz2⟩ := info_parts Try.info3
  have HM := Lib.hid (memF_hi q)
  have HL := Lib.hid (limF_hi g)
  go_enter Try.func9, Try.ntmps9
  go_wp2_with (refine wpList_make_full _ rfl _ _ 33 rfl w.heap.size 3 i0 (.int .i64 0) 1 Try.underlying33 hi hz0 hz1 .i64 .i64 _ _ 64 rfl rfl rfl rfl (by rw [hz2]; omega) (by unfold maxLen; omega) (Nat.le_refl _) ?_; intro w1 hown hgrow)
  go_ret
  exact newPost_mk _ l w w1 1073741824 64 HL.out HM.out hown hgrow
theorem new_hi_mid (m l : Int) (w : World) (q : 64 ≤ m) (g : 1 < l) (g' : l < 1073741824) : Calls Try.prog 9 #[.int .i64 m, .int .i64 l] w (NewPost m l w) := by
  obtain ⟨i0, hi, hz0, hz1, hz2⟩ := info_parts Try.info3
  have HM := Lib.hid (memF_hi q)
  have HL := Lib.hid (limF_mid g g')
  go_enter Try.func9, Try.ntmps9
  go_wp2_with (refine wpList_make_full _ rfl _ _ 33 rfl w.heap.size 3 i0 (.int .i64 0) 1 Try.underlying33 hi hz0 hz1 .i64 .i64 _ _ 64 rfl rfl rfl rfl (by rw [hz2]; omega) (by unfold maxLen; omega) (Nat.le_refl _) ?_; intro w1 hown hgrow)
  go_ret
  exact newPost_mk _ l w w1 l 64 HL.out HM.out hown hgrow
theorem new_mid_lo (m l : Int) (w : World) (k : Nat) (hm : m = k) (q : 1 < k) (q' : k < 64) (g : l ≤ 1) : Calls Try.prog 9 #[.int .i64 m, .int .i64 l] w (NewPost m l w) := by
  subst hm
  obtain ⟨i0, hi, hz0, hz1, hz2⟩ := info_parts Try.info3
  have HM := Lib.hid (memF_mid q q')
  have HL := Lib.hid (limF_lo g)
  go_enter Try.func9, Try.ntmps9
  go_wp2_with (refine wpList_make_full _ rfl _ _ 33 rfl w.heap.size 3 i0 (.int .i64 0) 1 Try.underlying33 hi hz0 hz1 .i64 .i64 _ _ k rfl rfl rfl rfl (by rw [hz2]; omega) (by unfold maxLen; omega) (Nat.le_refl _) ?_; intro w1 hown hgrow)
  go_ret
  exact newPost_mk _ l w w1 1 k HL.out HM.out hown hgrow
theorem new_mid_hi (m l : Int) (w : World) (k : Nat) (hm : m = k) (q : 1 < k) (q' : k < 64) (g : 1073741824 ≤ l) : Calls Try.prog 9 #[.int .i64 m, .int .i64 l] w (NewPost m l w) := by
  subst hm
  obtain ⟨i0, hi, hz0, hz1, hz2⟩ := info_parts Try.info3
  have HM := Lib.hid (memF_mid q q')
  have HL := Lib.hid (limF_hi g)
  go_enter Try.func9, Try.ntmps9
  go_wp2_with (refine wpList_make_full _ rfl _ _ 33 rfl w.heap.size 3 i0 (.int .i64 0) 1 Try.underlying33 hi hz0 hz1 .i64 .i64 _ _ k rfl rfl rfl rfl (by rw [hz2]; omega) (by unfold maxLen; omega) (Nat.le_refl _) ?_; intro w1 hown hgrow)
  go_ret
  exact newPost_mk _ l w w1 1073741824 k HL.out HM.out hown hgrow
theorem new_mid_mid (m l : Int) (w : World) (k : Nat) (hm : m = k) (q : 1 < k) (q' : k < 64) (g : 1 < l) (g' : l < 1073741824) : Calls Try.prog 9 #[.int .i64 m, .int .i64 l] w (NewPost m l w) := by
  subst hm
  obtain ⟨i0, hi, hz0, hz1, hz2⟩ := info_parts Try.info3
  have HM := Lib.hid (memF_mid q q')
  have HL := Lib.hid (limF_mid g g')
  go_enter Try.func9, Try.ntmps9
  go_wp2_with (refine wpList_make_full _ rfl _ _ 33 rfl w.heap.size 3 i0 (.int .i64 0) 1 Try.underlying33 hi hz0 hz1 .i64 .i64 _ _ k rfl rfl rfl rfl (by rw [hz2]; omega) (by unfold maxLen; omega) (Nat.le_refl _) ?_; intro w1 hown hgrow)
  go_ret
  exact newPost_mk _ l w w1 l k HL.out HM.out hown hgrow

theorem new_any (m l : Int) (w : World) : Calls Try.prog 9 #[.int .i64 m, .int .i64 l] w (NewPost m l w) := by
  by_cases q : m ≤ 1
  · by_cases g : l ≤ 1
    · exact new_lo_lo m l w q g
    · by_cases g' : 1073741824 ≤ l
      · exact new_lo_hi m l w q g'
      · exact new_lo_mid m l w q (by omega) (by omega)
  · by_cases q' : 64 ≤ m
    · by_cases g : l ≤ 1
      · exact new_hi_lo m l w q' g
      · by_cases g' : 1073741824 ≤ l
        · exact new_hi_hi m l w q' g'
        · exact new_hi_mid m l w q' (by omega) (by omega)
    · by_cases g : l ≤ 1
      · exact new_mid_lo m l w m.toNat (by omega) (by omega) (by omega) g
      · by_cases g' : 1073741824 ≤ l
        · exact new_mid_hi m l w m.toNat (by omega) (by omega) (by omega) g'
        · exact new_mid_mid m l w m.toNat (by omega) (by omega) (by omega) (by omega) (by omega)
end Go.Proofs.Ytpiolgpfhplhcaa
