/- The walks over Tick and Reset. -/
import Derived.Test.YtpiolgpfhplhcaaWalkA
import Derived.Lib.SliceRun
namespace Go.Proofs.Ytpiolgpfhplhcaa
open Go.RowKit
set_option linter.unusedVariables false

/-- One tick longer ago. -/
def t1 (x : Int) : Int := if x ≤ 1073741824 then x + 1 else 1073741825
theorem t1_lo {x : Int} (h : x ≤ 1073741824) : t1 x = x + 1 := by unfold t1; rw [if_pos h]
theorem t1_hi {x : Int} (h : 1073741824 < x) : t1 x = 1073741825 := by unfold t1; rw [if_neg (by omega)]

/-- The row when k of its numbers were turned by f. -/
def upTo (f : Int → Int) (ss : List Int) (k : Nat) (ms : List Int) : Prop :=
  ms.length = ss.length ∧ ∀ j, j < ss.length → ms.getD j 0 = if j < k then f (ss.getD j 0) else ss.getD j 0
theorem upTo_zero (f : Int → Int) (ss : List Int) : upTo f ss 0 ss := ⟨rfl, fun j _ => by simp⟩
theorem upTo_at {f : Int → Int} {ss ms : List Int} {k : Nat} (h : upTo f ss k ms) (hk : k < ss.length) : ms.getD k 0 = ss.getD k 0 := by
  rw [h.2 k hk, if_neg (by omega)]
theorem getD_set (ms : List Int) (k j : Nat) (x : Int) (hk : k < ms.length) : (ms.set k x).getD j 0 = if j = k then x else ms.getD j 0 := by
  simp only [List.getD_eq_getElem?_getD, List.getElem?_set]
  by_cases h : k = j
  · subst h; simp [hk]
  · rw [if_neg h, if_neg (by omega)]
theorem upTo_succ {f : Int → Int} {ss ms : List Int} {k : Nat} (h : upTo f ss k ms) (hk : k < ss.length) (x : Int) (hx : x = f (ss.getD k 0)) : upTo f ss (k + 1) (ms.set k x) := by
  refine ⟨by simpa using h.1, fun j hj => ?_⟩
  rw [getD_set _ _ _ _ (by rw [h.1]; exact hk)]
  by_cases e : j = k
  · subst e; rw [if_pos rfl, if_pos (by omega), hx]
  · rw [if_neg e, h.2 j hj]
    by_cases g : j < k
    · rw [if_pos g, if_pos (by omega)]
    · rw [if_neg g, if_neg (by omega)]
theorem upTo_all {f : Int → Int} {ss ms : List Int} (h : upTo f ss ss.length ms) : ms = ss.map f := by
  apply List.ext_getElem
  · simpa using h.1
  · intro i h1 h2
    have := h.2 i (by rw [← h.1]; exact h1)
    rw [if_pos (by rw [← h.1]; exact h1)] at this
    have e1 : ms.getD i 0 = ms[i] := by simp [h1]
    have e2 : ss.getD i 0 = ss[i]'(by simpa using h2) := by simp [show i < ss.length by simpa using h2]
    rw [e1, e2] at this
    simpa using this

theorem only_trans {s : Nat} {a b c : World} (h : Only s a b) (k : Only s b c) : Only s a c :=
  ⟨k.os.trans h.os, k.tape.trans h.tape, k.output.trans h.output, Nat.le_trans h.size k.size, fun i hi hne => (k.block i (Nat.lt_of_lt_of_le hi h.size) hne).trans (h.block i hi hne)⟩
theorem only_refl (s : Nat) (w : World) : Only s w w := ⟨rfl, rfl, rfl, Nat.le_refl _, fun _ _ _ => rfl⟩
theorem only_drew {s : Nat} {w w' : World} (h : Only s w w') : Only s w w'.drew := ⟨h.os, h.tape, h.output, h.size, h.block⟩

theorem WatchAt.drew {w : World} {b s : Nat} {lim : Int} {ss : List Int} (h : WatchAt w b s lim ss) : WatchAt w.drew b s lim ss := ⟨h.head, h.row, h.len1, h.len2⟩

/-- What Tick does. -/
def TickPost (b s : Nat) (lim : Int) (ss : List Int) (w : World) (e : Ending) (w' : World) : Prop :=
  e = .returned (.tuple #[]) ∧ WatchAt w' b s lim (ss.map t1) ∧ Only s w w'

set_option maxHeartbeats 1000000 in
theorem tick_any (w : World) (b s : Nat) (lim : Int) (ss : List Int) (h : WatchAt w b s lim ss) (hbd : ∀ j, 0 ≤ ss.getD j 0 ∧ ss.getD j 0 ≤ 1073741825) :
    Calls Try.prog 15 #[.pointer (some ⟨b, 0, none⟩)] w (TickPost b s lim ss w) := by
  have hl := h.len2
  have hne := h.ne
  go_enter Try.func15, Try.ntmps15
  go_wp2_with (go_at_call 17; refine (members_any _ b s lim ss h).mono ?_; rintro e w' ⟨rfl, rfl⟩)
  go_loopw [5] (fun i wr => ∃ (k : Nat) (ms : List Int), k ≤ ss.length ∧ i = .int .i64 k ∧ upTo t1 ss k ms ∧ WatchAt wr b s lim ms ∧ Only s w wr)
    (fun i _ => ss.length - (intOf i).toNat)
  case atStart => exact ⟨0, ss, by omega, rfl, upTo_zero _ _, h, only_refl _ _⟩
  case round =>
    obtain ⟨k, ms, hk, rfl, hup, hw, ho⟩ := hrel
    by_cases hlt : k < ss.length
    · have hc := hw.c1
      have hr := hw.row.cell k (by rw [hup.1]; exact hlt)
      have hf := hw.row.frozen k
      have hlen := hup.1
      have hb := hbd k
      rw [hlen] at hc
      rw [upTo_at hup hlt] at hr
      have hs := fun x hx => upTo_succ (f := t1) hup hlt x hx
      have HS := Lib.hid hs
      have HLEN := Lib.hid hlen
      clear hs hlen hbd
      generalize ss.getD k 0 = x at *
      have k0 : (0 : Int) ≤ (k : Int) := by omega
      have k1 : (k : Int) < (ss.length : Int) := by omega
      by_cases hx : x ≤ 1073741824
      · go_wp2
        go_region
        all_goals
          go_wp2
          go_roundw
          case rel => exact ⟨k + 1, ms.set k (x + 1), by omega, by go_num, HS.out _ (t1_lo hx).symm, (hw.set k _).drew, only_drew (only_trans ho (only_setCell _ _ _ _))⟩
          case measure => simp [intOf]; omega
      · have hx : 1073741824 < x := by omega
        go_wp2
        go_region
        all_goals
          go_wp2
          go_roundw
          case rel => exact ⟨k + 1, ms.set k 1073741825, by omega, by go_num, HS.out _ (t1_hi hx).symm, (hw.set k _).drew, only_drew (only_trans ho (only_setCell _ _ _ _))⟩
          case measure => simp [intOf]; omega
    · obtain rfl : k = ss.length := by omega
      have hm := upTo_all hup
      subst hm
      go_wp2
      go_end0
      exact ⟨rfl, hw, ho⟩

theorem setCells_zero (b s : Nat) (lim : Int) : ∀ (k o : Nat) (w : World) (ms : List Int), o + k ≤ ms.length → WatchAt w b s lim ms →
    ∃ ms', WatchAt (w.setCells s o (List.replicate k (.int .i64 0))) b s lim ms' ∧ ms'.length = ms.length ∧ (∀ j, j < ms.length → ms'.getD j 0 = if o ≤ j ∧ j < o + k then 0 else ms.getD j 0) ∧ Only s w (w.setCells s o (List.replicate k (.int .i64 0)))
  | 0, o, w, ms, _, h => ⟨ms, h, rfl, fun j _ => by rw [if_neg (by omega)], only_refl _ _⟩
  | k + 1, o, w, ms, hk, h => by
    obtain ⟨ms', h1, h2, h3, h4⟩ := setCells_zero b s lim k (o + 1) (w.setCell ⟨s, o, none⟩ (.int .i64 0)) (ms.set o 0) (by simp; omega) (h.set o 0)
    rw [List.replicate_succ, World.setCells]
    refine ⟨ms', h1, by simpa using h2, fun j hj => ?_, only_trans (only_setCell _ _ _ _) h4⟩
    rw [h3 j (by simpa using hj), getD_set _ _ _ _ (by omega)]
    by_cases e : j = o
    · subst e; rw [if_neg (by omega), if_pos rfl, if_pos (by omega)]
    · by_cases g : o + 1 ≤ j ∧ j < o + 1 + k
      · rw [if_pos g, if_pos (by omega)]
      · rw [if_neg g, if_neg e, if_neg (by omega)]

theorem zeros_of (n : Nat) (ms : List Int) (hl : ms.length = n) (h : ∀ j, j < n → ms.getD j 0 = 0) : ms = List.replicate n 0 := by
  apply List.ext_getElem
  · simpa using hl
  · intro i h1 h2
    have := h i (by omega)
    have e1 : ms.getD i 0 = ms[i] := by simp [h1]
    rw [e1] at this
    simpa using this

theorem reset_any (w : World) (b s : Nat) (lim : Int) (ss : List Int) (h : WatchAt w b s lim ss) :
    Calls Try.prog 13 #[.pointer (some ⟨b, 0, none⟩)] w fun e w' => e = .returned (.tuple #[]) ∧ WatchAt w' b s lim (List.replicate ss.length 0) ∧ Only s w w' := by
  have hc := h.c1
  have hl := h.len2
  have hcl : ∀ ty, (Builtin.clear_ #[33] ty #[.slice (some ⟨s, 0, none⟩) ss.length ss.length]).run Try.prog w = .ok (.tuple #[]) (w.setCells s 0 (List.replicate ss.length (.int .i64 0))) :=
    fun ty => Lib.run_clear_slice w 33 3 ty (.int .i64 0) Try.underlying33 (fun w => by kernel_rfl) rfl rfl s 0 ss.length ss.length h.len1
      (fun j hj => by rw [Nat.zero_add, h.row.cell j hj]; rfl) (fun j hj => by rw [Nat.zero_add]; exact h.row.frozen j)
  obtain ⟨ms', h1, h2, h3, h4⟩ := setCells_zero b s lim ss.length 0 w ss (by omega) h
  have hz := zeros_of ss.length ms' h2 (fun j hj => by rw [h3 j hj, if_pos (by omega)])
  rw [hz] at h1
  clear h2 h3 hz
  go_enter Try.func13, Try.ntmps13
  go_wp2
  go_end0
  exact ⟨rfl, h1, h4⟩
theorem reset_nil (w : World) : Calls Try.prog 13 #[.pointer none] w fun e w' => e = .returned (.tuple #[]) ∧ w = w' := by
  go_enter Try.func13, Try.ntmps13
  go_wp2
  go_end0
  exact ⟨rfl, rfl⟩
theorem tick_nil (w : World) : Calls Try.prog 15 #[.pointer none] w fun e w' => e = .returned (.tuple #[]) ∧ w = w' := by
  go_enter Try.func15, Try.ntmps15
  go_wp2_with (go_at_call 17; refine (members_nil _).mono ?_; rintro e w' ⟨rfl, rfl⟩)
  refine wp_loop_rounds 1 ?_
  rw [rounds_succ]
  go_wp2
  go_end0
  exact ⟨rfl, rfl⟩
end Go.Proofs.Ytpiolgpfhplhcaa
