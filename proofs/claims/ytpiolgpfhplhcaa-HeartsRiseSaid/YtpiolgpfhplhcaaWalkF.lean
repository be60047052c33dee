/- A watch's calls at whatever argument, each by one contract; the chapter's example. -/
import Derived.Test.YtpiolgpfhplhcaaWalkE
namespace Go.Proofs.Ytpiolgpfhplhcaa
open Go Go.RowKit
set_option linter.unusedVariables false

def hearF (ss : List Int) (i : Int) : List Int := if 0 ≤ i ∧ i < ss.length then ss.set i.toNat 0 else ss
def hearE (ss : List Int) (i : Int) : Int := if 0 ≤ i ∧ i < ss.length then 0 else 2
def silF (ss : List Int) (i : Int) : Int := if 0 ≤ i ∧ i < ss.length then ss.getD i.toNat 0 else -1
theorem hearF_len (ss : List Int) (i : Int) : (hearF ss i).length = ss.length := by unfold hearF; split <;> simp

/-- What a call that turns a watch's row leaves. -/
def Turned (b s : Nat) (lim : Int) (ss' : List Int) (w w' : World) : Prop := WatchAt w' b s lim ss' ∧ Only s w w'

theorem hear_all (w : World) (b s : Nat) (lim : Int) (ss : List Int) (h : WatchAt w b s lim ss) (i : Int) :
    Calls Try.prog 11 #[.pointer (some ⟨b, 0, none⟩), .int .i64 i] w fun e w' => e = .returned (.int .i64 (hearE ss i)) ∧ Turned b s lim (hearF ss i) w w' := by
  by_cases hi : 0 ≤ i ∧ i < ss.length
  · obtain ⟨k, rfl⟩ := Int.eq_ofNat_of_zero_le hi.1
    refine (hear_in w b s lim ss h k (by omega)).mono ?_
    rintro e w' ⟨rfl, h1, h2⟩
    refine ⟨by unfold hearE; rw [if_pos hi], ?_, h2⟩
    unfold hearF; rw [if_pos hi]; simpa using h1
  · refine (hear_out w b s lim ss h i (by omega)).mono ?_
    rintro e w' ⟨rfl, rfl⟩
    refine ⟨by unfold hearE; rw [if_neg hi], ?_, only_refl _ _⟩
    unfold hearF; rw [if_neg hi]; exact h

theorem silent_all (w : World) (b s : Nat) (lim : Int) (ss : List Int) (h : WatchAt w b s lim ss) (i : Int) :
    Calls Try.prog 19 #[.pointer (some ⟨b, 0, none⟩), .int .i64 i] w fun e w' => e = .returned (.int .i64 (silF ss i)) ∧ w = w' := by
  by_cases hi : 0 ≤ i ∧ i < ss.length
  · obtain ⟨k, rfl⟩ := Int.eq_ofNat_of_zero_le hi.1
    have e : silF ss k = ss.getD k 0 := by unfold silF; rw [if_pos hi]; simp
    rw [e]; exact silent_in w b s lim ss h k (by omega)
  · have e : silF ss i = -1 := by unfold silF; rw [if_neg hi]
    rw [e]; exact silent_out w b s lim ss h i (by omega)

/-- Numbers of ticks: from 0 to the most that are told apart. -/
def Fair (ss : List Int) : Prop := ∀ j, 0 ≤ ss.getD j 0 ∧ ss.getD j 0 ≤ 1073741825
theorem t1_bd {x : Int} (h : 0 ≤ x) : 0 ≤ t1 x ∧ t1 x ≤ 1073741825 := by unfold t1; split <;> omega
theorem getD_map (f : Int → Int) (ss : List Int) (j : Nat) : (ss.map f).getD j 0 = if j < ss.length then f (ss.getD j 0) else 0 := by
  by_cases h : j < ss.length
  · rw [if_pos h]; simp [h]
  · rw [if_neg h, List.getD_eq_getElem?_getD, List.getElem?_eq_none (by simpa using h)]; rfl
theorem fair_tick {ss : List Int} (h : Fair ss) : Fair (ss.map t1) := fun j => by
  rw [getD_map]; split
  · exact t1_bd (h j).1
  · omega
theorem fair_hear {ss : List Int} (h : Fair ss) (i : Int) : Fair (hearF ss i) := fun j => by
  unfold hearF; split
  · rw [getD_set _ _ _ _ (by omega)]; split
    · omega
    · exact h j
  · exact h j
theorem fair_zero (n : Nat) : Fair (List.replicate n 0) := fun j => by
  rw [List.getD_eq_getElem?_getD, List.getElem?_replicate]; split <;> simp

theorem tick_all (w : World) (b s : Nat) (lim : Int) (ss : List Int) (h : WatchAt w b s lim ss) (hf : Fair ss) :
    Calls Try.prog 15 #[.pointer (some ⟨b, 0, none⟩)] w fun e w' => e = .returned (.tuple #[]) ∧ Turned b s lim (ss.map t1) w w' :=
  (tick_any w b s lim ss h hf).mono fun _ _ ⟨h1, h2, h3⟩ => ⟨h1, h2, h3⟩
theorem reset_all (w : World) (b s : Nat) (lim : Int) (ss : List Int) (h : WatchAt w b s lim ss) :
    Calls Try.prog 13 #[.pointer (some ⟨b, 0, none⟩)] w fun e w' => e = .returned (.tuple #[]) ∧ Turned b s lim (List.replicate ss.length 0) w w' :=
  (reset_any w b s lim ss h).mono fun _ _ ⟨h1, h2, h3⟩ => ⟨h1, h2, h3⟩

theorem Only.below {s : Nat} {w w' : World} (h : Only s w w') {B : Nat} (hB : B ≤ s) (hs : B ≤ w.heap.size) : Below B w w' :=
  (Below.refl _ _).grown h hs (fun k e => by cases e; exact hB)

theorem WatchAt.kept {w w' : World} {b s : Nat} {lim : Int} {ss : List Int} (h : WatchAt w b s lim ss) (hb : Below w.heap.size w w') : WatchAt w' b s lim ss := h.below hb h.ltb h.row.lt
theorem WatchAt.other {w w' : World} {b s t : Nat} {lim : Int} {ss : List Int} (h : WatchAt w b s lim ss) (ho : Only t w w') (h1 : b ≠ t) (h2 : s ≠ t) : WatchAt w' b s lim ss :=
  ⟨(ho.block b h.ltb (by simpa using h1)).trans h.head, by have := h.row; unfold IRow at *; rw [ho.block s h.row.lt (by simpa using h2)]; exact this, h.len1, h.len2⟩

theorem made_kept {w w0 w' : World} {v : Value} {xs : List Int} (h : w0.ownsRow w.heap.size 3 1 v xs.length (xs.map (Value.int .i64))) (hb : Below w0.heap.size w0 w') : w'.ownsRow w.heap.size 3 1 v xs.length (xs.map (Value.int .i64)) := by
  refine h.kept (row := none) ⟨hb.os, hb.tape, hb.output, hb.size, fun k hk _ => hb.block k hk⟩ ?_
  rcases h.2 with ⟨rfl, _⟩ | ⟨g, cap, cur, rfl, _⟩
  · exact .inl rfl
  · exact .inr (by simp [Value.ownBlock])
theorem made_other {w w0 w' : World} {v : Value} {xs : List Int} {t : Nat} (h : w0.ownsRow w.heap.size 3 1 v xs.length (xs.map (Value.int .i64))) (ho : Only t w0 w') (ht : t < w.heap.size) : w'.ownsRow w.heap.size 3 1 v xs.length (xs.map (Value.int .i64)) := by
  refine h.kept ho ?_
  rcases h.2 with ⟨rfl, _⟩ | ⟨g, cap, cur, rfl, hg, _⟩
  · exact .inl rfl
  · exact .inr (by simp [Value.ownBlock]; omega)

set_option maxHeartbeats 1000000 in
theorem works_any (w : World) : Calls Try.prog 8 #[] w fun e w' => e = .returned (.bool true) ∧ Below w.heap.size w w' := by
  go_enter Try.func8, Try.ntmps8
  go_wp2_with fail
  refine (new_any 2 2 w).mono ?_
  rintro e w1 ⟨b, s, rfl, h1, hb, hs, B1⟩
  have h1 : WatchAt w1 b s 2 [0, 0] := h1
  go_wp2_with fail
  refine (tick_all w1 b s 2 [0, 0] h1 (fair_zero 2)).mono ?_
  rintro e w2 ⟨rfl, h2, o2⟩
  have h2 : WatchAt w2 b s 2 [1, 1] := h2
  go_wp2_with fail
  refine (tick_all w2 b s 2 [1, 1] h2 (fair_tick (fair_zero 2))).mono ?_
  rintro e w3 ⟨rfl, h3, o3⟩
  have h3 : WatchAt w3 b s 2 [2, 2] := h3
  go_wp2_with fail
  refine (all_any w3 b s 2 [2, 2] h3).mono ?_
  rintro e w4 ⟨rfl, B4⟩
  have h4 := h3.kept B4
  rw [show (goneOf 2 [2, 2]).isEmpty = true from rfl]
  go_wp2_with fail
  refine (tick_all w4 b s 2 [2, 2] h4 (fair_tick (fair_tick (fair_zero 2)))).mono ?_
  rintro e w5 ⟨rfl, h5, o5⟩
  have h5 : WatchAt w5 b s 2 [3, 3] := h5
  go_wp2_with fail
  refine (gone_any w5 b s 2 [3, 3] h5).mono ?_
  rintro e w6 ⟨l, rfl, r6, _, B6⟩
  have h6 := h5.kept B6
  obtain ⟨g, cap, rfl⟩ := ownsRow_succ (k := 1) r6
  go_wp2_with fail
  refine (hear_all w6 b s 2 [3, 3] h6 1).mono ?_
  rintro e w7 ⟨rfl, h7, o7⟩
  have h7 : WatchAt w7 b s 2 [3, 0] := h7
  have r7 := made_other r6 o7 h5.row.lt
  rw [show hearE [3, 3] 1 = 0 from rfl]
  go_wp2_with fail
  refine (gone_any w7 b s 2 [3, 0] h7).mono ?_
  rintro e w8 ⟨m, rfl, m8, _, B8⟩
  have h8 := h7.kept B8
  have r8 := made_kept r7 B8
  obtain ⟨g', cap', rfl⟩ := ownsRow_succ (k := 0) m8
  have c1 : w8.cell? ⟨g, 1, none⟩ = some (.int .i64 1) := r8.cellAt 1 (by decide)
  have c0 : w8.cell? ⟨g', 0, none⟩ = some (.int .i64 0) := m8.cellAt 0 (by decide)
  have bel : Below w.heap.size w w8 := by
    have z1 := B1.size
    have z2 := (o2.below hs z1)
    have z3 := z2.trans (o3.below hs (Nat.le_trans z1 z2.size))
    have z4 := z3.trans (B4.mono (Nat.le_trans z1 z3.size))
    have z5 := z4.trans (o5.below hs (Nat.le_trans z1 z4.size))
    have z6 := z5.trans (B6.mono (Nat.le_trans z1 z5.size))
    have z7 := z6.trans (o7.below hs (Nat.le_trans z1 z6.size))
    exact B1.trans (z7.trans (B8.mono (Nat.le_trans z1 z7.size)))
  have hsz : w.heap.size ≤ w8.heap.size := bel.size
  clear r6 r7 r8 m8 h1 h2 h3 h4 h5 h6 h7 o2 o3 o5 o7 B1 B4 B6 B8
  go_wp2_with fail
  refine (all_any w8 b s 2 [3, 0] h8).mono ?_
  rintro e w9 ⟨rfl, B9⟩
  have h9 := h8.kept B9
  rw [show (goneOf 2 [3, 0]).isEmpty = false from rfl]
  go_wp2_with fail
  refine (silent_all w9 b s 2 [3, 0] h9 0).mono ?_
  rintro e w' ⟨rfl, rfl⟩
  rw [show silF [3, 0] 0 = 3 from rfl]
  go_wp2_with fail
  refine (members_any w9 b s 2 [3, 0] h9).mono ?_
  rintro e w' ⟨rfl, rfl⟩
  go_wp2_with fail
  go_ret
  exact ⟨rfl, bel.trans (B9.mono hsz)⟩
end Go.Proofs.Ytpiolgpfhplhcaa
