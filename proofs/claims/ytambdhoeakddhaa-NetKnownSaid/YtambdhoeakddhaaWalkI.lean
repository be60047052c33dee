/- The walk over slices.Delete of one message. -/
import Derived.Test.YtambdhoeakddhaaWalkH
import Derived.Deep.RegionLaw
namespace Go.Proofs.Ytambdhoeakddhaa
open Go Go.RowKit Go.Conc
set_option linter.unusedVariables false

theorem zero33 (w : World) : (zeroValue 33).run Try.prog w = .ok (.agg #[.int .i64 0, .int .i64 0, .slice none 0 0]) w := by kernel_rfl
theorem run_clear1 (w : World) (ty : TypeId) (g o c : Nat) (hc : ∀ j, j < 3 → (w.cell? ⟨g, o + j, none⟩).isSome = true) (hf : ∀ j, j < 3 → w.frozen? ⟨g, o + j, none⟩ = false) :
    (Builtin.clear_ #[26] ty #[.slice (some ⟨g, o, none⟩) 1 c]).run Try.prog w = .ok (.tuple #[]) (w.setCells g o [.int .i64 0, .int .i64 0, .slice none 0 0]) := by
  have hzc : (Builtin.zeroCells (Value.agg #[.int .i64 0, .int .i64 0, .slice none 0 0]).cells 1).toList = [.int .i64 0, .int .i64 0, .slice none 0 0] := by
    simp [Builtin.zeroCells, Value.cells]
    rfl
  have hst := run_storeCells_cells (P := Try.prog) g o [.int .i64 0, .int .i64 0, .slice none 0 0] 0 w (by simpa using hc) (by simpa using hf) (by simp [Value.oneCell'])
  simp only [Nat.add_zero] at hst
  simp [Builtin.clear_, run_underlying Try.underlying26, hzc, hst]

set_option maxHeartbeats 8000000 in
theorem delete_raw (w : World) (g cap r i : Nat) (cur : Array Value) (h : w.heap[g]? = some (Obj.cells cur 33 (0, 0))) (hs : cur.size = cap * 3) (hq : i + 1 + r ≤ cap) (hcap : cap ≤ maxLen)
    (h1c : ∀ j u, cur[j]? = some u → j < (i + 1 + r) * 3 → u.oneCell' = true) :
    Calls Try.prog 43 #[.slice (some ⟨g, 0, none⟩) (i + 1 + r) cap, .int .i64 i, .int .i64 ((i : Int) + 1)] w fun e w' => e = .returned (.slice (some ⟨g, 0, none⟩) (i + r) cap) ∧
      ∃ cur' : Array Value, w'.heap[g]? = some (Obj.cells cur' 33 (0, 0)) ∧ cur'.size = cur.size ∧ (∀ j, j < (i + r) * 3 → cur'[j]? = if j < i * 3 then cur[j]? else cur[j + 3]?) ∧ Only g w w' := by
  obtain ⟨i0, hi0, hz0, hz1, hz2⟩ := info_parts Try.info33
  unfold maxLen at hcap
  obtain ⟨news, hnews⟩ : ∃ news, (cur.toList.drop ((i + 1) * 3)).take (r * 3) = news := ⟨_, rfl⟩
  have hnl : news.length = r * 3 := by rw [← hnews, List.length_take, List.length_drop]; simp; omega
  have hnat : ∀ j u, news[j]? = some u → cur[(i + 1) * 3 + j]? = some u := fun j u hj => by
    have hlt : j < r * 3 := by rw [← hnl]; exact (List.getElem?_eq_some_iff.1 hj).1
    rw [← hnews, List.getElem?_take_of_lt hlt, List.getElem?_drop] at hj
    simpa using hj
  have hn1 : ∀ u ∈ news, u.oneCell' = true := fun u hu => by
    obtain ⟨j, hj⟩ := List.mem_iff_getElem?.1 hu
    have hlt : j < r * 3 := by rw [← hnl]; exact (List.getElem?_eq_some_iff.1 hj).1
    exact h1c _ u (hnat j u hj) (by omega)
  have hcell : ∀ j, w.drew.cell? ⟨g, j, none⟩ = cur[j]? := fun j => cell_of_row w.drew g j _ 33 (0, 0) h
  have hfz : ∀ j, w.drew.frozen? ⟨g, j, none⟩ = false := fun j => frozen_of_row w.drew g j _ 33 h
  obtain ⟨cur1, k1, k2, k3, k4⟩ := heap_setCells g 33 news w.drew (i * 3) cur h (by omega)
  have hcell1 : ∀ j, (w.drew.setCells g (i * 3) news).cell? ⟨g, j, none⟩ = cur1[j]? := fun j => cell_of_row _ g j _ 33 (0, 0) k1
  have hfz1 : ∀ j, (w.drew.setCells g (i * 3) news).frozen? ⟨g, j, none⟩ = false := fun j => frozen_of_row _ g j _ 33 k1
  have hcl := fun ty c => run_clear1 (w.drew.setCells g (i * 3) news) ty g ((i + r) * 3) c (fun j hj => by rw [hcell1, Array.getElem?_eq_getElem (by omega)]; rfl) (fun j _ => hfz1 _)
  have CELL := Lib.hid hcell
  have FZ := Lib.hid hfz
  have HI := Lib.hid hi0
  have HZ := Lib.hid hz1
  have HNL := Lib.hid hnl
  have HNAT := Lib.hid hnat
  have HN1 := Lib.hid hn1
  clear hi0 hz0 hz1 hz2 h1c hnews hnl hnat hn1 hcell hfz hcell1 hfz1
  have K1 := Lib.hid k1
  have K3 := Lib.hid k3
  have K4 := Lib.hid k4
  clear k1 k3 k4
  have n1 : i ≤ cap := by omega
  have n2 : i + 1 ≤ i + 1 + r := by omega
  have n3 : i + 1 + r - (i + 1) = r := by omega
  have n4 : i + r ≤ i + 1 + r := by omega
  have n5 : i + 1 + r - (i + r) = 1 := by omega
  have i1 : (0 : Int) ≤ (i : Int) := by omega
  have i2 : (i : Int) + 1 ≤ ((i + 1 + r : Nat) : Int) := by omega
  have i3 : ((i + 1 + r : Nat) : Int) ≤ (cap : Int) := by omega
  have j1 : (0 : Int) ≤ (i : Int) + 1 := by omega
  have j2 : (i : Int) + 1 ≤ (i : Int) + 1 + (r : Int) := by omega
  have j3 : (i : Int) + (r : Int) ≤ (i : Int) + 1 + (r : Int) := by omega
  have j4 : ¬ cap = i + r := by omega
  have HE : cap = i + 1 → news = [] := fun e => List.length_eq_zero_iff.1 (by have := HNL.out; omega)
  have HE' := Lib.hid HE
  clear HE
  by_cases hce : cap = i + 1
  · have hr0 : r = 0 := by omega
    subst hr0
    simp only [Nat.add_zero] at hcl
    have hcc := hce
    have HCC := Lib.hid hcc
    clear hcc
    subst hce
    have j5 : (i : Int) ≤ (i : Int) + 1 := by omega
    have j6 : ¬ i + 1 = i := by omega
    go_enter Try.func43, Try.ntmps43
    go_wp2
    go_region_law (refine step_append_room (by rfl) _ _ 26 (by rfl) 33 i0 3 Try.underlying26 HI.out HZ.out _ _ _ _ (by rfl) _ _ _ news (by rfl) HNL.out (by intro j u hj; rw [HE'.out HCC.out] at hj; simp at hj) HN1.out (by omega) (by intro j hj; rw [CELL.out]; have := HNL.out; exact ⟨by rw [Array.getElem?_eq_getElem (by omega)]; rfl, FZ.out _⟩) ?_)
    all_goals
      generalize w.drew.setCells g (i * 3) news = w1 at *
      go_wp2
      go_ret
      obtain ⟨cur2, q1, q2, q3, q4⟩ := heap_setCells g 33 [.int .i64 0, .int .i64 0, .slice none 0 0] w1 ((i + 0) * 3) cur1 K1.out (by simp; omega)
      refine ⟨rfl, cur2, q1, q2.trans k2, fun j hj => ?_, ⟨q4.os.trans K4.out.os, q4.tape.trans K4.out.tape, q4.output.trans K4.out.output, Nat.le_trans K4.out.size q4.size, fun k hk hne => (q4.block k (Nat.lt_of_lt_of_le hk K4.out.size) hne).trans (K4.out.block k hk hne)⟩⟩
      rw [q3, if_neg (by simp; omega), K3.out]
      by_cases e : j < i * 3
      · rw [if_pos e, if_neg (by omega)]
      · rw [if_neg e, if_pos (by have := HNL.out; omega)]
        have hk : j - i * 3 < news.length := by have := HNL.out; omega
        rw [List.getElem?_eq_getElem hk]
        have := HNAT.out (j - i * 3) _ (List.getElem?_eq_getElem hk)
        rw [← this]; congr 1; omega
  go_enter Try.func43, Try.ntmps43
  go_wp2
  go_region_law (refine step_append_room (by rfl) _ _ 26 (by rfl) 33 i0 3 Try.underlying26 HI.out HZ.out _ _ _ _ (by rfl) _ _ _ news (by rfl) HNL.out (by intro j u hj; rw [Addr.add_lit, CELL.out]; exact HNAT.out j u hj) HN1.out (by omega) (by intro j hj; rw [CELL.out]; have := HNL.out; exact ⟨by rw [Array.getElem?_eq_getElem (by omega)]; rfl, FZ.out _⟩) ?_)
  all_goals
    generalize w.drew.setCells g (i * 3) news = w1 at *
    go_wp2
    go_ret
    obtain ⟨cur2, q1, q2, q3, q4⟩ := heap_setCells g 33 [.int .i64 0, .int .i64 0, .slice none 0 0] w1 ((i + r) * 3) cur1 K1.out (by simp; omega)
    refine ⟨rfl, cur2, q1, q2.trans k2, fun j hj => ?_, ⟨q4.os.trans K4.out.os, q4.tape.trans K4.out.tape, q4.output.trans K4.out.output, Nat.le_trans K4.out.size q4.size, fun k hk hne => (q4.block k (Nat.lt_of_lt_of_le hk K4.out.size) hne).trans (K4.out.block k hk hne)⟩⟩
    rw [q3, if_neg (by simp; omega), K3.out]
    by_cases e : j < i * 3
    · rw [if_pos e, if_neg (by omega)]
    · rw [if_neg e, if_pos (by have := HNL.out; omega)]
      have hk : j - i * 3 < news.length := by have := HNL.out; omega
      rw [List.getElem?_eq_getElem hk]
      have := HNAT.out (j - i * 3) _ (List.getElem?_eq_getElem hk)
      rw [← this]; congr 1; omega
end Go.Proofs.Ytambdhoeakddhaa
