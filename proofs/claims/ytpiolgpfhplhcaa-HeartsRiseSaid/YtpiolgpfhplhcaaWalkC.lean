/- The walk over gone, the iterator of those that are gone: it reads the watch between two rounds. -/
import Derived.Test.YtpiolgpfhplhcaaWalkB
import Derived.Test.YtpiolgpfhplhcaaRangeM
import Derived.RangeFuncCalls
import Derived.Deep.QuietTactic
import Derived.BigQuiet
import Derived.Shelf.Abstract
import Derived.Shelf.RegionOpen
import Derived.OwnWalkIn
import Derived.TacticsInMore
import Derived.LoopNIn
import Derived.LoopIn
namespace Go.Proofs.Ytpiolgpfhplhcaa
open Go Go.RowKit Go.Shelf
set_option linter.unusedVariables false
attribute [local go_sem] Oper.semAt_some

/-- Those of the first k members that are gone, rising. -/
def goneUp (lim : Int) (ss : List Int) (k : Nat) : List Int := ((List.range k).filter fun i => decide (lim < ss.getD i 0)).map fun (i : Nat) => (i : Int)
theorem goneUp_succ_yes {lim : Int} {ss : List Int} {k : Nat} (h : lim < ss.getD k 0) : goneUp lim ss (k + 1) = goneUp lim ss k ++ [(k : Int)] := by
  unfold goneUp; rw [List.range_succ, List.filter_append, List.map_append, List.filter_cons, if_pos (decide_eq_true h)]; rfl
theorem goneUp_succ_no {lim : Int} {ss : List Int} {k : Nat} (h : ss.getD k 0 ≤ lim) : goneUp lim ss (k + 1) = goneUp lim ss k := by
  unfold goneUp; rw [List.range_succ, List.filter_append, List.map_append, List.filter_cons, if_neg (by simp only [decide_eq_true_eq]; omega)]; simp
theorem goneUp_len (lim : Int) (ss : List Int) (k : Nat) : (goneUp lim ss k).length ≤ k := by
  unfold goneUp; rw [List.length_map]
  exact Nat.le_trans (List.length_filter_le _ _) (by simp)
def goneOf (lim : Int) (ss : List Int) : List Int := goneUp lim ss ss.length

theorem WatchAt.below {w w' : World} {b s : Nat} {lim : Int} {ss : List Int} (h : WatchAt w b s lim ss) {n₀ : Nat} (hb : Below n₀ w w') (h1 : b < n₀) (h2 : s < n₀) : WatchAt w' b s lim ss :=
  ⟨(hb.block b h1).trans h.head, h.row.of_below hb h2, h.len1, h.len2⟩

set_option maxHeartbeats 1000000 in
theorem gone_in (n : Nat) (hn : 1 ≤ n) (l b s n₀ : Nat) (lim : Int) (ss : List Int) (hb : b < n₀) (hs : s < n₀) (J Jx : List Int → World → Prop)
    (hJ : ∀ p X, J p X → J p X.drew) (hJN : ∀ p X q, J p X → J p (X.drewN q))
    (hY : ∀ pre x W, J pre W → pre.length < ss.length → YieldAt Fence.wide (n - 1) Try.prog l #[.int .i64 x] W fun e W' =>
      (e = .returned (.bool true) ∧ J (pre ++ [x]) W' ∧ Below n₀ W W') ∨ (e = .returned (.bool false) ∧ Jx (pre ++ [x]) W'))
    (W : World) (hW : WatchAt W b s lim ss) (h0 : J [] W) :
    CallsIn Fence.wide n Try.prog 25 #[.pointer (some ⟨b, 0, none⟩), .func (.yield l) #[] #[]] W fun e W' => (∃ v, e = .returned v) ∧
      (J (goneOf lim ss) W' ∨ (∃ k, k ≤ ss.length ∧ Jx (goneUp lim ss k) W')) := by
  refine callsIn_of_wp Try.func25 rfl trivial ?_ rfl
  simp only [Try.ntmps25, List.size_toArray, List.length_cons, List.length_nil, Nat.reduceAdd, Nat.reduceSub, Array.replicate_succ, Array.replicate_zero, List.push_toArray, List.append_toArray, List.nil_append, List.cons_append]
  have hl := hW.len2
  gi_wp2_with (refine ⟨trivial, ?_⟩; gi_at_call 17; refine (callsIn_wide.2 (members_any _ b s lim ss hW)).mono ?_; rintro e w' ⟨rfl, rfl⟩)
  gi_loopw [7] (fun i wr => ∃ k : Nat, k ≤ ss.length ∧ i = .int .i64 k ∧ WatchAt wr b s lim ss ∧ J (goneUp lim ss k) wr) (fun i _ => ss.length - (intOf i).toNat)
  case atStart => exact ⟨0, by omega, rfl, hW, h0⟩
  case round =>
    clear hW h0
    obtain ⟨k, hk, rfl, hw, hj⟩ := hrel
    by_cases hlt : k < ss.length
    · have hc0 := hw.c0
      have hc := hw.c1
      have hr := hw.row.cell k hlt
      have hyes := fun h => goneUp_succ_yes (lim := lim) (ss := ss) (k := k) h
      have hno := fun h => goneUp_succ_no (lim := lim) (ss := ss) (k := k) h
      have HYES := Lib.hid hyes
      have HNO := Lib.hid hno
      clear hyes hno
      have hgl := goneUp_len lim ss k
      generalize ss.getD k 0 = x at *
      have k0 : (0 : Int) ≤ (k : Int) := by omega
      have k1 : (k : Int) < (ss.length : Int) := by omega
      by_cases hx : lim < x
      · obtain ⟨fn, tmps, assign, body, hy, hR⟩ := hY _ (k : Int) wr.drew (hJ _ _ hj) (by omega)
        have hR' := hR.mono (R' := fun e W' => ∃ r : Bool, e = .returned (.bool r) ∧ ((r = true ∧ J (goneUp lim ss (k + 1)) W' ∧ Below n₀ wr.drew W') ∨ (r = false ∧ Jx (goneUp lim ss (k + 1)) W'))) (by
          rintro e W' (⟨rfl, h1, h2⟩ | ⟨rfl, h1⟩)
          · exact ⟨true, rfl, .inl ⟨rfl, by rw [HYES.out hx]; exact h1, h2⟩⟩
          · exact ⟨false, rfl, .inr ⟨rfl, by rw [HYES.out hx]; exact h1⟩⟩)
        clear hR
        gi_wp2
        gi_region_with ((refine hR'.mono ?_; rintro e W2 ⟨r, rfl, hO⟩))
        all_goals
          rcases hO with ⟨rfl, h1, h2⟩ | ⟨rfl, h1⟩
          · gi_wp2
            go_roundw
            case rel => exact ⟨k + 1, by omega, by go_num, hw.drew.below h2 hb hs, h1⟩
            case measure => simp [intOf]; omega
          · gi_wp2
            refine bodyPost_ret (results_none rfl _ _ _) rfl ?_
            exact ⟨⟨_, rfl⟩, .inr ⟨k + 1, by omega, h1⟩⟩
      · have hx : x ≤ lim := by omega
        have hx' : decide (lim < x) = false := by simp; omega
        gi_wp2
        refine wpIn_wide.2 ?_
        go_quiet (fail)
        have hw' : WatchAt (wr.drewN nq) b s lim ss := ⟨hw.head, hw.row, hw.len1, hw.len2⟩
        have hj' : J (goneUp lim ss (k + 1)) (wr.drewN nq) := by rw [HNO.out hx]; exact hJN _ _ _ hj
        gi_wp2
        go_roundw
        case rel => exact ⟨k + 1, by omega, by go_num, hw', hj'⟩
        case measure => simp [intOf]; omega
    · obtain rfl : k = ss.length := by omega
      gi_wp2
      go_end0
      exact ⟨⟨_, rfl⟩, .inl hj⟩

theorem gone_seq (n b s n₀ : Nat) (hn : 1 ≤ n) (lim : Int) (ss : List Int) (w : World) (h : WatchAt w b s lim ss) (hn₀ : n₀ ≤ w.heap.size) (hb : b < n₀) (hs : s < n₀) :
    SeqM Fence.wide n Try.prog 25 #[.pointer (some ⟨b, 0, none⟩)] (fun x : Int => #[Value.int .i64 x]) n₀ (fun xs => xs = goneOf lim ss) (fun pre => ∃ k, k ≤ ss.length ∧ pre = goneUp lim ss k) ss.length w := by
  intro l J Jx W hW hJ hJx hY h0
  have hg : ∀ X : World, X.grownBy X.drew none := fun X => ⟨rfl, rfl, rfl, Nat.le_refl _, fun _ _ _ => rfl⟩
  refine (gone_in n hn l b s n₀ lim ss hb hs J Jx (fun p X hp => hJ p X _ none hp (hg X) (fun r e => by cases e)) (fun p X q hp => hJ p X _ none hp ⟨rfl, rfl, rfl, Nat.le_refl _, fun _ _ _ => rfl⟩ (fun r e => by cases e)) hY W (h.below (hW.mono hn₀) hb hs) h0).mono ?_
  rintro e W' ⟨he, h1 | ⟨k, hk, h1⟩⟩
  · exact ⟨he, .inl ⟨_, rfl, h1⟩⟩
  · exact ⟨he, .inr ⟨_, ⟨k, hk, rfl⟩, h1⟩⟩
end Go.Proofs.Ytpiolgpfhplhcaa
