/- The walks over slices.AppendSeq, slices.Collect at a watch's iterator, and over Gone. -/
import Derived.Test.YtpiolgpfhplhcaaWalkC
import Derived.RangeFuncLeaves
import Derived.RangeFuncBox
import Derived.Maps.AppendAt
namespace Go.Proofs.Ytpiolgpfhplhcaa
open Go Go.RowKit Go.Shelf
set_option linter.unusedVariables false
attribute [local go_sem] Oper.semAt_some

/-- A new row of the call's own that holds xs; nil just where there is none. -/
def Made (w w' : World) (v : Value) (xs : List Int) : Prop :=
  w'.ownsRow w.heap.size 3 1 v xs.length (xs.map (Value.int .i64)) ∧ (v = .slice none 0 0 ↔ xs = []) ∧ Below w.heap.size w w'

set_option maxHeartbeats 2000000 in
theorem appendSeq_in (w : World) (b s : Nat) (lim : Int) (ss : List Int) (h : WatchAt w b s lim ss) :
    CallsIn Fence.wide 9 Try.prog 26 #[.slice none 0 0, .func (.func 25) #[.pointer (some ⟨b, 0, none⟩)] #[]] w fun e w' => ∃ v, e = .returned v ∧ Made w w' v (goneOf lim ss) := by
  obtain ⟨i0, hi, hz0, hz1, hz2⟩ := info_parts Try.info3
  have hl := h.len2
  refine callsIn_of_wp_marks Try.func26 rfl trivial ?_ rfl
  simp only [Try.ntmps26, List.size_toArray, List.length_cons, List.length_nil, Nat.reduceAdd, Nat.reduceSub, Array.replicate_succ, Array.replicate_zero, List.push_toArray, List.append_toArray, List.nil_append, List.cons_append]
  gi_wp2
  have bO := Boxed.new w 33 (.slice none 0 0)
  have hB0 : Below w.heap.size w (w.alloc (.cells #[.slice none 0 0] 33)) := (Below.refl _ w).alloc (Nat.le_refl _) _
  have hw0 : WatchAt (w.alloc (.cells #[.slice none 0 0] 33)) b s lim ss := h.below hB0 h.ltb h.row.lt
  refine wpIn_range_bound rfl (by omega) (gf := 25) (fs := #[.pointer (some ⟨b, 0, none⟩)]) rfl trivial (enters_of Try.func25 (by kernel_rfl) rfl) (n₀ := w.heap.size) (by simp)
    (gone_seq 8 b s w.heap.size (by omega) lim ss _ hw0 (by simp) h.ltb h.row.lt) (fun _ => rfl)
    (fun pre W => (∃ v, Boxed W w.heap.size 33 v ∧ W.ownsRow w.heap.size 3 1 v pre.length (pre.map (Value.int .i64)) ∧ (v = .slice none 0 0 ↔ pre = [])) ∧ Below w.heap.size w W)
    (fun _ _ _ => False)
    (OwnFrom.and (Own.from (holdsRow_own w.heap.size w.heap.size 33 3 1 (fun pre => pre.length) (fun pre => pre.map (Value.int .i64)) (fun pre v => v = .slice none 0 0 ↔ pre = [])) _) (ownFrom_below (Nat.le_refl _) (by simp)))
    (fun _ _ _ _ _ hs _ _ => hs)
    ⟨⟨_, bO, World.ownsRow_nil _ _ _ _, by simp⟩, hB0⟩
    (fun x => { tmps := #[.slice none 0 0, .func (.func 25) #[.pointer (some ⟨b, 0, none⟩)] #[], .pointer (some ⟨w.heap.size, 0, none⟩), undef, .slice none 0 0, .int .i64 x, .func (.func 25) #[.pointer (some ⟨b, 0, none⟩)] #[], .int .i64 x, undef, undef, undef, undef, undef], defers := [] }) ?assign ?body ?done ?stop
  case assign =>
    intro l x W K hK
    gi_wp2
    exact hK
  case body =>
    rintro l pre x W ⟨⟨v, hv, hrow, hnil⟩, hB⟩ hlen
    have hc := hv.cell
    have hle : w.heap.size ≤ w.heap.size := Nat.le_refl _
    gi_wp2_with (gi_at_builtin; refine wpListIn_append_own _ rfl _ _ 33 rfl w.heap.size 3 i0 (.int .i64 0) 1 8 Try.underlying33 hi hz0 hz1 hz2 rfl (by decide) _ _ _ rfl (hrow.alloc _) ⟨W.heap.size, 0, none⟩ 1 1 [.int .i64 x] rfl rfl (cell_one_new _ _ _) (by simp [Value.oneCell']) (by unfold maxLen; omega) (by omega) (by have := hB.size; simp; omega) ?_; intro v' w1 hown' hgrow _; obtain ⟨g', cap', rfl⟩ := ownsRow_succ hown'; obtain ⟨hv1, hv2, hr2, hk2, hb2⟩ := hv.appended (by decide) hrow hB.size hle hown' hgrow; have hc1 := hv1.cell; have hf1 := hv1.frozen)
    exact ⟨hk2, hb2, ⟨_, hv2, by simpa using hr2, by simp⟩, hB.trans hb2⟩
  case done =>
    rintro D ys W hD rfl ⟨⟨v, hv, hrow, hnil⟩, hB⟩ hK
    have hc := hv.cell
    gi_wp2
    refine ⟨by simp, .inl ⟨_, _, rfl, run_takeDeferred hK, ?_⟩⟩
    exact ⟨_, results_tmp rfl _ _ _, v, rfl, ownsRow_putObj hrow _ hK rfl, hnil, hB.trans (belowK_b (w := w) (Nat.le_refl _) W D _ _ (by simp at hD; omega) hK rfl rfl)⟩
  case stop =>
    rintro D c pre W _ _ hx _
    exact hx.elim

theorem collect_any (w : World) (b s : Nat) (lim : Int) (ss : List Int) (h : WatchAt w b s lim ss) :
    Calls Try.prog 24 #[.func (.func 25) #[.pointer (some ⟨b, 0, none⟩)] #[]] w fun e w' => ∃ v, e = .returned v ∧ Made w w' v (goneOf lim ss) := by
  go_enter Try.func24, Try.ntmps24
  go_wp2_with (go_at_call 26; refine (callsIn_wide.1 (appendSeq_in _ b s lim ss h)).mono ?_; rintro e w' ⟨v, rfl, hm⟩)
  go_ret
  exact ⟨_, rfl, hm⟩

/-- What Gone returns. -/
def GonePost (lim : Int) (ss : List Int) (w : World) (e : Ending) (w' : World) : Prop := ∃ v, e = .returned v ∧ Made w w' v (goneOf lim ss)
theorem gone_any (w : World) (b s : Nat) (lim : Int) (ss : List Int) (h : WatchAt w b s lim ss) :
    Calls Try.prog 18 #[.pointer (some ⟨b, 0, none⟩)] w (GonePost lim ss w) := by
  have hmf : ∀ (fn : Fn) (first cap : Array Value) (w : World), (Instr.makeFunc fn first cap).run Try.prog w = .ok (.func fn first cap) w := fun _ _ _ _ => rfl
  go_enter Try.func18, Try.ntmps18
  go_wp2_with (go_at_call 24; refine (collect_any _ b s lim ss h).mono ?_; rintro e w' ⟨v, rfl, hm⟩)
  go_ret
  exact ⟨_, rfl, hm⟩
end Go.Proofs.Ytpiolgpfhplhcaa
