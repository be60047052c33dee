/- A nil watch's Gone and All; the walk over HeartsKnown. -/
import Derived.Test.YtpiolgpfhplhcaaWalkK
import Derived.Test.YtpiolgpfhplhcaaWalkM
namespace Go.Proofs.Ytpiolgpfhplhcaa
open Go Go.RowKit Go.Shelf
set_option linter.unusedVariables false
attribute [local go_sem] Oper.semAt_some

theorem gone_nil_seq (n n₀ : Nat) (hn : 1 ≤ n) (w : World) : SeqM Fence.wide n Try.prog 25 #[.pointer none] (fun x : Int => #[Value.int .i64 x]) n₀ (fun xs => xs = []) (fun _ => False) 0 w := by
  intro l J Jx W hW hJ hJx hY h0
  refine callsIn_of_wp Try.func25 rfl trivial ?_ rfl
  simp only [Try.ntmps25, List.size_toArray, List.length_cons, List.length_nil, Nat.reduceAdd, Nat.reduceSub, Array.replicate_succ, Array.replicate_zero, List.push_toArray, List.append_toArray, List.nil_append, List.cons_append]
  gi_wp2_with (refine ⟨trivial, ?_⟩; gi_at_call 17; refine (callsIn_wide.2 (members_nil W)).mono ?_; rintro e w' ⟨rfl, rfl⟩)
  gi_loopw [7] (fun i wr => i = .int .i64 0 ∧ J [] wr) (fun _ _ => 0)
  case atStart => exact ⟨rfl, h0⟩
  case round =>
    obtain ⟨rfl, hJs⟩ := hrel
    gi_wp2
    go_end0
    exact ⟨⟨_, rfl⟩, .inl ⟨[], rfl, hJs⟩⟩

set_option maxHeartbeats 2000000 in
theorem appendSeq_nil_in (w : World) :
    CallsIn Fence.wide 9 Try.prog 26 #[.slice none 0 0, .func (.func 25) #[.pointer none] #[]] w fun e w' => e = .returned (.slice none 0 0) ∧ Below w.heap.size w w' := by
  refine callsIn_of_wp_marks Try.func26 rfl trivial ?_ rfl
  simp only [Try.ntmps26, List.size_toArray, List.length_cons, List.length_nil, Nat.reduceAdd, Nat.reduceSub, Array.replicate_succ, Array.replicate_zero, List.push_toArray, List.append_toArray, List.nil_append, List.cons_append]
  gi_wp2
  have bO := Boxed.new w 33 (.slice none 0 0)
  have hB0 : Below w.heap.size w (w.alloc (.cells #[.slice none 0 0] 33)) := (Below.refl _ w).alloc (Nat.le_refl _) _
  have hown : OwnFrom (w.alloc (.cells #[.slice none 0 0] 33)).heap.size (fun (pre : List Int) W => Boxed W w.heap.size 33 (.slice none 0 0) ∧ Below w.heap.size w W) := fun p X Y row ⟨hb, hB⟩ hg hr =>
    ⟨hb.kept hg (fun e => by have := (hr _ e.symm).1; simp at this; omega), hB.grown hg hB.size (fun k e => by have := (hr _ e).1; simp at this; omega)⟩
  refine wpIn_range_bound rfl (by omega) (gf := 25) (fs := #[.pointer none]) rfl trivial (enters_of Try.func25 (by kernel_rfl) rfl) (n₀ := w.heap.size) (by simp)
    (gone_nil_seq 8 w.heap.size (by omega) _) (fun _ => rfl)
    (fun pre W => Boxed W w.heap.size 33 (.slice none 0 0) ∧ Below w.heap.size w W)
    (fun _ _ _ => False)
    hown
    (fun _ _ _ _ _ hs _ _ => hs)
    ⟨bO, hB0⟩
    (fun x => { tmps := #[.slice none 0 0, .func (.func 25) #[.pointer none] #[], .pointer (some ⟨w.heap.size, 0, none⟩), undef, .slice none 0 0, .int .i64 x, .func (.func 25) #[.pointer none] #[], .int .i64 x, undef, undef, undef, undef, undef], defers := [] }) ?assign ?body ?done ?stop
  case assign =>
    intro l x W K hK
    gi_wp2
    exact hK
  case body =>
    rintro l pre x W _ hlen
    omega
  case done =>
    rintro D ys W hD rfl ⟨hv, hB⟩ hK
    have hc := hv.cell
    gi_wp2
    refine ⟨by simp, .inl ⟨_, _, rfl, run_takeDeferred hK, ?_⟩⟩
    exact ⟨_, results_tmp rfl _ _ _, rfl, hB.trans (belowK_b (w := w) (Nat.le_refl _) W D _ _ (by simp at hD; omega) hK rfl rfl)⟩
  case stop =>
    rintro D c pre W _ h _ _
    exact h.elim

theorem collect_nil (w : World) :
    Calls Try.prog 24 #[.func (.func 25) #[.pointer none] #[]] w fun e w' => e = .returned (.slice none 0 0) ∧ Below w.heap.size w w' := by
  go_enter Try.func24, Try.ntmps24
  go_wp2_with (go_at_call 26; refine (callsIn_wide.1 (appendSeq_nil_in _)).mono ?_; rintro e w' ⟨rfl, hm⟩)
  go_ret
  exact ⟨rfl, hm⟩
theorem gone_nil (w : World) : Calls Try.prog 18 #[.pointer none] w fun e w' => e = .returned (.slice none 0 0) ∧ Below w.heap.size w w' := by
  have hmf : ∀ (fn : Fn) (first cap : Array Value) (w : World), (Instr.makeFunc fn first cap).run Try.prog w = .ok (.func fn first cap) w := fun _ _ _ _ => rfl
  go_enter Try.func18, Try.ntmps18
  go_wp2_with (go_at_call 24; refine (collect_nil _).mono ?_; rintro e w' ⟨rfl, hm⟩)
  go_ret
  exact ⟨rfl, hm⟩

set_option maxHeartbeats 2000000 in
theorem all_nil_in (w : World) :
    CallsIn Fence.wide 9 Try.prog 20 #[.pointer none] w fun e w' => e = .returned (.bool false) ∧ Below w.heap.size w w' := by
  have hmf : ∀ (fn : Fn) (first cap : Array Value) (w : World), (Instr.makeFunc fn first cap).run Try.prog w = .ok (.func fn first cap) w := fun _ _ _ _ => rfl
  refine callsIn_of_wp_marks Try.func20 rfl trivial ?_ rfl
  simp only [Try.ntmps20, List.size_toArray, List.length_cons, List.length_nil, Nat.reduceAdd, Nat.reduceSub, Array.replicate_succ, Array.replicate_zero, List.push_toArray, List.append_toArray, List.nil_append, List.cons_append]
  gi_wp2
  have bO := Boxed.new w 4 (.bool false)
  have hB0 : Below w.heap.size w (w.alloc (.cells #[.bool false] 4)) := (Below.refl _ w).alloc (Nat.le_refl _) _
  have hown : OwnFrom (w.alloc (.cells #[.bool false] 4)).heap.size (fun (pre : List Int) W => Boxed W w.heap.size 4 (.bool false) ∧ Below w.heap.size w W) := fun p X Y row ⟨hb, hB⟩ hg hr =>
    ⟨hb.kept hg (fun e => by have := (hr _ e.symm).1; simp at this; omega), hB.grown hg hB.size (fun k e => by have := (hr _ e).1; simp at this; omega)⟩
  refine wpIn_range_bound rfl (by omega) (gf := 25) (fs := #[.pointer none]) rfl trivial (enters_of Try.func25 (by kernel_rfl) rfl) (n₀ := w.heap.size) (by simp)
    (gone_nil_seq 8 w.heap.size (by omega) _) (fun _ => rfl)
    (fun pre W => Boxed W w.heap.size 4 (.bool false) ∧ Below w.heap.size w W)
    (fun _ _ _ => False)
    hown
    (fun _ _ _ _ _ hs _ _ => hs)
    ⟨bO, hB0⟩
    (fun x => { tmps := #[.pointer none, undef, .pointer (some ⟨w.heap.size, 0, none⟩), .pointer none, .func (.func 25) #[.pointer none] #[], .int .i64 x, undef, undef], defers := [] }) ?assign ?body ?done ?stop
  case assign =>
    intro l x W K hK
    gi_wp2
    simpa using hK
  case body =>
    rintro l pre x W _ hlen
    omega
  case done =>
    rintro D ys W hD rfl ⟨hv, hB⟩ hK
    have hc := hv.cell
    have hf := hv.frozen
    gi_wp2
    have hK' := (KeepsOthers.setCell W ⟨w.heap.size, 0, none⟩ (.bool false)).same D _ hK rfl
    refine ⟨by simp, .inl ⟨_, _, rfl, run_takeDeferred hK', ?_⟩⟩
    have hc5 := cell_kept (World.cell?_setCell_same' W ⟨w.heap.size, 0, none⟩ (.bool false) (by rw [hc]; rfl)) (grownBy_putObj' _ D (.deferred none)) (fun r e => by cases e; exact ⟨_, hK', rfl⟩)
    have hb5 : Below w.heap.size w ((W.setCell ⟨w.heap.size, 0, none⟩ (.bool false)).putObj D (.deferred none)) := (hB.setCell (Nat.le_refl _) _).trans (belowK_b (w := w) (Nat.le_refl _) _ D _ _ (by simp at hD; omega) hK' rfl rfl)
    refine ⟨.bool false, ?_, rfl, hb5⟩
    simp [results, Try.f20, go_sem, hc5]
  case stop =>
    rintro D c pre W _ h _ _
    exact h.elim
theorem all_nil (w : World) : Calls Try.prog 20 #[.pointer none] w fun e w' => e = .returned (.bool false) ∧ Below w.heap.size w w' := callsIn_wide.1 (all_nil_in w)
end Go.Proofs.Ytpiolgpfhplhcaa
