/- The walks over All, and over a nil watch's Gone and All. -/
import Derived.Test.YtpiolgpfhplhcaaWalkD
namespace Go.Proofs.Ytpiolgpfhplhcaa
open Go Go.RowKit Go.Shelf
set_option linter.unusedVariables false
attribute [local go_sem] Oper.semAt_some

theorem goneUp_prefix (lim : Int) (ss : List Int) (k : Nat) (hk : k ≤ ss.length) (h : goneUp lim ss k ≠ []) : goneOf lim ss ≠ [] := by
  obtain ⟨d, hd⟩ : ∃ d, ss.length = k + d := ⟨ss.length - k, by omega⟩
  unfold goneOf; rw [hd]
  clear hd hk
  induction d with
  | zero => exact h
  | succ d ih =>
    rw [← Nat.add_assoc]
    by_cases g : lim < ss.getD (k + d) 0
    · rw [goneUp_succ_yes g]; simp
    · rw [goneUp_succ_no (by omega)]; exact ih

/-- What All returns. -/
def AllPost (lim : Int) (ss : List Int) (w : World) (e : Ending) (w' : World) : Prop := e = .returned (.bool (goneOf lim ss).isEmpty) ∧ Below w.heap.size w w'
theorem allPost_yes {lim : Int} {ss : List Int} {w w' : World} (h : goneOf lim ss = []) (hb : Below w.heap.size w w') : AllPost lim ss w (.returned (.bool true)) w' := ⟨by rw [h]; rfl, hb⟩
theorem allPost_no {lim : Int} {ss : List Int} {w w' : World} (h : goneOf lim ss ≠ []) (hb : Below w.heap.size w w') : AllPost lim ss w (.returned (.bool false)) w' := ⟨by
  cases hg : goneOf lim ss with
  | nil => exact absurd hg h
  | cons a l => rfl, hb⟩

set_option maxHeartbeats 2000000 in
theorem all_in (w : World) (b s : Nat) (lim : Int) (ss : List Int) (h : WatchAt w b s lim ss) :
    CallsIn Fence.wide 9 Try.prog 20 #[.pointer (some ⟨b, 0, none⟩)] w (AllPost lim ss w) := by
  have hmf : ∀ (fn : Fn) (first cap : Array Value) (w : World), (Instr.makeFunc fn first cap).run Try.prog w = .ok (.func fn first cap) w := fun _ _ _ _ => rfl
  refine callsIn_of_wp_marks Try.func20 rfl trivial ?_ rfl
  simp only [Try.ntmps20, List.size_toArray, List.length_cons, List.length_nil, Nat.reduceAdd, Nat.reduceSub, Array.replicate_succ, Array.replicate_zero, List.push_toArray, List.append_toArray, List.nil_append, List.cons_append]
  gi_wp2
  have bO := Boxed.new w 4 (.bool false)
  have hB0 : Below w.heap.size w (w.alloc (.cells #[.bool false] 4)) := (Below.refl _ w).alloc (Nat.le_refl _) _
  have hw0 : WatchAt (w.alloc (.cells #[.bool false] 4)) b s lim ss := h.below hB0 h.ltb h.row.lt
  have hown : ∀ (T : List Int → Prop), OwnFrom (w.alloc (.cells #[.bool false] 4)).heap.size (fun pre W => T pre ∧ Boxed W w.heap.size 4 (.bool false) ∧ Below w.heap.size w W) := fun T p X Y row ⟨hp, hb, hB⟩ hg hr =>
    ⟨hp, hb.kept hg (fun e => by have := (hr _ e.symm).1; simp at this; omega), hB.grown hg hB.size (fun k e => by have := (hr _ e).1; simp at this; omega)⟩
  refine wpIn_range_bound rfl (by omega) (gf := 25) (fs := #[.pointer (some ⟨b, 0, none⟩)]) rfl trivial (enters_of Try.func25 (by kernel_rfl) rfl) (n₀ := w.heap.size) (by simp)
    (gone_seq 8 b s w.heap.size (by omega) lim ss _ hw0 (by simp) h.ltb h.row.lt) (fun _ => rfl)
    (fun pre W => pre = [] ∧ Boxed W w.heap.size 4 (.bool false) ∧ Below w.heap.size w W)
    (fun c pre W => (c = .ret ∧ pre ≠ []) ∧ Boxed W w.heap.size 4 (.bool false) ∧ Below w.heap.size w W)
    (hown _) (fun c => hown _)
    ⟨rfl, bO, hB0⟩
    (fun x => { tmps := #[.pointer (some ⟨b, 0, none⟩), undef, .pointer (some ⟨w.heap.size, 0, none⟩), .pointer (some ⟨b, 0, none⟩), .func (.func 25) #[.pointer (some ⟨b, 0, none⟩)] #[], .int .i64 x, undef, undef], defers := [] }) ?assign ?body ?done ?stop
  case assign =>
    intro l x W K hK
    gi_wp2
    simpa using hK
  case body =>
    rintro l pre x W ⟨rfl, hv, hB⟩ hlen
    have hc := hv.cell
    have hf := hv.frozen
    gi_wp2
    exact ⟨KeepsOthers.setCell _ _ _, ⟨rfl, by simp⟩, hv.set _, hB.setCell (Nat.le_refl _) _⟩
  case done =>
    rintro D ys W hD rfl ⟨he, hv, hB⟩ hK
    have hc := hv.cell
    have hf := hv.frozen
    have HE := Lib.hid he
    clear he
    gi_wp2
    have hK' := (KeepsOthers.setCell W ⟨w.heap.size, 0, none⟩ (.bool true)).same D _ hK rfl
    refine ⟨by simp, .inl ⟨_, _, rfl, run_takeDeferred hK', ?_⟩⟩
    have hc5 := cell_kept (World.cell?_setCell_same' W ⟨w.heap.size, 0, none⟩ (.bool true) (by rw [hc]; rfl)) (grownBy_putObj' _ D (.deferred none)) (fun r e => by cases e; exact ⟨_, hK', rfl⟩)
    have hb5 : Below w.heap.size w ((W.setCell ⟨w.heap.size, 0, none⟩ (.bool true)).putObj D (.deferred none)) := (hB.setCell (Nat.le_refl _) _).trans (belowK_b (w := w) (Nat.le_refl _) _ D _ _ (by simp at hD; omega) hK' rfl rfl)
    refine ⟨.bool true, ?_, allPost_yes HE.out hb5⟩
    simp [results, Try.f20, go_sem, hc5]
  case stop =>
    rintro D c pre W hD ⟨k, hk, rfl⟩ ⟨⟨rfl, hne⟩, hv, hB⟩ hK
    have hne' := goneUp_prefix lim ss k hk hne
    have hc := hv.cell
    have hf := hv.frozen
    gi_wp2
    refine ⟨by simp, .inl ⟨_, _, rfl, run_takeDeferred hK, ?_⟩⟩
    have hc5 := cell_kept hc (grownBy_putObj' _ D (.deferred none)) (fun r e => by cases e; exact ⟨_, hK, rfl⟩)
    have hb5 : Below w.heap.size w (W.putObj D (.deferred none)) := hB.trans (belowK_b (w := w) (Nat.le_refl _) _ D _ _ (by simp at hD; omega) hK rfl rfl)
    refine ⟨.bool false, ?_, allPost_no hne' hb5⟩
    simp [results, Try.f20, go_sem, hc5]

theorem all_any (w : World) (b s : Nat) (lim : Int) (ss : List Int) (h : WatchAt w b s lim ss) :
    Calls Try.prog 20 #[.pointer (some ⟨b, 0, none⟩)] w (AllPost lim ss w) := callsIn_wide.1 (all_in w b s lim ss h)
end Go.Proofs.Ytpiolgpfhplhcaa
