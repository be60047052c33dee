/- The walks over bytes.Clone at bytes that can be read, and over again. -/
import Derived.Test.YtambdhoeakddhaaWalkC
import Derived.Test.YtambdhoeakddhaaShelf
import Derived.Deep.RegionHeld3
import Derived.Deep.Onto
namespace Go.Proofs.Ytambdhoeakddhaa
open Go Go.RowKit Go.Conc
set_option linter.unusedVariables false

/-- The bytes xs can be read there. -/
def BAt (w : World) (a : Option Addr) (len : Nat) (xs : List Int) : Prop :=
  xs.length = len ∧ len ≤ 140737488355328 ∧ ((a = none ∧ len = 0) ∨ ∃ x, a = some x ∧ ∀ i, i < len → w.cell? (x.add i) = some (.int .u8 (xs.getD i 0)))
/-- A message's own bytes. -/
def POwn (w : World) (base : Nat) (a : Option Addr) (len cap : Nat) (xs : List Int) : Prop :=
  len ≤ 140737488355328 ∧ w.ownsRow base 5 1 (.slice a len cap) len (xs.map (Value.int .u8))
theorem POwn.reads {w : World} {base : Nat} {a : Option Addr} {len cap : Nat} {xs : List Int} (h : POwn w base a len cap xs) : BAt w a len xs := by
  obtain ⟨hb, hl, h⟩ := h
  have hxl : xs.length = len := by simpa using hl
  refine ⟨hxl, hb, ?_⟩
  rcases h with ⟨hv, hn⟩ | ⟨g, c, cur, hv, _, hg, _, _, _, htake⟩
  · simp only [Value.slice.injEq] at hv
    exact .inl ⟨hv.1, hn⟩
  · simp only [Value.slice.injEq] at hv
    refine .inr ⟨⟨g, 0, none⟩, hv.1, fun i hi => ?_⟩
    have ha : (⟨g, 0, none⟩ : Addr).add i = ⟨g, i, none⟩ := by unfold Addr.add; split <;> simp_all
    rw [ha, cell_of_row w g i _ 5 (0, 0) hg]
    have : cur.toList[i]? = some (.int .u8 (xs.getD i 0)) := by
      have e : (cur.toList.take (len * 1))[i]? = cur.toList[i]? := by rw [List.getElem?_take_of_lt (by omega)]
      rw [← e, htake]; simp [hxl, hi]
    simpa using this
theorem POwn.same {w w' : World} {base : Nat} {a : Option Addr} {len cap : Nat} {xs : List Int} (h : POwn w base a len cap xs) (hk : ∀ (g : Nat) (cur : Array Value), w.heap[g]? = some (Obj.cells cur 5 (0, 0)) → w'.heap[g]? = w.heap[g]?) : POwn w' base a len cap xs :=
  ⟨h.1, owns_same h.2 fun g cur _ h2 => hk g cur h2⟩
theorem BAt.kept {w w' : World} {a : Option Addr} {len : Nat} {xs : List Int} (h : BAt w a len xs) (hb : Below w.heap.size w w') : BAt w' a len xs := by
  obtain ⟨h1, h2, h3⟩ := h
  refine ⟨h1, h2, h3.imp id ?_⟩
  rintro ⟨x, rfl, hx⟩
  exact ⟨x, rfl, fun i hi => (hb.cell (World.block_lt_of_cell? w _ (hx i hi))).trans (hx i hi)⟩

theorem clone_any (w : World) (a : Option Addr) (len cap : Nat) (xs : List Int) (h : BAt w a len xs) :
    Calls Try.prog 44 #[.slice a len cap] w fun e w' => ∃ a' cap', e = .returned (.slice a' len cap') ∧ POwn w' w.heap.size a' len cap' xs ∧ Below w.heap.size w w' := by
  obtain ⟨hl, hb, h | ⟨x, rfl, hx⟩⟩ := h
  · obtain ⟨rfl, rfl⟩ := h
    refine (Try.bytes_Clone_nil 0 cap w).mono ?_
    rintro e w' ⟨rfl, rfl⟩
    have : xs = [] := List.length_eq_zero_iff.1 hl
    subst this
    exact ⟨none, 0, rfl, ⟨by omega, by simp, .inl ⟨rfl, rfl⟩⟩, Below.refl _ _⟩
  · refine (Try.bytes_Clone_at x len cap xs w hl hb hx).mono ?_
    rintro e w' ⟨v', rfl, ho, hne, hB⟩
    have ho' := ho
    obtain ⟨_, ⟨hv, _⟩ | ⟨g, c, cur, rfl, _⟩⟩ := ho'
    · exact absurd hv hne
    · exact ⟨_, _, rfl, ⟨hb, ho⟩, hB⟩

set_option maxHeartbeats 2000000 in
theorem again_any (w : World) (p : PV) (xs : List Int) (h : BAt w p.a p.len xs) :
    Calls Try.prog 34 #[pagg p] w fun e w' => ∃ a' cap', e = .returned (pagg ⟨p.src, p.dst, a', p.len, cap'⟩) ∧ POwn w' w.heap.size a' p.len cap' xs ∧ Below w.heap.size w w' := by
  have B1 : Below w.heap.size w ((w.alloc (.cells #[.int .i64 p.src, .int .i64 p.dst, .slice p.a p.len p.cap] 33)).alloc (.cells #[.int .i64 0, .int .i64 0, .slice none 0 0] 33)) :=
    ((Below.refl _ _).alloc (Nat.le_refl _) _).alloc (by simp) _
  have t1 : Tri ((w.alloc (.cells #[.int .i64 p.src, .int .i64 p.dst, .slice p.a p.len p.cap] 33)).alloc (.cells #[.int .i64 0, .int .i64 0, .slice none 0 0] 33)) w.heap.size (.int .i64 p.src) (.int .i64 p.dst) (.slice p.a p.len p.cap) :=
    tri (by rw [Below.heap_alloc _ _ _ (by simp)]; exact heap_alloc_new _ _)
  have t2 : Tri ((w.alloc (.cells #[.int .i64 p.src, .int .i64 p.dst, .slice p.a p.len p.cap] 33)).alloc (.cells #[.int .i64 0, .int .i64 0, .slice none 0 0] 33)) (w.heap.size + 1) (.int .i64 0) (.int .i64 0) (.slice none 0 0) :=
    tri (by have := heap_alloc_new (w.alloc (.cells #[.int .i64 p.src, .int .i64 p.dst, .slice p.a p.len p.cap] 33)) (.cells #[.int .i64 0, .int .i64 0, .slice none 0 0] 33); simpa only [World.size_alloc] using this)
  have hz : ((w.alloc (.cells #[.int .i64 p.src, .int .i64 p.dst, .slice p.a p.len p.cap] 33)).alloc (.cells #[.int .i64 0, .int .i64 0, .slice none 0 0] 33)).heap.size = w.heap.size + 2 := by simp
  have hBA := h.kept B1
  unfold pagg
  go_enter Try.func34, Try.ntmps34
  go_wp2
  generalize (w.alloc (.cells #[.int .i64 p.src, .int .i64 p.dst, .slice p.a p.len p.cap] 33)).alloc (.cells #[.int .i64 0, .int .i64 0, .slice none 0 0] 33) = w1 at *
  have HBA : BAt w1.drew p.a p.len xs := hBA
  obtain ⟨k1, a10, a11, a12, b10, b11, b12⟩ := t1
  have k2 := t2.blk
  obtain ⟨_, a20, a21, a22, b20, b21, b22⟩ := t2
  have HH := Lib.hid HBA
  clear hBA HBA h
  have HF : ∀ (w2 : World) (a' : Option Addr) (c' : Nat), POwn w2 w1.heap.size a' p.len c' xs → Below w1.heap.size w1 w2 →
      POwn (put3 w2 (w.heap.size + 1) ⟨p.src, p.dst, a', p.len, c'⟩) w.heap.size a' p.len c' xs ∧ Below w.heap.size w (put3 w2 (w.heap.size + 1) ⟨p.src, p.dst, a', p.len, c'⟩) := fun w2 a' c' ho hb => by
    have hk := (hb.block (w.heap.size + 1) (by omega)).trans k2
    have hp := only_put3 w2 (w.heap.size + 1) ⟨p.src, p.dst, a', p.len, c'⟩
    refine ⟨?_, ?_⟩
    · refine POwn.same (w := w2) ⟨ho.1, ho.2.mono (by omega)⟩ fun g cur hg => hp.block g (block_lt hg) (fun e => ?_)
      have e := Option.some.inj e
      subst e; rw [hk] at hg; cases hg
    · exact (B1.trans (hb.mono (by omega))).trans ⟨hp.os, hp.tape, hp.output, hp.size, fun k hk' => hp.block k (by have := hb.size; omega) (fun e => by have := Option.some.inj e; omega)⟩
  have HF' := Lib.hid HF
  have hr : (Try.prog.info? 33).map (·.size) = some 3 := by kernel_rfl
  have HR := Lib.hid hr
  clear HF hr
  go_region_held3 (fun w' => w'.cell? ⟨w.heap.size, 0, none⟩ = some (.int .i64 p.src) ∧ w'.cell? ⟨w.heap.size, 1, none⟩ = some (.int .i64 p.dst) ∧ w'.cell? ⟨w.heap.size, 2, none⟩ = some (.slice p.a p.len p.cap)) (go_keep) ((go_at_call 44; refine (clone_any w1.drew p.a p.len p.cap xs HH.out).mono ?_; rintro e w2 ⟨a', c', rfl, hown, hB2⟩; have e0 := (hB2.cell (p := ⟨w.heap.size, 0, none⟩) (show w.heap.size < w1.heap.size by omega)).trans a10; have e1 := (hB2.cell (p := ⟨w.heap.size, 1, none⟩) (show w.heap.size < w1.heap.size by omega)).trans a11; have e2 := (hB2.cell (p := ⟨w.heap.size, 2, none⟩) (show w.heap.size < w1.heap.size by omega)).trans a12; have t3 := tri ((hB2.block (w.heap.size + 1) (show w.heap.size + 1 < w1.heap.size by omega)).trans k2); have t4 := t3.s0 (.int .i64 p.src); have t5 := t4.s1 (.int .i64 p.dst); have t6 := t5.s2 (.slice a' p.len c'); have k6 := t6.blk; obtain ⟨_, a30, a31, a32, b30, b31, b32⟩ := t3; obtain ⟨_, a40, a41, a42, b40, b41, b42⟩ := t4; obtain ⟨_, a50, a51, a52, b50, b51, b52⟩ := t5; clear t6))
  all_goals
    have hfin := HF'.out w2 a' c' hown ((Below.refl w1.heap.size w1).drew.trans hB2)
    simp only [put3] at hfin
    have HFI := Lib.hid hfin
    clear hfin
    go_wp2
    have hfin := HFI.out
    exact ⟨rfl, _, results_cell_row rfl _ _ (w.heap.size + 1) 33 #[.int .i64 p.src, .int .i64 p.dst, .slice a' p.len c'] (0, 0) _ rfl k6 Try.underlying33 rfl (by rw [HR.out]; rfl), a', c', rfl, hfin.1, hfin.2⟩
end Go.Proofs.Ytambdhoeakddhaa
