/- The walk over HeartsPlays. -/
import Derived.Test.YtpiolgpfhplhcaaWalkI
namespace Go.Proofs.Ytpiolgpfhplhcaa
open Go Go.RowKit
set_option linter.unusedVariables false

/-- A row of calls that came in: kinds and numbers. -/
structure CallRow (w : World) (a : Option Addr) (n : Nat) (K N : Nat → Int) : Prop where
  cells : 0 < n → ∃ b off, a = some ⟨b, off, none⟩ ∧ b < w.heap.size ∧ ∀ k, k < n → w.cell? ⟨b, off + k * 2, none⟩ = some (.int .u8 (K k)) ∧ w.cell? ⟨b, off + k * 2 + 1, none⟩ = some (.int .i64 (N k))
  kinds : ∀ k, 0 ≤ K k ∧ K k ≤ 255
  nums : ∀ k, -9223372036854775808 ≤ N k ∧ N k ≤ 9223372036854775807

/-! ### What the calls do, in plain numbers -/
theorem ext_getD (a b : List Int) (hl : a.length = b.length) (h : ∀ j, j < a.length → a.getD j 0 = b.getD j 0) : a = b := by
  apply List.ext_getElem hl
  intro i h1 h2
  have := h i h1
  simpa [h1, h2] using this

theorem ago_hear {now : Int} {ls D : List Int} (h : D = agoOf now ls) (i : Int) : hearF D i = agoOf now (refHearF ls now i) := by
  have hl : D.length = ls.length := by rw [h, agoOf_len]
  unfold hearF refHearF
  rw [hl]
  split
  · apply ext_getD
    · simp [agoOf_len, hl]
    · intro j hj
      have hj : j < ls.length := by simpa [hl] using hj
      rw [getD_set _ _ _ _ (by omega), agoOf_at _ _ _ (by simpa using hj), getD_set _ _ _ _ (by omega), h, agoOf_at _ _ _ hj]
      split <;> omega
  · exact h
theorem ago_reset {now : Int} {ls D : List Int} (h : D = agoOf now ls) : List.replicate D.length 0 = agoOf now (ls.map fun _ => now) := by
  have hl : D.length = ls.length := by rw [h, agoOf_len]
  apply ext_getD
  · simp [agoOf_len, hl]
  · intro j hj
    have hj : j < ls.length := by simpa [hl] using hj
    rw [agoOf_at _ _ _ (by simpa using hj), getD_map, if_pos hj, List.getD_eq_getElem?_getD, List.getElem?_replicate]
    split <;> simp
theorem ago_tick {now : Int} {ls D : List Int} (h : D = agoOf now ls) (hf : RefFair now ls) : D.map t1 = agoOf (now + 1) ls := by
  have hl : D.length = ls.length := by rw [h, agoOf_len]
  apply ext_getD
  · simp [agoOf_len, hl]
  · intro j hj
    have hj : j < ls.length := by simpa [hl] using hj
    have h1 := hf.2 j
    have h2 := hf.1
    rw [getD_map, if_pos (by omega), agoOf_at _ _ _ hj, h, agoOf_at _ _ _ hj, t1_lo (by omega)]
    omega
theorem fair_ago {now : Int} {ls : List Int} (hf : RefFair now ls) : Fair (agoOf now ls) := fun j => by
  by_cases hj : j < ls.length
  · rw [agoOf_at _ _ _ hj]; have h1 := hf.2 j; have h2 := hf.1; omega
  · rw [List.getD_eq_getElem?_getD, List.getElem?_eq_none (by rw [agoOf_len]; omega)]; simp
theorem reffair_hear {now : Int} {ls : List Int} (hf : RefFair now ls) (h0 : 0 ≤ now) (i : Int) : RefFair now (refHearF ls now i) := ⟨hf.1, fun j => by
  unfold refHearF; split
  · rw [getD_set _ _ _ _ (by omega)]; split
    · omega
    · exact hf.2 j
  · exact hf.2 j⟩
theorem reffair_reset {now : Int} {ls : List Int} (hf : RefFair now ls) (h0 : 0 ≤ now) : RefFair now (ls.map fun _ => now) := ⟨hf.1, fun j => by
  rw [getD_map]; split <;> omega⟩
theorem reffair_tick {now : Int} {ls : List Int} (hf : RefFair now ls) (h : now + 1 ≤ 1000000) : RefFair (now + 1) ls := ⟨h, fun j => by have := hf.2 j; omega⟩

/-- Where the four blocks lie. -/
structure Apart (B b s b' s' : Nat) : Prop where
  b1 : B ≤ b
  s1 : B ≤ s
  b2 : B ≤ b'
  s2 : B ≤ s'
  n1 : b ≠ b'
  n2 : b ≠ s'
  n3 : s ≠ b'
  n4 : s ≠ s'

theorem Both.hear {w w1 w2 : World} {b s b' s' : Nat} {lim now : Int} {ls D : List Int} (h : Both w b s b' s' lim now ls D) {B : Nat} (hA : Apart B b s b' s') (i : Int) (h0 : 0 ≤ now)
    (h1 : Turned b s lim (hearF D i) w w1) (h2 : RefTurned b' s' lim now (refHearF ls now i) w1 w2) : Both w2 b s b' s' lim now (refHearF ls now i) (hearF D i) :=
  ⟨ago_hear h.eq i, h1.1.other h2.2 hA.n2 hA.n4, h2.1, reffair_hear h.fair h0 i⟩

/-- The relation of the loop: the two watches say the same, nothing old has changed, there were not more ticks than calls. -/
def Rel (w : World) (b s b' s' : Nat) (lim : Int) (k : Nat) (wr : World) : Prop :=
  ∃ now ls D, Both wr b s b' s' lim now ls D ∧ 0 ≤ now ∧ now ≤ k ∧ Below w.heap.size w wr
end Go.Proofs.Ytpiolgpfhplhcaa
