/- A row of calls that came in, as data, is a row of calls in memory. -/
import Derived.Test.YtpiolgpfhplhcaaWalkK
import Derived.ProofKit
import Derived.OpenShut
import Derived.Deep.SlicePairs
namespace Go.Proofs.Ytpiolgpfhplhcaa
open Go Go.RowKit Go.Deep Go.ChangeShapes Go.WideShapes
set_option linter.unusedVariables false

theorem open_calls {H : Type} {enc : TypeId × Value → H} {w : World} {a : Option Addr} {len cap : Nat} {d : DataW H} {p : List MemPlace}
    (h : DataW.Trod enc Try.prog w 0 (fun _ => true) true 22 (.slice a len cap) d p) : len ≤ 9223372036854775807 ∧ ∃ K N, CallRow w a len K N := by
  obtain ⟨fuel, hf⟩ := h
  rcases open_slice_pairs Try.underlying22 Try.underlying29 (by kernel_rfl) (by kernel_rfl) (by kernel_rfl) (by kernel_rfl) (by kernel_rfl) hf with ⟨hcs, _⟩ | ⟨x, l, c, m, n, V0, V1, D0, D1, P0, P1, hcs, _, hl, hm, hmm, _, hi⟩
  · simp [Value.cells] at hcs
    obtain ⟨rfl, rfl, rfl⟩ := hcs
    exact ⟨by omega, fun _ => 0, fun _ => 0, fun h => by omega, fun _ => by omega, fun _ => by omega⟩
  · simp [Value.cells] at hcs
    obtain ⟨rfl, rfl, rfl⟩ := hcs
    have hmm : m = cap := by simpa using hmm
    have hk : ∀ i, i < m → ∃ q, V0 i = .int .u8 q ∧ (Lit.int .u8 q).wf = true := fun i him => by
      obtain ⟨_, _, h2, _⟩ := hi i him
      obtain ⟨q, hv, _, hw⟩ := DataW.trod_int Try.underlying5 h2
      simp at hv
      exact ⟨q, hv, hw⟩
    have hn : ∀ i, i < m → ∃ q, V1 i = .int .i64 q ∧ (Lit.int .i64 q).wf = true := fun i him => by
      obtain ⟨_, _, _, h2⟩ := hi i him
      obtain ⟨q, hv, _, hw⟩ := DataW.trod_int Try.underlying3 h2
      simp at hv
      exact ⟨q, hv, hw⟩
    refine ⟨by unfold maxLen at hm; omega, fun i => if i < m then intOf (V0 i) else 0, fun i => if i < m then intOf (V1 i) else 0, fun hpos => ?_, fun k => ?_, fun k => ?_⟩
    · obtain ⟨b, off, spot⟩ := x
      have h0 := (hi 0 (by omega)).1
      have hspot : spot = none := by simpa [Addr.add] using World.cell?_spot h0
      subst hspot
      refine ⟨b, off, rfl, World.block_lt_of_cell? w _ h0, fun k hk' => ?_⟩
      obtain ⟨g1, g2, _⟩ := hi k (by omega)
      obtain ⟨q, hq, _⟩ := hk k (by omega)
      obtain ⟨r, hr, _⟩ := hn k (by omega)
      rw [Go.WideShapes.add_plain] at g1 g2
      rw [if_pos (by omega), if_pos (by omega)]
      rw [hq] at g1 ⊢
      rw [hr] at g2 ⊢
      exact ⟨g1, by rw [← Nat.add_assoc] at g2; exact g2⟩
    · split
      · rename_i h; obtain ⟨q, hq, hw⟩ := hk k h; rw [hq]; exact bounds_u8 hw
      · omega
    · split
      · rename_i h; obtain ⟨q, hq, hw⟩ := hn k h; rw [hq]; exact bounds_i64 hw
      · omega
end Go.Proofs.Ytpiolgpfhplhcaa
