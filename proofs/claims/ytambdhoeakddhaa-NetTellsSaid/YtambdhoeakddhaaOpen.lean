/- A row of calls that came in, as data, is a row of calls in memory. -/
import Derived.Test.YtambdhoeakddhaaWalkW
import Derived.ProofKit
import Derived.OpenShut
import Derived.Deep.SlicePairs
namespace Go.Proofs.Ytambdhoeakddhaa
open Go Go.RowKit Go.Deep Go.ChangeShapes Go.WideShapes
set_option linter.unusedVariables false

section
variable {H : Type} {enc : TypeId × Value → H} {P : Program} {w : World} {base : Nat} {spare : Nat → Bool} {held : Bool}
theorem open_quads {t e : TypeId} {f0 f1 f2 f3 : Field} {fuel : Nat} {cs : List Value} {x : DataW H × List MemPlace} (ht : P.underlying t = some (.slice e)) (he : P.underlying e = some (.struct #[f0, f1, f2, f3]))
    (ce : P.cellsOf e = 4) (o0 : f0.offset = 0) (o1 : f1.offset = 1) (o2 : f2.offset = 2) (o3 : f3.offset = 3) (c0 : P.cellsOf f0.type = 1) (c1 : P.cellsOf f1.type = 1) (c2 : P.cellsOf f2.type = 1) (c3 : P.cellsOf f3.type = 1)
    (h : DataW.trod enc P w base spare held fuel t cs = some x) :
    cs = [.slice none 0 0] ∨ ∃ (a : Addr) (len cap n : Nat), cs = [.slice (some a) len cap] ∧ len ≤ cap ∧ cap ≤ maxLen ∧
      ∀ i, i < len → ∃ v0 v1 v2 v3 y0 y1 y2 y3, w.cell? (a.add (i * 4)) = some v0 ∧ w.cell? (a.add (i * 4 + 1)) = some v1 ∧ w.cell? (a.add (i * 4 + 2)) = some v2 ∧ w.cell? (a.add (i * 4 + 3)) = some v3 ∧
        DataW.trod enc P w base spare held n f0.type [v0] = some y0 ∧ DataW.trod enc P w base spare held n f1.type [v1] = some y1 ∧ DataW.trod enc P w base spare held n f2.type [v2] = some y2 ∧ DataW.trod enc P w base spare held n f3.type [v3] = some y3 := by
  rcases open_slice ht h with ⟨h0, _⟩ | ⟨a, len, cap, m, n, D, Pl, rfl, hb, hl, hm, hmm, rfl, hx⟩
  · exact Or.inl h0
  right
  have hlm : len ≤ m := by rw [hmm]; split <;> omega
  refine ⟨a, len, cap, n - 1, rfl, hl, hm, fun i hi => ?_⟩
  obtain ⟨cs', h1, h2⟩ := hx i (by omega)
  rw [ce] at h1
  obtain ⟨_, hlen, hcell⟩ := World.cells?_some h1
  obtain ⟨xs, k, hk, hxy, _, hxl, hf⟩ := DataW.trod_struct he h2
  have hk' : k = n - 1 := by omega
  subst hk'
  match xs, hxl, cs', hlen with
  | [y0, y1, y2, y3], _, [v0, v1, v2, v3], _ =>
    have g0 := hf 0 f0 rfl
    have g1 := hf 1 f1 rfl
    have g2 := hf 2 f2 rfl
    have g3 := hf 3 f3 rfl
    simp [o0, o1, o2, o3, c0, c1, c2, c3] at g0 g1 g2 g3
    have e0 := hcell 0 (by omega)
    have e1 := hcell 1 (by omega)
    have e2 := hcell 2 (by omega)
    have e3 := hcell 3 (by omega)
    rw [add_add] at e0 e1 e2 e3
    exact ⟨v0, v1, v2, v3, y0, y1, y2, y3, by simpa using e0, by simpa using e1, by simpa using e2, by simpa using e3, g0, g1, g2, g3⟩
end

theorem open_bytes {H : Type} {enc : TypeId × Value → H} {w : World} {n : Nat} {v : Value} {y : DataW H × List MemPlace} (h : DataW.trod enc Try.prog w 0 (fun _ => true) true n 31 [v] = some y) :
    ∃ a len cap xs, v = .slice a len cap ∧ len ≤ 9223372036854775807 ∧ BRead w a len xs := by
  rcases open_ints Try.underlying31 Try.underlying5 (by kernel_rfl) h with ⟨hcs, _⟩ | ⟨x, l, c, zs, hcs, _, hl, hm, hz, _, hcell, hwz⟩
  · simp at hcs
    subst hcs
    exact ⟨none, 0, 0, [], rfl, by omega, rfl, .inl rfl⟩
  · simp at hcs
    subst hcs
    unfold maxLen at hm
    have hz' : zs.length = c := by simpa using hz
    refine ⟨some x, l, c, zs.take l, rfl, by omega, by rw [List.length_take]; omega, ?_⟩
    by_cases h0 : l = 0
    · exact .inl h0
    · right
      obtain ⟨b, off, spot⟩ := x
      have hc0 := hcell 0 (by omega)
      have hspot : spot = none := by simpa [Addr.add] using World.cell?_spot hc0
      subst hspot
      refine ⟨b, off, rfl, fun i hi => ?_⟩
      have := hcell i (by omega)
      rw [Go.WideShapes.add_plain] at this
      rw [this]
      simp [List.getD, List.getElem?_take_of_lt hi]

theorem open_calls {H : Type} {enc : TypeId × Value → H} {w : World} {a : Option Addr} {len cap : Nat} {d : DataW H} {p : List MemPlace}
    (h : DataW.Trod enc Try.prog w 0 (fun _ => true) true 40 (.slice a len cap) d p) : len ≤ 9223372036854775807 ∧ ∃ C, CallRow w a len C := by
  obtain ⟨fuel, hf⟩ := h
  rcases open_quads Try.underlying40 Try.underlying45 (by kernel_rfl) (by kernel_rfl) (by kernel_rfl) (by kernel_rfl) (by kernel_rfl) (by kernel_rfl) (by kernel_rfl) (by kernel_rfl) (by kernel_rfl) hf with hcs | ⟨x, l, c, n, hcs, hl, hm, hi⟩
  · simp [Value.cells] at hcs
    obtain ⟨rfl, rfl, rfl⟩ := hcs
    exact ⟨by omega, fun _ => ⟨0, 0, 0, none, 0, 0, []⟩, fun h => by omega, fun k hk => by omega, fun k hk => by omega, fun k hk => by omega, fun k hk => by omega, fun k hk => by omega⟩
  · simp [Value.cells] at hcs
    obtain ⟨rfl, rfl, rfl⟩ := hcs
    unfold maxLen at hm
    refine ⟨by omega, ?_⟩
    have key : ∀ i, i < len → ∃ q : CallV, w.cell? (x.add (i * 4)) = some (.int .u8 q.kind) ∧ w.cell? (x.add (i * 4 + 1)) = some (.int .i64 q.pos) ∧ w.cell? (x.add (i * 4 + 2)) = some (.int .i64 q.dest) ∧ w.cell? (x.add (i * 4 + 3)) = some (.slice q.a q.len q.cap) ∧
        BRead w q.a q.len q.xs ∧ q.len ≤ 9223372036854775807 ∧ (0 ≤ q.kind ∧ q.kind ≤ 255) ∧ (-9223372036854775808 ≤ q.pos ∧ q.pos ≤ 9223372036854775807) ∧ (-9223372036854775808 ≤ q.dest ∧ q.dest ≤ 9223372036854775807) := fun i hil => by
      obtain ⟨v0, v1, v2, v3, y0, y1, y2, y3, e0, e1, e2, e3, g0, g1, g2, g3⟩ := hi i hil
      obtain ⟨q0, hv0, _, hw0⟩ := DataW.trod_int Try.underlying5 g0
      obtain ⟨q1, hv1, _, hw1⟩ := DataW.trod_int Try.underlying3 g1
      obtain ⟨q2, hv2, _, hw2⟩ := DataW.trod_int Try.underlying3 g2
      obtain ⟨qa, ql, qc, qx, hv3, hlq, hb⟩ := open_bytes g3
      simp at hv0 hv1 hv2
      subst hv0 hv1 hv2 hv3
      exact ⟨⟨q0, q1, q2, qa, ql, qc, qx⟩, e0, e1, e2, e3, hb, hlq, bounds_u8 hw0, bounds_i64 hw1, bounds_i64 hw2⟩
    have this : ∀ i, ∃ qi : CallV, i < len → (w.cell? (x.add (i * 4)) = some (.int .u8 qi.kind) ∧ w.cell? (x.add (i * 4 + 1)) = some (.int .i64 qi.pos) ∧ w.cell? (x.add (i * 4 + 2)) = some (.int .i64 qi.dest) ∧ w.cell? (x.add (i * 4 + 3)) = some (.slice qi.a qi.len qi.cap) ∧
        BRead w qi.a qi.len qi.xs ∧ qi.len ≤ 9223372036854775807 ∧ (0 ≤ qi.kind ∧ qi.kind ≤ 255) ∧ (-9223372036854775808 ≤ qi.pos ∧ qi.pos ≤ 9223372036854775807) ∧ (-9223372036854775808 ≤ qi.dest ∧ qi.dest ≤ 9223372036854775807)) := fun i => by
      by_cases hil : i < len
      · obtain ⟨qi, h⟩ := key i hil; exact ⟨qi, fun _ => h⟩
      · exact ⟨⟨0, 0, 0, none, 0, 0, []⟩, fun h => absurd h hil⟩
    obtain ⟨q, hq⟩ := Classical.axiomOfChoice this
    refine ⟨q, fun hpos => ?_, fun k hk => (hq k hk).2.2.2.2.1, fun k hk => (hq k hk).2.2.2.2.2.1, fun k hk => (hq k hk).2.2.2.2.2.2.1, fun k hk => (hq k hk).2.2.2.2.2.2.2.1, fun k hk => (hq k hk).2.2.2.2.2.2.2.2⟩
    obtain ⟨b, off, spot⟩ := x
    have h0 := (hq 0 (by omega)).1
    have hspot : spot = none := by simpa [Addr.add] using World.cell?_spot h0
    subst hspot
    refine ⟨b, off, rfl, fun k hk => ?_⟩
    obtain ⟨g0, g1, g2, g3, _⟩ := hq k hk
    rw [Go.WideShapes.add_plain] at g0 g1 g2 g3
    exact ⟨g0, by rw [← Nat.add_assoc] at g1; exact g1, by rw [← Nat.add_assoc] at g2; exact g2, by rw [← Nat.add_assoc] at g3; exact g3⟩
end Go.Proofs.Ytambdhoeakddhaa
