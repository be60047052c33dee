/- The walk over on: a function called with a message that travels. -/
import Derived.Test.YtambdhoeakddhaaWalkJ
namespace Go.Proofs.Ytambdhoeakddhaa
open Go Go.RowKit Go.Conc
set_option linter.unusedVariables false

section
variable {w w' : World} {B b bx cap n : Nat} {vw : Value} {ps : List PV} {cs : Nat → Nat} {bufs : Nat → List PV}
/-- The row of those that travel, read. -/
theorem way_cells {l1 l2 : List PV} {p : PV} (h : NetAt w B b vw (l1 ++ p :: l2) bx cap n cs bufs) :
    ∃ g c, vw = .slice (some ⟨g, 0, none⟩) (l1.length + l2.length + 1) c ∧ w.cell? ⟨g, l1.length * 3, none⟩ = some (.int .i64 p.src) ∧ w.cell? ⟨g, l1.length * 3 + 1, none⟩ = some (.int .i64 p.dst) ∧ w.cell? ⟨g, l1.length * 3 + 2, none⟩ = some (.slice p.a p.len p.cap) := by
  obtain ⟨hl, ⟨_, hn⟩ | ⟨g, c, cur, hv, hB, hg, hnc, hcm, hsz, htake⟩⟩ := h.way
  · simp at hn
  have hlen : (l1 ++ p :: l2).length = l1.length + l2.length + 1 := by simp; omega
  have hat : ∀ j, j < 3 → w.cell? ⟨g, l1.length * 3 + j, none⟩ = (pcells p)[j]? := fun j hj => by
    rw [cell_of_row w g _ _ 33 (0, 0) hg]
    have e : (cur.toList.take ((l1 ++ p :: l2).length * 3))[l1.length * 3 + j]? = cur[l1.length * 3 + j]? := by
      rw [List.getElem?_take_of_lt (by rw [hlen]; omega)]; simp
    rw [← e, htake, List.flatMap_append, List.getElem?_append_right (by rw [pcells_len]; omega), List.flatMap_cons, List.getElem?_append_left (by rw [pcells_len]; simp [pcells]; omega), pcells_len]
    congr 1; omega
  refine ⟨g, c, by rw [hv, hlen], ?_, ?_, ?_⟩
  · have := hat 0 (by omega); simpa [pcells] using this
  · have := hat 1 (by omega); simpa [pcells] using this
  · have := hat 2 (by omega); simpa [pcells] using this
theorem way_slice (h : NetAt w B b vw ps bx cap n cs bufs) : ∃ a c, vw = .slice a ps.length c := by
  rcases h.way.2 with ⟨rfl, hn⟩ | ⟨g, c, cur, rfl, _⟩
  · exact ⟨none, 0, by rw [hn]⟩
  · exact ⟨_, _, rfl⟩

theorem on_out (h : NetAt w B b vw ps bx cap n cs bufs) (hs : ps.length ≤ 256) (x : Int) (hx : x < 0 ∨ (ps.length : Int) ≤ x) (f : Value) :
    Calls Try.prog 31 #[.pointer (some ⟨b, 0, none⟩), .int .i64 x, f] w fun e w' => e = .returned (.int .i64 5) ∧ w = w' := by
  have hc := h.c0
  obtain ⟨a, c, rfl⟩ := way_slice h
  clear h
  generalize ps.length = q at *
  by_cases h0 : x < 0
  · clear hx
    go_enter Try.func31, Try.ntmps31
    go_wp2
    go_ret
    exact ⟨rfl, rfl⟩
  · have h1 : 0 ≤ x := by omega
    have h2 : (q : Int) ≤ x := by omega
    clear hx
    go_enter Try.func31, Try.ntmps31
    go_wp2
    go_ret
    exact ⟨rfl, rfl⟩
theorem on_nil (x : Int) (f : Value) (w : World) :
    Calls Try.prog 31 #[.pointer none, .int .i64 x, f] w fun e w' => e = .returned (.int .i64 1) ∧ w = w' := by
  go_enter Try.func31, Try.ntmps31
  go_wp2
  go_ret
  exact ⟨rfl, rfl⟩

theorem on_fn {l1 l2 : List PV} {p : PV} (h : NetAt w B b vw (l1 ++ p :: l2) bx cap n cs bufs) (hs : l1.length + l2.length < 256) (K : Nat) (hk : K = 32 ∨ K = 36 ∨ K = 42) (c1 c2 : Value) (r : Int) (R : World → Prop)
    (hK : Calls Try.prog K #[.agg #[.int .i64 p.src, .int .i64 p.dst, .slice p.a p.len p.cap], c1, c2] w fun e w' => e = .returned (.int .i64 r) ∧ R w') :
    Calls Try.prog 31 #[.pointer (some ⟨b, 0, none⟩), .int .i64 l1.length, .func (.func K) #[] #[c1, c2]] w fun e w' => e = .returned (.int .i64 r) ∧ R w' := by
  have hc := h.c0
  obtain ⟨g, c, rfl, k0, k1, k2⟩ := way_cells h
  have HK := Lib.hid hK
  clear hK h
  generalize l1.length = i at *
  generalize l2.length = j at *
  rcases hk with rfl | rfl | rfl
  all_goals
    go_enter Try.func31, Try.ntmps31
    go_wp2_with (refine HK.out.mono ?_; rintro e w' ⟨rfl, hR⟩)
    go_ret
    exact ⟨rfl, hR⟩
theorem on_method {l1 l2 : List PV} {p : PV} (h : NetAt w B b vw (l1 ++ p :: l2) bx cap n cs bufs) (hs : l1.length + l2.length < 256) (c1 : Value) (r : Int) (R : World → Prop)
    (hK : Calls Try.prog 41 #[c1, .agg #[.int .i64 p.src, .int .i64 p.dst, .slice p.a p.len p.cap]] w fun e w' => e = .returned (.int .i64 r) ∧ R w') :
    Calls Try.prog 31 #[.pointer (some ⟨b, 0, none⟩), .int .i64 l1.length, .func (.func 41) #[c1] #[]] w fun e w' => e = .returned (.int .i64 r) ∧ R w' := by
  have hc := h.c0
  obtain ⟨g, c, rfl, k0, k1, k2⟩ := way_cells h
  have HK := Lib.hid hK
  clear hK h
  generalize l1.length = i at *
  generalize l2.length = j at *
  go_enter Try.func31, Try.ntmps31
  go_wp2_with (refine HK.out.mono ?_; rintro e w' ⟨rfl, hR⟩)
  go_ret
  exact ⟨rfl, hR⟩
end
end Go.Proofs.Ytambdhoeakddhaa
