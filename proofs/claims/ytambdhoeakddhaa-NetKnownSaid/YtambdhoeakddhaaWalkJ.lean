/- The walk over off: a message travels no more. -/
import Derived.Test.YtambdhoeakddhaaWalkI
namespace Go.Proofs.Ytambdhoeakddhaa
open Go Go.RowKit Go.Conc
set_option linter.unusedVariables false

theorem pcells_len (ps : List PV) : (ps.flatMap pcells).length = ps.length * 3 := by
  induction ps with
  | nil => rfl
  | cons p ps ih => simp only [List.flatMap_cons, List.length_append, ih, List.length_cons]; simp [pcells]; omega
theorem pcells_one (ps : List PV) : ∀ u ∈ ps.flatMap pcells, u.oneCell' = true := by
  intro u hu
  obtain ⟨p, _, hp⟩ := List.mem_flatMap.1 hu
  simp only [pcells, List.mem_cons, List.not_mem_nil, or_false] at hp
  rcases hp with rfl | rfl | rfl <;> rfl

/-- What a call keeps that turns the row of those that travel alone. -/
structure Way (w w' : World) (b : Nat) (vw vw' : Value) : Prop where
  block : ∀ k, k < w.heap.size → k ≠ b → some k ≠ vw.ownBlock → w'.heap[k]? = w.heap[k]?
  row : ∀ g, vw'.ownBlock = some g → vw.ownBlock = some g ∨ w.heap.size ≤ g

section
variable {w w' : World} {B b bx cap n : Nat} {vw : Value} {ps : List PV} {cs : Nat → Nat} {bufs : Nat → List PV}
set_option maxRecDepth 8000 in
set_option maxHeartbeats 2000000 in
theorem off_raw {l1 l2 : List PV} {p : PV} (h : NetAt w B b vw (l1 ++ p :: l2) bx cap n cs bufs) (hlen : l1.length + l2.length < 256) :
    Calls Try.prog 33 #[.pointer (some ⟨b, 0, none⟩), .int .i64 l1.length] w fun e w' => e = .returned (.tuple #[]) ∧ ∃ vw', NetAt w' B b vw' (l1 ++ l2) bx cap n cs bufs ∧ Way w w' b vw vw' ∧ Moved B w w' := by
  obtain ⟨hl, ⟨_, hn⟩ | ⟨g, c, cur, hv, hB, hg, hnc, hcm, hsz, htake⟩⟩ := h.way
  · simp at hn
  have hq : (l1 ++ p :: l2).length = l1.length + 1 + l2.length := by simp; omega
  rw [hq] at hv hnc htake
  have hat : ∀ j, j < (l1.length + 1 + l2.length) * 3 → cur[j]? = ((l1 ++ p :: l2).flatMap pcells)[j]? := fun j hj => by
    rw [← htake, List.getElem?_take_of_lt (by omega)]; simp
  have hdel := delete_raw w g c l2.length l1.length cur hg hsz hnc hcm (fun j u hj hlt => by
    rw [hat j hlt] at hj
    exact pcells_one _ u (List.mem_of_getElem? hj))
  have hc := h.c0
  rw [hv] at hc
  have hgb : g ≠ b := fun e => by subst e; rw [h.head] at hg; cases hg
  have hbl := block_lt h.head
  have hfz : w.frozen? ⟨b, 0, none⟩ = false := frozen_of_row w b 0 _ 63 h.head
  have H := Lib.hid h
  have HD := Lib.hid hdel
  have HA := Lib.hid hat
  have HG := Lib.hid hg
  have HV := Lib.hid hv
  have HS := Lib.hid hsz
  have HH := Lib.hid h.head
  clear h hdel hat hg hv hsz hl hq htake
  unfold maxLen at hcm
  generalize hl1 : l1.length = i at *
  generalize hl2 : l2.length = r at *
  go_enter Try.func33, Try.ntmps33
  go_wp2_with (go_at_call 43; refine HD.out.mono ?_; rintro e w2 ⟨rfl, cur', hg', hsz', hat', hO⟩; have e0 := (World.cell?_of_block (a := ⟨b, 0, none⟩) (hO.block b hbl (fun e => hgb (Option.some.inj e).symm))).trans hc; have e1 := (World.frozen?_of_block (a := ⟨b, 0, none⟩) (hO.block b hbl (fun e => hgb (Option.some.inj e).symm))).trans hfz)
  have hown : w2.ownsRow B 33 3 (.slice (some ⟨g, 0, none⟩) (i + r) c) (l1 ++ l2).length ((l1 ++ l2).flatMap pcells) := by
    have hll : (l1 ++ l2).length = i + r := by simp [hl1, hl2]
    refine ⟨by rw [pcells_len], .inr ⟨g, c, cur', by rw [hll], hB, hg', by rw [hll]; omega, by unfold maxLen; omega, by rw [hsz', HS.out], ?_⟩⟩
    rw [hll]
    apply List.ext_getElem?
    intro j
    by_cases hj : j < (i + r) * 3
    · rw [List.getElem?_take_of_lt hj, Array.getElem?_toList, hat' j hj]
      have f1 := pcells_len l1
      have f2 := pcells_len l2
      have f3 : (pcells p).length = 3 := rfl
      by_cases e : j < i * 3
      · rw [if_pos e, HA.out j (by omega), List.flatMap_append, List.flatMap_append, List.getElem?_append_left (by omega), List.getElem?_append_left (by omega)]
      · rw [if_neg e, HA.out (j + 3) (by omega), List.flatMap_append, List.flatMap_append, List.getElem?_append_right (by omega), List.getElem?_append_right (by omega), List.flatMap_cons, List.getElem?_append_right (by omega)]
        congr 1; omega
    · rw [List.getElem?_eq_none (by rw [List.length_take]; omega), List.getElem?_eq_none (by rw [pcells_len]; omega)]
  have hgr : w.grownBy w2 vw.ownBlock := by rw [HV.out]; exact hO
  obtain ⟨hN, hh⟩ := NetAt.grown H.out hgr hown
  have M1 := Moved.grown H.out.way hgr (by have := H.out.geb; omega)
  have M2 := Moved.set (i := 0) hh (.inr rfl) H.out.geb (.slice (some ⟨g, 0, none⟩) (i + r) c)
  go_end0
  refine ⟨rfl, _, hN, ⟨fun k hk hkb hkv => ?_, fun g' hg' => .inl ?_⟩, M1.trans M2⟩
  · exact (heap_setCell_other w2 ⟨b, 0, none⟩ k _ hkb).trans (hgr.block k hk hkv)
  · rw [HV.out]; exact hg'
end
end Go.Proofs.Ytambdhoeakddhaa
