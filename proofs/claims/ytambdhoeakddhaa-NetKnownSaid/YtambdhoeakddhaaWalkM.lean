/- The walk over Delay. -/
import Derived.Test.YtambdhoeakddhaaWalkL
namespace Go.Proofs.Ytambdhoeakddhaa
open Go Go.RowKit Go.Conc
set_option linter.unusedVariables false

section
variable {w w' : World} {B b bx cap n : Nat} {vw : Value} {ps : List PV} {cs : Nat → Nat} {bufs : Nat → List PV}
set_option maxRecDepth 8000 in
set_option maxHeartbeats 4000000 in
theorem delay_cl {l1 l2 : List PV} {p : PV} (h : NetAt w B b vw (l1 ++ p :: l2) bx cap n cs bufs) (hB : B ≤ w.heap.size) (hlen : l1.length + l2.length < 256) (c1 c2 : Nat)
    (h1 : w.cell? ⟨c1, 0, none⟩ = some (.pointer (some ⟨b, 0, none⟩))) (h2 : w.cell? ⟨c2, 0, none⟩ = some (.int .i64 l1.length)) (hc1 : c1 ≠ b) (hc1v : some c1 ≠ vw.ownBlock) :
    Calls Try.prog 36 #[.agg #[.int .i64 p.src, .int .i64 p.dst, .slice p.a p.len p.cap], .pointer (some ⟨c1, 0, none⟩), .pointer (some ⟨c2, 0, none⟩)] w fun e w' => e = .returned (.int .i64 0) ∧ ∃ vw', NetAt w' B b vw' (l1 ++ (l2 ++ [p])) bx cap n cs bufs ∧ Way w w' b vw vw' ∧ Moved B w w' := by
  obtain ⟨i0, hi, hz0, hz1, hz2⟩ := info_parts Try.info33
  have B1 : Below w.heap.size w (w.alloc (.cells #[.int .i64 p.src, .int .i64 p.dst, .slice p.a p.len p.cap] 33)) := (Below.refl _ _).alloc (Nat.le_refl _) _
  have t1 : Tri (w.alloc (.cells #[.int .i64 p.src, .int .i64 p.dst, .slice p.a p.len p.cap] 33)) w.heap.size (.int .i64 p.src) (.int .i64 p.dst) (.slice p.a p.len p.cap) := tri (heap_alloc_new _ _)
  have b1 := World.block_lt_of_cell? w _ h1
  have hN0 := h.kept B1
  have k1 := (B1.cell b1).trans h1
  have k2 := (B1.cell (World.block_lt_of_cell? w _ h2)).trans h2
  have HO := Lib.hid (off_raw hN0 hlen)
  have hsz : (w.alloc (.cells #[.int .i64 p.src, .int .i64 p.dst, .slice p.a p.len p.cap] 33)).heap.size = w.heap.size + 1 := by simp
  have hvl : ∀ g, vw.ownBlock = some g → g < w.heap.size := fun g hg => by
    rcases h.way.2 with ⟨rfl, _⟩ | ⟨g', c, cur, rfl, _, hg', _⟩
    · simp [Value.ownBlock] at hg
    · simp only [Value.ownBlock, Option.some.injEq] at hg; subst hg; exact block_lt hg'
  have hbl := block_lt h.head
  have HHb := Lib.hid h.head
  clear h h1 h2 hN0
  have HL := Lib.hid (show (l1 ++ l2).length = l1.length + l2.length by simp)
  generalize l1.length = i at *
  generalize l2.length = r at *
  have HI := Lib.hid hi
  have HZ0 := Lib.hid hz0
  have HZ1 := Lib.hid hz1
  have HZ2 := Lib.hid hz2
  have HVL := Lib.hid hvl
  clear hi hz0 hz1 hz2 hvl
  have HB1 := Lib.hid B1
  clear B1
  go_enter Try.func36, Try.ntmps36
  go_wp2_with fail
  generalize w.alloc (.cells #[.int .i64 p.src, .int .i64 p.dst, .slice p.a p.len p.cap] 33) = w1 at *
  refine HO.out.mono ?_
  rintro e w2 ⟨rfl, v2, hN, hW, hM⟩
  have g1 := (World.cell?_of_block (a := ⟨c1, 0, none⟩) (hW.block c1 (by omega) hc1 hc1v)).trans k1
  have t2 := tri ((hW.block w.heap.size (by omega) (by omega) (fun e => by have := HVL.out _ e.symm; omega)).trans t1.blk)
  obtain ⟨_, a20, a21, a22, _, _, _⟩ := t2
  have z2 : w1.heap.size ≤ w2.heap.size := hM.size
  have hrow := way_slice hN
  rw [HL.out] at hrow
  obtain ⟨a0, c0, rfl⟩ := hrow
  have hc := hN.c0
  have hneb : some b ≠ Value.ownBlock (.slice a0 (i + r) c0) ∧ some c1 ≠ Value.ownBlock (.slice a0 (i + r) c0) ∧ some w.heap.size ≠ Value.ownBlock (.slice a0 (i + r) c0) := by
    refine ⟨fun e => ?_, fun e => ?_, fun e => ?_⟩
    · rcases hN.way.2 with ⟨hv, _⟩ | ⟨g, c, cur, hv, _, hg, _⟩
      · rw [hv] at e; simp [Value.ownBlock] at e
      · rw [hv] at e; simp only [Value.ownBlock, Option.some.injEq] at e
        subst e; have := hN.head; rw [hg] at this; cases this
    · rcases hW.row _ e.symm with e | e
      · exact hc1v e.symm
      · omega
    · rcases hW.row _ e.symm with e | e
      · have := HVL.out _ e; omega
      · omega
  have hfz : w2.frozen? ⟨b, 0, none⟩ = false := frozen_of_row w2 b 0 _ 63 hN.head
  have bb := block_lt hN.head
  have HN2 := Lib.hid hN
  have HW2 := Lib.hid hW
  have HM2 := Lib.hid hM
  have BB : Below w2.heap.size w2 (w2.alloc (.cells #[.int .i64 p.src, .int .i64 p.dst, .slice p.a p.len p.cap] 33)).drew := ((Below.refl _ _).alloc (Nat.le_refl _) _).drew
  have H3 := Lib.hid (hN.kept BB)
  have e6 := H3.out.c0
  have e5 := frozen_of_row (w2.alloc (.cells #[.int .i64 p.src, .int .i64 p.dst, .slice p.a p.len p.cap] 33)).drew b 0 _ 63 H3.out.head
  have L1 : b < (w2.alloc (.cells #[.int .i64 p.src, .int .i64 p.dst, .slice p.a p.len p.cap] 33)).heap.size := (by simp; omega)
  have L2 : w.heap.size < (w2.alloc (.cells #[.int .i64 p.src, .int .i64 p.dst, .slice p.a p.len p.cap] 33)).heap.size := (by simp; omega)
  have L3 : c1 < (w2.alloc (.cells #[.int .i64 p.src, .int .i64 p.dst, .slice p.a p.len p.cap] 33)).heap.size := (by simp; omega)
  have d1 := (BB.cell (p := ⟨c1, 0, none⟩) (show c1 < w2.heap.size by omega)).trans g1
  have d2 := (BB.cell (p := ⟨w.heap.size, 0, none⟩) (show w.heap.size < w2.heap.size by omega)).trans a20
  have d3 := (BB.cell (p := ⟨w.heap.size, 1, none⟩) (show w.heap.size < w2.heap.size by omega)).trans a21
  have d4 := (BB.cell (p := ⟨w.heap.size, 2, none⟩) (show w.heap.size < w2.heap.size by omega)).trans a22
  have hpos := HL.out
  have HLL := Lib.hid hpos
  clear hN hW hM k1 k2 t1 HO hpos HL
  have HBB := Lib.hid BB
  clear BB
  go_wp2_with fail
  go_region_law (refine step_append_lies _ (by rfl) _ _ 26 (by rfl) B 33 i0 _ 3 40 Try.underlying26 HI.out HZ0.out HZ1.out HZ2.out rfl (by omega) _ (i + r) ((l1 ++ l2).flatMap pcells) (by rfl) (by have := H3.out.way; rw [HLL.out] at this; exact this) ⟨w2.heap.size, 0, none⟩ 1 1 [.int .i64 p.src, .int .i64 p.dst, .slice p.a p.len p.cap] (by rfl) rfl (World.news_of_block (heap_alloc_new w2 _)) (by simp [Value.oneCell']) (by omega) (by unfold maxLen; omega) (by omega) (by simp; omega) (w2.heap.size + 1) (by simp) ?_; intro g cap' w3 hown3 hgrow hat hlt; have f0 := (hgrow.cell_far ⟨b, 0, none⟩ L1 hneb.1).trans e6; have f1 := (hgrow.frozen_far ⟨b, 0, none⟩ L1 hneb.1).trans e5; have f5 := (hgrow.cell_far ⟨c1, 0, none⟩ L3 hneb.2.1).trans d1; have f2 := (hgrow.cell_far ⟨w.heap.size, 0, none⟩ L2 hneb.2.2).trans d2; have f3 := (hgrow.cell_far ⟨w.heap.size, 1, none⟩ L2 hneb.2.2).trans d3; have f4 := (hgrow.cell_far ⟨w.heap.size, 2, none⟩ L2 hneb.2.2).trans d4)
  all_goals
    have hm2 : B ≤ w2.heap.size := by omega
    have hqs : (l1 ++ (l2 ++ [p])).length = i + r + 1 := by rw [← List.append_assoc, List.length_append, HLL.out]; rfl
    obtain ⟨hN, hh⟩ := NetAt.grown (qs := l1 ++ (l2 ++ [p])) H3.out hgrow (by rw [hqs]; simpa [pcells] using hown3)
    have M1 : Moved B w w1 := Moved.of_below HB1.out hB
    have M3 : Moved B w2 (w2.alloc (.cells #[.int .i64 p.src, .int .i64 p.dst, .slice p.a p.len p.cap] 33)).drew := Moved.of_below HBB.out hm2
    have M4 := Moved.grown H3.out.way hgrow (by simp; omega)
    have M5 := Moved.set (i := 0) hh (.inr rfl) hN.geb (.slice (some ⟨g, 0, none⟩) (i + r + 1) cap')
    have hWay : Way w1 (w3.setCell ⟨b, 0, none⟩ (.slice (some ⟨g, 0, none⟩) (i + r + 1) cap')) b vw (.slice (some ⟨g, 0, none⟩) (i + r + 1) cap') := by
      refine ⟨fun k hk hkb hkv => ?_, fun g' hg' => ?_⟩
      · refine (heap_setCell_other w3 ⟨b, 0, none⟩ k _ hkb).trans ((hgrow.block k (by simp; omega) (fun e => ?_)).trans ((HBB.out.block k (by omega)).trans (HW2.out.block k hk hkb hkv)))
        rcases HW2.out.row k e.symm with e | e
        · exact hkv e.symm
        · omega
      · simp only [Value.ownBlock, Option.some.injEq] at hg'
        subst hg'
        rcases hat with e | e
        · exact HW2.out.row _ e
        · right; omega
    have FIN := Lib.hid (And.intro hN (And.intro (hWay.after HB1.out) ((((M1.trans HM2.out).trans M3).trans M4).trans M5)))
    clear hN hh M1 M3 M4 M5 hWay
    go_wp2
    go_ret
    exact ⟨rfl, _, FIN.out⟩

end
end Go.Proofs.Ytambdhoeakddhaa
