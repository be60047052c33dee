/- The walk over the document's lose. -/
import Derived.Test.YtambdhoeakddhaaRWalkB
namespace Go.Proofs.Ytambdhoeakddhaa
open Go Go.RowKit Go.Conc
set_option linter.unusedVariables false

theorem Try.info49 : (Try.prog.info? 49).map (fun i => (i.zero, i.size, i.bytes)) = some (some (.agg #[.int .i64 0, .int .i64 0, .string ⟨#[]⟩, .bool false, .int .i64 0]), 5, 48) := by kernel_rfl
theorem ownBlock_ge' {w : World} {B e size n : Nat} {v : Value} {xs : List Value} (h : w.ownsRow B e size v n xs) {r : Nat} (hr : v.ownBlock = some r) : B ≤ r := ownBlock_ge h hr
theorem owns_slice49 {w : World} {B n : Nat} {v : Value} {xs : List Value} (h : w.ownsRow B 49 5 v n xs) : ∃ a c, v = .slice a n c := by
  rcases h.2 with ⟨rfl, hn⟩ | ⟨g, c, cur, rfl, _⟩
  · exact ⟨none, 0, by rw [hn]⟩
  · exact ⟨_, _, rfl⟩
theorem own_block_49 {w : World} {B m : Nat} {v : Value} {xs : List Value} (h : w.ownsRow B 49 5 v m xs) {g : Nat} {cur : Array Value} {T : Nat} (hg : w.heap[g]? = some (Obj.cells cur T (0, 0))) (hT : T ≠ 49) : some g ≠ v.ownBlock := by
  rcases h.2 with ⟨rfl, _⟩ | ⟨g', cap, cur', rfl, _, hg', _⟩
  · simp [Value.ownBlock]
  · simp only [Value.ownBlock, ne_eq, Option.some.injEq]
    rintro rfl
    rw [hg'] at hg
    simp only [Option.some.injEq, Obj.cells.injEq] at hg
    exact hT hg.2.1.symm

section
variable {w w' : World} {B b n : Nat} {av : Value} {rs : List RM} {T : Nat}
/-- All's cells, in a row. -/
theorem RefAt.cells (h : RefAt w B b n av rs T) (hne : 0 < rs.length) : ∃ g c, av = .slice (some ⟨g, 0, none⟩) rs.length c ∧ rs.length ≤ c ∧ c ≤ maxLen ∧ B ≤ g ∧ g < w.heap.size ∧ ∀ j u, (rs.flatMap rcells)[j]? = some u → w.cell? ⟨g, j, none⟩ = some u := by
  obtain ⟨hl, ⟨_, hn⟩ | ⟨g, c, cur, hv, hB, hg, hnc, hcm, hsz, htake⟩⟩ := h.row
  · omega
  · refine ⟨g, c, hv, hnc, hcm, hB, block_lt hg, fun j u hu => ?_⟩
    rw [cell_of_row w g _ _ 49 (0, 0) hg]
    have hj : j < rs.length * 5 := by have := (List.getElem?_eq_some_iff.1 hu).1; rw [rcells_len] at this; exact this
    have e : (cur.toList.take (rs.length * 5))[j]? = cur[j]? := by rw [List.getElem?_take_of_lt hj]; simp
    rw [← e, htake]; exact hu

/-- All turned to a new row, its cell stored. -/
theorem RefAt.turned (h : RefAt w B b n av rs T) {w3 : World} {v' : Value} {rs' : List RM} (hb : w3.heap[b]? = w.heap[b]?) (hz : w.heap.size ≤ w3.heap.size) (ho : w3.ownsRow B 49 5 v' rs'.length (rs'.flatMap rcells)) :
    RefAt (w3.setCell ⟨b, 1, none⟩ v') B b n v' rs' T := by
  have hh := hb.trans h.head
  refine ⟨by rw [heap_setCell_same w3 b 1 _ 69 v' hh]; rfl, owns_same ho fun g cur _ hg => heap_setCell_other w3 ⟨b, 1, none⟩ g v' (fun e => by subst e; rw [hh] at hg; simp at hg), h.geb, by have := h.base; simp; omega⟩

set_option maxRecDepth 8000 in
set_option maxHeartbeats 4000000 in
theorem ref_lose (h : RefAt w B b n av rs T) (hlen : rs.length ≤ 1000) (k : Nat) (hk : k < rs.length) :
    Calls Try.prog 39 #[.pointer (some ⟨b, 0, none⟩), .int .i64 k] w fun e w' => e = .returned (.tuple #[]) ∧ (∃ av', RefAt w' B b n av' (rs.eraseIdx k) T ∧ ∀ g, av'.ownBlock = some g → w.heap.size ≤ g) ∧ RMoved B w w' ∧ ∀ i, i < w.heap.size → i ≠ b → w'.heap[i]? = w.heap[i]? := by
  obtain ⟨i0, hi, hz0, hz1, hz2⟩ := info_parts Try.info49
  obtain ⟨g, c, rfl, hnc, hcm, hBg, hgl, hat⟩ := h.cells (by omega)
  obtain ⟨L, hL⟩ : ∃ L, rs.length = L := ⟨_, rfl⟩
  have hc := h.c1
  rw [hL] at hc hnc hlen hk
  have hl1 : ((rs.take k).flatMap rcells).length = k * 5 := by rw [rcells_len, List.length_take]; omega
  have hl2 : ((rs.drop (k + 1)).flatMap rcells).length = (L - (k + 1)) * 5 := by rw [rcells_len, List.length_drop, hL]
  have hsplit : rs.flatMap rcells = (rs.take k).flatMap rcells ++ (rs.drop k).flatMap rcells := by rw [← List.flatMap_append, List.take_append_drop]
  have hd5 : ((rs.drop k).flatMap rcells)= (rcells (rs[k]'(by omega))) ++ (rs.drop (k + 1)).flatMap rcells := by
    rw [List.drop_eq_getElem_cons (by omega : k < rs.length), List.flatMap_cons]
  have hn1 : ∀ j u, ((rs.take k).flatMap rcells)[j]? = some u → w.cell? ⟨g, j, none⟩ = some u := fun j u hu => hat j u (by
    rw [hsplit, List.getElem?_append_left (List.getElem?_eq_some_iff.1 hu).1]; exact hu)
  have hn2 : ∀ j u, ((rs.drop (k + 1)).flatMap rcells)[j]? = some u → w.cell? ⟨g, (k + 1) * 5 + j, none⟩ = some u := fun j u hu => hat _ u (by
    rw [hsplit, List.getElem?_append_right (by rw [hl1]; omega), hd5, List.getElem?_append_right (by rw [hl1]; simp [rcells]; omega), hl1]
    rw [← hu]; congr 1; simp [rcells]; omega)
  have ho1 : ∀ u ∈ (rs.take k).flatMap rcells, u.oneCell' = true := rcells_one _
  have ho2 : ∀ u ∈ (rs.drop (k + 1)).flatMap rcells, u.oneCell' = true := rcells_one _
  have hfin : (rs.take k).flatMap rcells ++ (rs.drop (k + 1)).flatMap rcells = (rs.eraseIdx k).flatMap rcells := by rw [← List.flatMap_append, List.eraseIdx_eq_take_drop_succ]
  have hflen : (rs.eraseIdx k).length = k + (L - (k + 1)) := by rw [List.length_eraseIdx, hL]; split <;> omega
  have hbl := block_lt h.head
  have hfz : w.frozen? ⟨b, 1, none⟩ = false := frozen_of_row w b 1 _ 69 h.head
  have HI := Lib.hid hi
  have HZ0 := Lib.hid hz0
  have HZ1 := Lib.hid hz1
  have HZ2 := Lib.hid hz2
  have HL1 := Lib.hid hl1
  have HL2 := Lib.hid hl2
  have HN1 := Lib.hid hn1
  have HN2 := Lib.hid hn2
  have HO1 := Lib.hid ho1
  have HO2 := Lib.hid ho2
  have HFIN := Lib.hid hfin
  have HFL := Lib.hid hflen
  have H := Lib.hid h
  have hbase := h.base
  clear hi hz0 hz1 hz2 hl1 hl2 hn1 hn2 ho1 ho2 hfin hflen hat hsplit hd5 h hL
  generalize (rs.take k).flatMap rcells = news1 at *
  generalize (rs.drop (k + 1)).flatMap rcells = news2 at *
  unfold maxLen at hcm
  have i0' : (0 : Int) ≤ (k : Int) := by omega
  have i1 : (k : Int) ≤ (c : Int) := by omega
  have i2 : (k : Int) + 1 ≤ (L : Int) := by omega
  have i3 : (L : Int) ≤ (c : Int) := by omega
  have i4 : k ≤ c := by omega
  have i5 : k + 1 ≤ L := by omega
  by_cases hce : c = k + 1
  · have HE : Hid (news2 = []) := Lib.hid (List.length_eq_zero_iff.1 (by have := HL2.out; omega))
    obtain rfl : L = k + 1 := by omega
    subst hce
    go_enter Try.func39, Try.ntmps39
    go_wp2_with (first | (at_builtin; refine wpList_append_own _ rfl _ _ 67 rfl w.heap.size 49 i0 _ 5 48 Try.underlying67 HI.out HZ0.out HZ1.out HZ2.out rfl (by decide) _ 0 [] rfl (World.ownsRow_nil _ _ _ _) ⟨g, 0, none⟩ k _ news1 rfl HL1.out (by intro j u hu; rw [Addr.add_lit]; simpa using HN1.out j u hu) HO1.out (by unfold maxLen; omega) (by omega) (by omega) ?_; intro v' w3 hown3 hgrow hn3; simp only [Nat.zero_add, List.nil_append] at hown3; obtain ⟨a3, cc3, hv3⟩ := owns_slice49 hown3; rw [hv3] at hown3 ⊢; clear hn3 hv3; have HOW3 := Lib.hid hown3; have B3 : Below w.heap.size w w3 := (Below.refl _ _).grown (row := none) hgrow (Nat.le_refl _) (fun r e => by cases e); have c3 := (B3.cell (p := ⟨b, 1, none⟩) hbl).trans hc; have f3 := (World.frozen?_of_block (a := ⟨b, 1, none⟩) (B3.block b hbl)).trans hfz; have HN3 : Hid (∀ (j : Nat) (u : Value), news2[j]? = some u → w3.cell? ⟨g, (k + 1) * 5 + j, none⟩ = some u) := Lib.hid (fun j u hu => (B3.cell (p := ⟨g, (k + 1) * 5 + j, none⟩) hgl).trans (HN2.out j u hu)); have hz3 := B3.size; have HB3 := Lib.hid B3; clear hown3 hgrow B3) | (at_builtin; refine wpList_append_own _ rfl _ _ 67 rfl w.heap.size 49 i0 _ 5 48 Try.underlying67 HI.out HZ0.out HZ1.out HZ2.out rfl (by decide) _ k news1 rfl HOW3.out _ _ _ news2 rfl (by first | exact HL2.out | (have := HL2.out; omega)) (by intro j u hu; first | (rw [Addr.add_lit]; exact HN3.out j u hu) | (rw [HE.out] at hu; simp at hu)) HO2.out (by unfold maxLen; omega) (by omega) (by omega) ?_; intro v4 w4 hown4 hgrow4 hn4; obtain ⟨a4, cc4, hv4⟩ := owns_slice49 hown4; rw [hv4] at hown4 ⊢; clear hn4 hv4; have HOW4 := Lib.hid hown4; have B4 : Below w.heap.size w w4 := HB3.out.grown hgrow4 hz3 (fun r e => ownBlock_ge' HOW3.out e); have c4 := (B4.cell (p := ⟨b, 1, none⟩) hbl).trans hc; have f4 := (World.frozen?_of_block (a := ⟨b, 1, none⟩) (B4.block b hbl)).trans hfz; have HB4 := Lib.hid B4; clear hown4 hgrow4 B4))
    have HT : Hid (∀ v', w4.ownsRow B 49 5 v' (rs.eraseIdx k).length ((rs.eraseIdx k).flatMap rcells) → RefAt (w4.setCell ⟨b, 1, none⟩ v') B b n v' (rs.eraseIdx k) T) := Lib.hid fun v' ho => H.out.turned (HB4.out.block b hbl) HB4.out.size ho
    have HM : Hid (∀ v', RMoved B w (w4.setCell ⟨b, 1, none⟩ v')) := Lib.hid fun v' => (RMoved.of_below HB4.out hbase).trans (RMoved.set (i := 1) ((HB4.out.block b hbl).trans H.out.head) (.inr rfl) H.out.geb v')
    have HF : Hid (∀ v' i, i < w.heap.size → i ≠ b → (w4.setCell ⟨b, 1, none⟩ v').heap[i]? = w.heap[i]?) := Lib.hid fun v' i hi hne => (heap_setCell_other w4 ⟨b, 1, none⟩ i v' hne).trans (HB4.out.block i hi)
    go_end0
    refine ⟨rfl, ⟨_, HT.out _ ?_, fun g' hg' => (by cases a4 with | none => cases hg' | some a => exact ownBlock_ge HOW4.out hg')⟩, HM.out _, HF.out _⟩
    rw [HFL.out, ← HFIN.out]
    have := HOW4.out.mono hbase
    simpa using this
  · have HE : Hid (c = c) := Lib.hid rfl
    have hce2 : ¬ c = k + 1 := hce
    go_enter Try.func39, Try.ntmps39
    go_wp2_with (first | (at_builtin; refine wpList_append_own _ rfl _ _ 67 rfl w.heap.size 49 i0 _ 5 48 Try.underlying67 HI.out HZ0.out HZ1.out HZ2.out rfl (by decide) _ 0 [] rfl (World.ownsRow_nil _ _ _ _) ⟨g, 0, none⟩ k _ news1 rfl HL1.out (by intro j u hu; rw [Addr.add_lit]; simpa using HN1.out j u hu) HO1.out (by unfold maxLen; omega) (by omega) (by omega) ?_; intro v' w3 hown3 hgrow hn3; simp only [Nat.zero_add, List.nil_append] at hown3; obtain ⟨a3, cc3, hv3⟩ := owns_slice49 hown3; rw [hv3] at hown3 ⊢; clear hn3 hv3; have HOW3 := Lib.hid hown3; have B3 : Below w.heap.size w w3 := (Below.refl _ _).grown (row := none) hgrow (Nat.le_refl _) (fun r e => by cases e); have c3 := (B3.cell (p := ⟨b, 1, none⟩) hbl).trans hc; have f3 := (World.frozen?_of_block (a := ⟨b, 1, none⟩) (B3.block b hbl)).trans hfz; have HN3 : Hid (∀ (j : Nat) (u : Value), news2[j]? = some u → w3.cell? ⟨g, (k + 1) * 5 + j, none⟩ = some u) := Lib.hid (fun j u hu => (B3.cell (p := ⟨g, (k + 1) * 5 + j, none⟩) hgl).trans (HN2.out j u hu)); have hz3 := B3.size; have HB3 := Lib.hid B3; clear hown3 hgrow B3) | (at_builtin; refine wpList_append_own _ rfl _ _ 67 rfl w.heap.size 49 i0 _ 5 48 Try.underlying67 HI.out HZ0.out HZ1.out HZ2.out rfl (by decide) _ k news1 rfl HOW3.out _ _ _ news2 rfl (by first | exact HL2.out | (have := HL2.out; omega)) (by intro j u hu; first | (rw [Addr.add_lit]; exact HN3.out j u hu) | (rw [HE.out] at hu; simp at hu)) HO2.out (by unfold maxLen; omega) (by omega) (by omega) ?_; intro v4 w4 hown4 hgrow4 hn4; obtain ⟨a4, cc4, hv4⟩ := owns_slice49 hown4; rw [hv4] at hown4 ⊢; clear hn4 hv4; have HOW4 := Lib.hid hown4; have B4 : Below w.heap.size w w4 := HB3.out.grown hgrow4 hz3 (fun r e => ownBlock_ge' HOW3.out e); have c4 := (B4.cell (p := ⟨b, 1, none⟩) hbl).trans hc; have f4 := (World.frozen?_of_block (a := ⟨b, 1, none⟩) (B4.block b hbl)).trans hfz; have HB4 := Lib.hid B4; clear hown4 hgrow4 B4))
    have HT : Hid (∀ v', w4.ownsRow B 49 5 v' (rs.eraseIdx k).length ((rs.eraseIdx k).flatMap rcells) → RefAt (w4.setCell ⟨b, 1, none⟩ v') B b n v' (rs.eraseIdx k) T) := Lib.hid fun v' ho => H.out.turned (HB4.out.block b hbl) HB4.out.size ho
    have HM : Hid (∀ v', RMoved B w (w4.setCell ⟨b, 1, none⟩ v')) := Lib.hid fun v' => (RMoved.of_below HB4.out hbase).trans (RMoved.set (i := 1) ((HB4.out.block b hbl).trans H.out.head) (.inr rfl) H.out.geb v')
    have HF : Hid (∀ v' i, i < w.heap.size → i ≠ b → (w4.setCell ⟨b, 1, none⟩ v').heap[i]? = w.heap[i]?) := Lib.hid fun v' i hi hne => (heap_setCell_other w4 ⟨b, 1, none⟩ i v' hne).trans (HB4.out.block i hi)
    go_end0
    refine ⟨rfl, ⟨_, HT.out _ ?_, fun g' hg' => (by cases a4 with | none => cases hg' | some a => exact ownBlock_ge HOW4.out hg')⟩, HM.out _, HF.out _⟩
    rw [HFL.out, ← HFIN.out]
    have := HOW4.out.mono hbase
    simpa using this
end
end Go.Proofs.Ytambdhoeakddhaa
