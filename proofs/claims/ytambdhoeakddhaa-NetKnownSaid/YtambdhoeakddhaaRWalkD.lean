/- The walks over the document's Send, and its rows where a net agrees. -/
import Derived.Test.YtambdhoeakddhaaRWalkC
namespace Go.Proofs.Ytambdhoeakddhaa
open Go Go.RowKit Go.Conc
set_option linter.unusedVariables false

def lbAt (n : Nat) (lb : Nat → List Nat) (e : Int) : List Nat := if 0 ≤ e ∧ e < n then lb e.toNat else []
section
variable {w w' : World} {B b n : Nat} {av : Value} {rs : List RM} {T : Nat} {way : List Msg} {box : Nat → List Msg} {lw : List Nat} {lb : Nat → List Nat}
theorem Agree.at_ (h : Agree n rs T way box lw lb) (e : Int) (he : 0 ≤ e) : RowIs rs e (lbAt n lb e) := by
  unfold lbAt
  split
  · rename_i hx
    have := h.rowb e.toNat (by omega)
    rwa [toNat_cast he] at this
  · refine ⟨List.Pairwise.nil, fun i => ⟨fun hi => (by cases hi), ?_⟩⟩
    rintro ⟨r, hr, hs⟩
    unfold sel at hs
    rw [if_neg (by omega)] at hs
    simp only [Bool.and_eq_true, beq_iff_eq] at hs
    have := h.dst r (List.mem_of_getElem? hr)
    omega
theorem Agree.len_at (h : Agree n rs T way box lw lb) (e : Int) : (lbAt n lb e).length = (qAt n box e).length := by
  unfold lbAt qAt
  split
  · rename_i hx; exact h.lens.2 _ (by omega)
  · rfl

theorem row_way (h : RefAt w B b n av rs T) (ha : Agree n rs T way box lw lb) (hT : T ≤ 900) :
    Calls Try.prog 37 #[.pointer (some ⟨b, 0, none⟩), .int .i64 (-1)] w fun E w' => ∃ v, E = .returned v ∧ w'.ownsRow w.heap.size 3 1 v lw.length (ints lw) ∧ Below w.heap.size w w' := by
  refine (ref_row h (by have := ha.few; omega) ha.inj (-1)).mono ?_
  rintro E w' ⟨v, l, rfl, hl, ho, hB⟩
  rw [hl.unique ha.roww] at ho
  exact ⟨v, rfl, ho, hB⟩
theorem row_box (h : RefAt w B b n av rs T) (ha : Agree n rs T way box lw lb) (hT : T ≤ 900) (e : Int) (he : 0 ≤ e) :
    Calls Try.prog 37 #[.pointer (some ⟨b, 0, none⟩), .int .i64 e] w fun E w' => ∃ v, E = .returned v ∧ w'.ownsRow w.heap.size 3 1 v (lbAt n lb e).length (ints (lbAt n lb e)) ∧ Below w.heap.size w w' := by
  refine (ref_row h (by have := ha.few; omega) ha.inj e).mono ?_
  rintro E w' ⟨v, l, rfl, hl, ho, hB⟩
  rw [hl.unique (ha.at_ e he)] at ho
  exact ⟨v, rfl, ho, hB⟩
theorem owns_slice3 {w : World} {B m : Nat} {v : Value} {xs : List Value} (h : w.ownsRow B 3 1 v m xs) : ∃ a c, v = .slice a m c := by
  rcases h.2 with ⟨rfl, hn⟩ | ⟨g, c, cur, rfl, _⟩
  · exact ⟨none, 0, by rw [hn]⟩
  · exact ⟨_, _, rfl⟩

/-- The document's net at b agrees with the rows. -/
def RNet (w : World) (B b n T : Nat) (way : List Msg) (box : Nat → List Msg) : Prop := ∃ av rs lw lb, RefAt w B b n av rs T ∧ Agree n rs T way box lw lb
theorem RNet.kept (h : RNet w B b n T way box) (hb : Below w.heap.size w w') : RNet w' B b n T way box := by
  obtain ⟨av, rs, lw, lb, h1, h2⟩ := h; exact ⟨av, rs, lw, lb, h1.kept hb, h2⟩
theorem RNet.base (h : RNet w B b n T way box) : B ≤ w.heap.size := by obtain ⟨av, rs, lw, lb, h1, h2⟩ := h; exact h1.base

/-- One put behind all others. -/
theorem RefAt.put (h : RefAt w B b n av rs T) {w3 : World} {v' : Value} {r : RM} (hg : w.grownBy w3 av.ownBlock) (ho : w3.ownsRow B 49 5 v' (rs.length + 1) (rs.flatMap rcells ++ rcells r)) :
    RefAt (w3.setCell ⟨b, 1, none⟩ v') B b n v' (rs ++ [r]) T ∧ RMoved B w (w3.setCell ⟨b, 1, none⟩ v') := by
  have hb := hg.block b (block_lt h.head) (own_block_49 h.row h.head (by decide))
  refine ⟨h.turned hb hg.size (by simpa using ho), (RMoved.grown h.row hg h.base).trans (RMoved.set (i := 1) (hb.trans h.head) (.inr rfl) h.geb v')⟩
theorem RefAt.ticked (h : RefAt w B b n av rs T) : RMoved B w (w.setCell ⟨b, 2, none⟩ (.int .i64 ((T : Int) + 1))) := RMoved.set (i := 2) h.head (.inr rfl) h.geb _

set_option maxRecDepth 8000 in
set_option maxHeartbeats 4000000 in
theorem ref_send_ok (h : RefAt w B b n av rs T) (ha : Agree n rs T way box lw lb) (hT : T ≤ 900) (s d : Int) (hs : 0 ≤ s ∧ s < n) (hd : 0 ≤ d ∧ d < n) (a : Option Addr) (l c : Nat) (xs : List Int) (hx : ∀ w', Below B w w' → BRead w' a l xs) (hlen : way.length < 256) :
    Calls Try.prog 25 #[.pointer (some ⟨b, 0, none⟩), .int .i64 s, .int .i64 d, .slice a l c] w fun e w' => e = .returned (.int .i64 0) ∧ RNet w' B b n (T + 1) (way ++ [⟨s, d, xs⟩]) box ∧ RMoved B w w' := by
  obtain ⟨i0, hi, hz0, hz1, hz2⟩ := info_parts Try.info49
  have HI := Lib.hid hi
  have HZ0 := Lib.hid hz0
  have HZ1 := Lib.hid hz1
  have HZ2 := Lib.hid hz2
  have H := Lib.hid h
  have HA := Lib.hid ha
  have HX := Lib.hid hx
  have hll : (lw.length : Int) < 256 := by have := ha.lens.1; omega
  have HS := Lib.hid hs
  have HD := Lib.hid hd
  clear hi hz0 hz1 hz2 h ha hx hs hd
  go_enter Try.func25, Try.ntmps25
  go_wp2_with fail
  refine (ref_is_in H.out s HS.out.1 HS.out.2).mono ?_
  rintro e _ ⟨rfl, rfl⟩
  go_wp2_with fail
  refine (ref_is_in H.out d HD.out.1 HD.out.2).mono ?_
  rintro e _ ⟨rfl, rfl⟩
  go_wp2_with fail
  refine (row_way H.out HA.out hT).mono ?_
  rintro e w1 ⟨v, rfl, hown, hB⟩
  obtain ⟨va, vc, rfl⟩ := owns_slice3 hown
  have H1 := Lib.hid (H.out.kept hB)
  have HX1 : Hid (∀ w', Below B w1 w' → BRead w' a l xs) := Lib.hid fun w' hb => HX.out w' ((hB.mono H.out.base).trans hb)
  have HB1 := Lib.hid hB
  have hh1 := H1.out.head
  have hlt : decide ((lw.length : Int) = 256) = false := by simp; omega
  have hlt2 : ((lw.length : Int) == 256) = false := by simp; omega
  clear hown hB
  obtain ⟨a0, c0, rfl⟩ := H1.out.slice
  obtain ⟨L, hL⟩ : ∃ L, rs.length = L := ⟨_, rfl⟩
  have hLT : L ≤ 900 := by have := HA.out.few; omega
  have HLL := Lib.hid hL
  have hc1 := H1.out.c1
  have hf1 := frozen_of_row w1 b 1 _ 69 hh1
  have hbl := block_lt hh1
  have hbs := H1.out.base
  rw [hL] at hc1
  have cx := conv_read (cap := c) (HX1.out w1 (Below.refl _ _))
  have cxd := conv_read (cap := c) (HX1.out w1.drew (Below.refl B w1).drew)
  have hT2 : T ≤ 1000 := by omega
  go_wp2_with fail
  go_region_law (first | (go_simp; go_at_call 38; refine (ref_behind (H1.out.kept ((Below.refl w1.heap.size w1).drew)) hT2).mono ?_; rintro e w2 ⟨rfl, hw2⟩; have H2 := Lib.hid (hw2 ▸ (H1.out.kept ((Below.refl w1.heap.size w1).drew)).tick); have M2 := Lib.hid ((RMoved.of_below ((Below.refl w1.heap.size w1).drew) hbs).trans (hw2 ▸ (H1.out.kept ((Below.refl w1.heap.size w1).drew)).ticked)); clear hw2; have k1 := H2.out.c1; rw [HLL.out] at k1; have kx := conv_read (cap := c) (HX1.out w2 M2.out.bel); have BB := (Below.refl w2.heap.size w2).alloc (Nat.le_refl _) (.cells #[.int .i64 s, .int .i64 d, .string (strOfNums xs), .bool false, .int .i64 ((T : Int) + 1)] 49); have H3 := Lib.hid (H2.out.kept BB); have M3 := Lib.hid (RMoved.of_below BB H2.out.base); have k3 := H3.out.c1; rw [HLL.out] at k3; have fz3 := frozen_of_row (w2.alloc (.cells #[.int .i64 s, .int .i64 d, .string (strOfNums xs), .bool false, .int .i64 ((T : Int) + 1)] 49)) b 1 _ 69 H3.out.head; have hb2 := block_lt H3.out.head; have hne := own_block_49 H3.out.row H3.out.head (by decide); have hz2 := H2.out.base; have hr3 := H3.out.row; rw [HLL.out] at hr3; have HR3 := Lib.hid hr3; clear BB hr3) | (refine step_append_lies _ (by rfl) _ _ 67 (by rfl) B 49 i0 _ 5 48 Try.underlying67 HI.out HZ0.out HZ1.out HZ2.out rfl (by omega) _ L (rs.flatMap rcells) (by rfl) HR3.out ⟨w2.heap.size, 0, none⟩ 1 1 [.int .i64 s, .int .i64 d, .string (strOfNums xs), .bool false, .int .i64 ((T : Int) + 1)] (by rfl) rfl (World.news_of_block (heap_alloc_new w2 _)) (by simp [Value.oneCell']) (by omega) (by unfold maxLen; omega) (by omega) (by simp; omega) (w2.heap.size + 1) (by simp) ?_; intro g cap' w3 hown3 hgrow hat hlt; have f0 := (hgrow.cell_far ⟨b, 1, none⟩ hb2 (HLL.out ▸ hne)).trans k3; have f1 := (hgrow.frozen_far ⟨b, 1, none⟩ hb2 (HLL.out ▸ hne)).trans fz3))
  all_goals
    obtain ⟨hP, hM⟩ := H3.out.put (r := ⟨s, d, strOfNums xs, false, ((T + 1 : Nat) : Int)⟩) (w3 := w3) (v' := .slice (some ⟨g, 0, none⟩) (L + 1) cap') (HLL.out ▸ hgrow) (by rw [HLL.out]; simpa [rcells] using hown3)
    have hA := HA.out.send ⟨s, d, xs⟩ HD.out
    have hN : RNet (w3.setCell ⟨b, 1, none⟩ (.slice (some ⟨g, 0, none⟩) (L + 1) cap')) B b n (T + 1) (way ++ [⟨s, d, xs⟩]) box := ⟨_, _, _, _, hP, hA⟩
    have FIN := Lib.hid (And.intro hN ((RMoved.of_below HB1.out H.out.base).trans (M2.out.trans (M3.out.trans hM))))
    clear hP hM hA hN
    go_wp2
    go_ret
    exact ⟨rfl, FIN.out⟩
end
end Go.Proofs.Ytambdhoeakddhaa
