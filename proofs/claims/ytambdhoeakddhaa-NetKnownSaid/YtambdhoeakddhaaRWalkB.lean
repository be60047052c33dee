/- The walk over the document's Row. -/
import Derived.Test.YtambdhoeakddhaaRWalkA
namespace Go.Proofs.Ytambdhoeakddhaa
open Go Go.RowKit Go.Conc
set_option linter.unusedVariables false

/-- The indices, as far as they were looked at. -/
def upTo (e : Int) (rs : List RM) (k : Nat) : List Nat := (List.range k).filter fun i => match rs[i]? with
  | some r => sel e r
  | none => false
theorem upTo_next {e : Int} {rs : List RM} {k : Nat} {r : RM} (hr : rs[k]? = some r) : upTo e rs (k + 1) = upTo e rs k ++ if sel e r then [k] else [] := by
  unfold upTo
  rw [List.range_succ, List.filter_append, List.filter_cons, hr]
  cases hs : sel e r <;> simp [hs]
theorem upTo_len (e : Int) (rs : List RM) (k : Nat) : (upTo e rs k).length ≤ k := by
  unfold upTo; exact Nat.le_trans (List.length_filter_le _ _) (by simp)
theorem upTo_mem {e : Int} {rs : List RM} {i : Nat} : i ∈ upTo e rs rs.length ↔ ∃ r, rs[i]? = some r ∧ sel e r = true := by
  unfold upTo
  rw [List.mem_filter, List.mem_range]
  constructor
  · rintro ⟨h1, h2⟩
    rw [List.getElem?_eq_getElem h1] at h2 ⊢
    exact ⟨_, rfl, h2⟩
  · rintro ⟨r, hr, hs⟩
    exact ⟨(List.getElem?_eq_some_iff.1 hr).1, by rw [hr]; exact hs⟩
theorem upTo_nodup (e : Int) (rs : List RM) (k : Nat) : (upTo e rs k).Pairwise fun a b => a ≠ b := by
  unfold upTo
  exact (List.nodup_range.sublist List.filter_sublist)
def ints (l : List Nat) : List Value := l.map fun (i : Nat) => Value.int .i64 (i : Int)
theorem Try.info3 : (Try.prog.info? 3).map (fun i => (i.zero, i.size, i.bytes)) = some (some (.int .i64 0), 1, 8) := by kernel_rfl

/-- A row of indices in memory. -/
structure LRow (w : World) (g cap : Nat) (l : List Nat) : Prop where
  blk : ∃ cur : Array Value, w.heap[g]? = some (.cells cur 3 (0, 0)) ∧ cur.size = cap ∧ ∀ (j x : Nat), l[j]? = some x → cur[j]? = some (.int .i64 (x : Int))
  le : l.length ≤ cap
theorem LRow.cell {w : World} {g cap : Nat} {l : List Nat} (h : LRow w g cap l) {j x : Nat} (hj : l[j]? = some x) : w.cell? ⟨g, j, none⟩ = some (.int .i64 (x : Int)) := by
  obtain ⟨cur, h1, _, h3⟩ := h.blk
  rw [cell_of_row w g j _ 3 (0, 0) h1]; exact h3 j x hj
theorem LRow.frozen {w : World} {g cap : Nat} {l : List Nat} (h : LRow w g cap l) (j : Nat) : w.frozen? ⟨g, j, none⟩ = false := by
  obtain ⟨cur, h1, _⟩ := h.blk
  exact frozen_of_row w g j _ 3 h1
theorem LRow.set {w : World} {g cap : Nat} {l : List Nat} (h : LRow w g cap l) (j x : Nat) (hj : j < l.length) : LRow (w.setCell ⟨g, j, none⟩ (.int .i64 (x : Int))) g cap (l.set j x) := by
  obtain ⟨cur, h1, h2, h3⟩ := h.blk
  refine ⟨⟨_, heap_setCell_same w g j _ 3 _ h1, by simpa using h2, fun i y hi => ?_⟩, by simpa using h.le⟩
  have hcj : j < cur.size := by have := h.le; omega
  by_cases e : i = j
  · subst e
    rw [List.getElem?_set_self hj] at hi
    rw [← Option.some.inj hi]; simp [hcj]
  · rw [List.getElem?_set_ne (Ne.symm e)] at hi
    rw [Array.getElem?_setIfInBounds_ne (Ne.symm e)]; exact h3 i y hi
theorem LRow.same {w w' : World} {g cap : Nat} {l : List Nat} (h : LRow w g cap l) (hk : w'.heap[g]? = w.heap[g]?) : LRow w' g cap l := by
  obtain ⟨cur, h1, h2⟩ := h.blk
  exact ⟨⟨cur, hk.trans h1, h2⟩, h.le⟩
theorem LRow.lt {w : World} {g cap : Nat} {l : List Nat} (h : LRow w g cap l) : g < w.heap.size := by
  obtain ⟨cur, h1, _⟩ := h.blk; exact block_lt h1
theorem LRow.owns {w : World} {g cap : Nat} {l : List Nat} (h : LRow w g cap l) {base : Nat} (hb : base ≤ g) (hm : cap ≤ maxLen) : w.ownsRow base 3 1 (.slice (some ⟨g, 0, none⟩) l.length cap) l.length (ints l) := by
  obtain ⟨cur, h1, h2, h3⟩ := h.blk
  refine ⟨by simp [ints], .inr ⟨g, cap, cur, rfl, hb, h1, h.le, hm, by omega, ?_⟩⟩
  apply List.ext_getElem?
  intro j
  have hl := h.le
  by_cases hj : j < l.length
  · rw [List.getElem?_take_of_lt (by omega), Array.getElem?_toList, h3 j _ (List.getElem?_eq_getElem hj)]
    simp [ints, hj]
  · rw [List.getElem?_eq_none (by rw [List.length_take]; omega), List.getElem?_eq_none (by simp [ints]; omega)]
theorem lrow_of {w : World} {base : Nat} {v : Value} {l : List Nat} (h : w.ownsRow base 3 1 v l.length (ints l)) (hne : 0 < l.length) : ∃ g cap, v = .slice (some ⟨g, 0, none⟩) l.length cap ∧ LRow w g cap l ∧ base ≤ g ∧ cap ≤ maxLen := by
  obtain ⟨hl, ⟨_, hn⟩ | ⟨g, c, cur, hv, hB, hg, hnc, hcm, hsz, htake⟩⟩ := h
  · omega
  · refine ⟨g, c, hv, ⟨⟨cur, hg, by omega, fun j x hj => ?_⟩, hnc⟩, hB, hcm⟩
    have hjl := (List.getElem?_eq_some_iff.1 hj).1
    have e : (cur.toList.take (l.length * 1))[j]? = cur[j]? := by rw [List.getElem?_take_of_lt (by omega)]; simp
    rw [← e, htake]; simp [ints, hj]
/-- One put in among those in order. -/
theorem sorted_put {f : Nat → Int} {A Bs : List Nat} {x : Nat} (h : (A ++ Bs).Pairwise fun a b => f a < f b) (hA : ∀ a ∈ A, f a < f x) (hB : ∀ y ∈ Bs, f x < f y) : (A ++ x :: Bs).Pairwise fun a b => f a < f b := by
  obtain ⟨h1, h2, h3⟩ := List.pairwise_append.1 h
  refine List.pairwise_append.2 ⟨h1, List.pairwise_cons.2 ⟨hB, h2⟩, fun a ha b hb => ?_⟩
  rcases List.mem_cons.1 hb with rfl | hb
  · exact hA a ha
  · exact h3 a ha b hb
theorem hend_perm {P A Bs R l0 : List Nat} {x : Nat} (h : (P ++ x :: R).Perm l0) (hP : P = A ++ Bs) : (A ++ x :: (Bs ++ R)).Perm l0 := by
  refine List.Perm.trans ?_ h
  rw [hP, List.append_assoc]
  exact List.Perm.append_left A (List.perm_middle.symm)
theorem swap_eq (x y : Nat) (S : List Nat) : ∀ A1 : List Nat, ((A1 ++ [y] ++ x :: S).set (A1.length + 1) y).set A1.length x = A1 ++ x :: (y :: S)
  | [] => rfl
  | a :: A1 => by
    have := swap_eq x y S A1
    simp only [List.cons_append, List.length_cons, List.set_cons_succ] at *
    rw [this]
theorem tm_of {rs : List RM} {k : Nat} {r : RM} (h : rs[k]? = some r) : tmAt rs k = r.tm := by unfold tmAt; rw [h]

section
variable {w w' : World} {B b n : Nat} {av : Value} {rs : List RM} {T : Nat}
set_option maxRecDepth 8000 in
set_option maxHeartbeats 4000000 in
theorem ref_row (h : RefAt w B b n av rs T) (hlen : rs.length ≤ 1000) (hinj : ∀ i j, i < rs.length → j < rs.length → tmAt rs i = tmAt rs j → i = j) (e : Int) :
    Calls Try.prog 37 #[.pointer (some ⟨b, 0, none⟩), .int .i64 e] w fun E w' => ∃ v l, E = .returned v ∧ RowIs rs e l ∧ w'.ownsRow w.heap.size 3 1 v l.length (ints l) ∧ Below w.heap.size w w' := by
  obtain ⟨i0, hi, hz0, hz1, hz2⟩ := info_parts Try.info3
  have HI := Lib.hid hi
  have HZ0 := Lib.hid hz0
  have HZ1 := Lib.hid hz1
  have HZ2 := Lib.hid hz2
  clear hi hz0 hz1 hz2
  have H := Lib.hid h
  have HINJ := Lib.hid hinj
  clear h hinj
  obtain ⟨L, hL⟩ : ∃ L, rs.length = L := ⟨_, rfl⟩
  have HL := Lib.hid hL
  obtain ⟨a0, c0, hav⟩ := H.out.slice
  rw [hL] at hav hlen
  subst hav
  clear hL
  go_enter Try.func37, Try.ntmps37
  go_wp2
  go_loopw [5, 6] (fun v i wr => ∃ (k : Nat), k ≤ L ∧ i = .int .i64 k ∧ wr.ownsRow w.heap.size 3 1 v (upTo e rs k).length (ints (upTo e rs k)) ∧ Below w.heap.size w wr)
    (fun _ i _ => L - (intOf i).toNat)
  case atStart => exact ⟨0, by omega, rfl, ⟨by simp [ints, upTo], .inl ⟨rfl, rfl⟩⟩, Below.refl _ _⟩
  case round =>
    obtain ⟨k, hk, rfl, hown, hBw⟩ := hrel
    have hR := H.out.kept hBw
    have hc := hR.c1
    by_cases hlt : k < L
    · have k0 : (0 : Int) ≤ (k : Int) := by omega
      have k1 : (k : Int) < (L : Int) := by omega
      obtain ⟨r, hr⟩ : ∃ r, rs[k]? = some r := ⟨_, List.getElem?_eq_getElem (by rw [HL.out]; exact hlt)⟩
      obtain ⟨g, c, hv, _, x0, x1, x2, x3, x4⟩ := hR.at_ hr
      rw [HL.out] at hv
      simp only [Value.slice.injEq] at hv
      obtain ⟨rfl, _, rfl⟩ := hv
      have hul := upTo_len e rs k
      have hwz := hBw.size
      have HNX := Lib.hid (upTo_next (e := e) hr)
      obtain ⟨src, dst, bs, wt, tm⟩ := r
      simp only at x0 x1 x2 x3 x4
      have bA : Below wr.heap.size wr (wr.alloc (.cells #[.int .i64 src, .int .i64 dst, .string bs, .bool wt, .int .i64 tm] 49)) := (Below.refl _ _).alloc (Nat.le_refl _) _
      have hB2 : Below w.heap.size w (wr.alloc (.cells #[.int .i64 src, .int .i64 dst, .string bs, .bool wt, .int .i64 tm] 49)) := hBw.trans (bA.mono hBw.size)
      have hown2 : (wr.alloc (.cells #[.int .i64 src, .int .i64 dst, .string bs, .bool wt, .int .i64 tm] 49)).ownsRow w.heap.size 3 1 _ (upTo e rs k).length (ints (upTo e rs k)) := owns_same hown fun g cur _ hg => bA.block g (block_lt hg)
      have hkey := cell_of_row (wr.alloc (.cells #[.int .i64 src, .int .i64 dst, .string bs, .bool wt, .int .i64 tm] 49)) wr.heap.size
      have hb49 : (wr.alloc (.cells #[.int .i64 src, .int .i64 dst, .string bs, .bool wt, .int .i64 tm] 49)).heap[wr.heap.size]? = some (.cells #[.int .i64 src, .int .i64 dst, .string bs, .bool wt, .int .i64 tm] 49 (0, 0)) := heap_alloc_new _ _
      have y1 : (wr.alloc (.cells #[.int .i64 src, .int .i64 dst, .string bs, .bool wt, .int .i64 tm] 49)).cell? ⟨wr.heap.size, 1, none⟩ = some (.int .i64 dst) := by rw [hkey 1 _ 49 (0, 0) hb49]; rfl
      have y3 : (wr.alloc (.cells #[.int .i64 src, .int .i64 dst, .string bs, .bool wt, .int .i64 tm] 49)).cell? ⟨wr.heap.size, 3, none⟩ = some (.bool wt) := by rw [hkey 3 _ 49 (0, 0) hb49]; rfl
      have HO2 := Lib.hid hown2
      have HB2 := Lib.hid hB2
      clear hown2 hB2 hkey hb49 hown hBw hR bA
      by_cases he : e < 0
      · have hd : decide (e < 0) = true := by simpa using he
        have hd2 : decide ((0 : Int) ≤ e) = false := by simpa using he
        cases wt with
        | true =>
          have hs : sel e ⟨src, dst, bs, true, tm⟩ = false := by unfold sel; rw [if_pos he]; rfl
          have hnx := HNX.out
          rw [hs] at hnx
          simp only [Bool.false_eq_true, if_false, List.append_nil] at hnx
          have HNX2 := Lib.hid hnx
          clear HNX hs hnx he
          go_wp2_with fail
          go_roundw
          case rel => exact ⟨k + 1, by omega, by go_num, by rw [HNX2.out]; exact HO2.out, HB2.out⟩
          case measure => simp [intOf]; omega
        | false =>
          have hs : sel e ⟨src, dst, bs, false, tm⟩ = true := by unfold sel; rw [if_pos he]; rfl
          have hnx := HNX.out
          rw [hs] at hnx
          simp only [if_true] at hnx
          have HNX2 := Lib.hid hnx
          clear HNX hs hnx he
          have hz := HB2.out.size
          have bB : Below (wr.alloc (.cells #[.int .i64 src, .int .i64 dst, .string bs, .bool false, .int .i64 tm] 49)).heap.size (wr.alloc (.cells #[.int .i64 src, .int .i64 dst, .string bs, .bool false, .int .i64 tm] 49)) ((wr.alloc (.cells #[.int .i64 src, .int .i64 dst, .string bs, .bool false, .int .i64 tm] 49)).alloc (.cells #[.int .i64 k] 3)) := (Below.refl _ _).alloc (Nat.le_refl _) _
          have HO3 := Lib.hid (show ((wr.alloc (.cells #[.int .i64 src, .int .i64 dst, .string bs, .bool false, .int .i64 tm] 49)).alloc (.cells #[.int .i64 k] 3)).ownsRow w.heap.size 3 1 _ (upTo e rs k).length (ints (upTo e rs k)) from owns_same HO2.out fun g cur _ hg => bB.block g (block_lt hg))
          have HNB : Hid (((wr.alloc (.cells #[.int .i64 src, .int .i64 dst, .string bs, .bool false, .int .i64 tm] 49)).alloc (.cells #[.int .i64 k] 3)).heap[wr.heap.size + 1]? = some (.cells #[.int .i64 k] 3 (0, 0))) := Lib.hid (by have := heap_alloc_new (wr.alloc (.cells #[.int .i64 src, .int .i64 dst, .string bs, .bool false, .int .i64 tm] 49)) (.cells #[.int .i64 k] 3); rw [World.size_alloc] at this; exact this)
          have HB3 := Lib.hid (HB2.out.trans (bB.mono hz))
          clear bB HO2 HB2
          go_wp2_with (at_builtin; refine wpList_append_lies _ rfl _ _ 70 rfl w.heap.size 3 i0 _ 1 8 Try.underlying70 HI.out HZ0.out HZ1.out HZ2.out rfl (by decide) _ (upTo e rs k).length (ints (upTo e rs k)) rfl HO3.out ⟨wr.heap.size + 1, 0, none⟩ 1 1 [.int .i64 k] rfl rfl (World.news_of_block (cs := #[.int .i64 k]) HNB.out) (by simp [Value.oneCell']) (by omega) (by unfold maxLen; omega) (by omega) (by simp; omega) _ rfl ?_; intro g' cap' w3 hown3 hgrow hat hlt3)
          have HB4 := Lib.hid (HB3.out.grown hgrow (by simp; omega) (fun r e => ownBlock_ge HO3.out e))
          have HO4 : Hid (w3.ownsRow w.heap.size 3 1 (.slice (some ⟨g', 0, none⟩) ((upTo e rs k).length + 1) cap') (upTo e rs (k + 1)).length (ints (upTo e rs (k + 1)))) := Lib.hid (by rw [HNX2.out]; simpa [ints] using hown3)
          clear hown3 hgrow hat
          go_roundw
          case rel => exact ⟨k + 1, by omega, by go_num, HO4.out, HB4.out⟩
          case measure => simp [intOf]; omega
      · have hd : decide (e < 0) = false := by simpa using he
        have hd2 : decide ((0 : Int) ≤ e) = true := by simp; omega
        cases wt with
        | false =>
          have hs : sel e ⟨src, dst, bs, false, tm⟩ = false := by unfold sel; rw [if_neg he]; rfl
          have hnx := HNX.out
          rw [hs] at hnx
          simp only [Bool.false_eq_true, if_false, List.append_nil] at hnx
          have HNX2 := Lib.hid hnx
          clear HNX hs hnx he
          go_wp2_with fail
          go_roundw
          case rel => exact ⟨k + 1, by omega, by go_num, by rw [HNX2.out]; exact HO2.out, HB2.out⟩
          case measure => simp [intOf]; omega
        | true =>
          by_cases hde : dst = e
          · have hd3 : (dst == e) = true := by simpa using hde
            have hs : sel e ⟨src, dst, bs, true, tm⟩ = true := by unfold sel; rw [if_neg he]; simpa using hde
            have hnx := HNX.out
            rw [hs] at hnx
            simp only [if_true] at hnx
            have HNX2 := Lib.hid hnx
            clear HNX hs hnx he hde
            have hz := HB2.out.size
            have bB : Below (wr.alloc (.cells #[.int .i64 src, .int .i64 dst, .string bs, .bool true, .int .i64 tm] 49)).heap.size (wr.alloc (.cells #[.int .i64 src, .int .i64 dst, .string bs, .bool true, .int .i64 tm] 49)) ((wr.alloc (.cells #[.int .i64 src, .int .i64 dst, .string bs, .bool true, .int .i64 tm] 49)).alloc (.cells #[.int .i64 k] 3)) := (Below.refl _ _).alloc (Nat.le_refl _) _
            have HO3 := Lib.hid (show ((wr.alloc (.cells #[.int .i64 src, .int .i64 dst, .string bs, .bool true, .int .i64 tm] 49)).alloc (.cells #[.int .i64 k] 3)).ownsRow w.heap.size 3 1 _ (upTo e rs k).length (ints (upTo e rs k)) from owns_same HO2.out fun g cur _ hg => bB.block g (block_lt hg))
            have HNB : Hid (((wr.alloc (.cells #[.int .i64 src, .int .i64 dst, .string bs, .bool true, .int .i64 tm] 49)).alloc (.cells #[.int .i64 k] 3)).heap[wr.heap.size + 1]? = some (.cells #[.int .i64 k] 3 (0, 0))) := Lib.hid (by have := heap_alloc_new (wr.alloc (.cells #[.int .i64 src, .int .i64 dst, .string bs, .bool true, .int .i64 tm] 49)) (.cells #[.int .i64 k] 3); rw [World.size_alloc] at this; exact this)
            have HB3 := Lib.hid (HB2.out.trans (bB.mono hz))
            clear bB HO2 HB2
            go_wp2_with (at_builtin; refine wpList_append_lies _ rfl _ _ 70 rfl w.heap.size 3 i0 _ 1 8 Try.underlying70 HI.out HZ0.out HZ1.out HZ2.out rfl (by decide) _ (upTo e rs k).length (ints (upTo e rs k)) rfl HO3.out ⟨wr.heap.size + 1, 0, none⟩ 1 1 [.int .i64 k] rfl rfl (World.news_of_block (cs := #[.int .i64 k]) HNB.out) (by simp [Value.oneCell']) (by omega) (by unfold maxLen; omega) (by omega) (by simp; omega) _ rfl ?_; intro g' cap' w3 hown3 hgrow hat hlt3)
            have HB4 := Lib.hid (HB3.out.grown hgrow (by simp; omega) (fun r e => ownBlock_ge HO3.out e))
            have HO4 : Hid (w3.ownsRow w.heap.size 3 1 (.slice (some ⟨g', 0, none⟩) ((upTo e rs k).length + 1) cap') (upTo e rs (k + 1)).length (ints (upTo e rs (k + 1)))) := Lib.hid (by rw [HNX2.out]; simpa [ints] using hown3)
            clear hown3 hgrow hat
            go_roundw
            case rel => exact ⟨k + 1, by omega, by go_num, HO4.out, HB4.out⟩
            case measure => simp [intOf]; omega
          · have hd3 : (dst == e) = false := by simpa using hde
            have hs : sel e ⟨src, dst, bs, true, tm⟩ = false := by unfold sel; rw [if_neg he]; simpa using hde
            have hnx := HNX.out
            rw [hs] at hnx
            simp only [Bool.false_eq_true, if_false, List.append_nil] at hnx
            have HNX2 := Lib.hid hnx
            clear HNX hs hnx he hde
            go_wp2_with fail
            go_roundw
            case rel => exact ⟨k + 1, by omega, by go_num, by rw [HNX2.out]; exact HO2.out, HB2.out⟩
            case measure => simp [intOf]; omega
    · obtain rfl : k = L := by omega
      have hul := upTo_len e rs k
      have hmem : ∀ i, i ∈ upTo e rs k ↔ ∃ r, rs[i]? = some r ∧ sel e r = true := fun i => by rw [← HL.out]; exact upTo_mem
      have hnd := upTo_nodup e rs k
      generalize upTo e rs k = l0 at *
      have HMEM := Lib.hid hmem
      have HND := Lib.hid hnd
      clear hmem hnd hR
      by_cases hM : l0.length ≤ 1
      · have hv : ∃ a c, u5 = .slice a l0.length c := by
          rcases hown.2 with ⟨rfl, hn⟩ | ⟨g, c, cur, rfl, _⟩
          · exact ⟨none, 0, by rw [hn]⟩
          · exact ⟨_, _, rfl⟩
        obtain ⟨a, c, rfl⟩ := hv
        have HO := Lib.hid hown
        have HB := Lib.hid hBw
        clear hown hBw
        have hm1 : (l0.length : Int) ≤ 1 := by omega
        go_wp2_with fail
        go_loopw [8] (fun i wx => i = .int .i64 1 ∧ wx = wr) (fun i wx => 0)
        case atStart => exact ⟨rfl, rfl⟩
        case round =>
          obtain ⟨rfl, rfl⟩ := hrel
          go_wp2_with fail
          go_ret
          refine ⟨_, l0, rfl, ⟨?_, HMEM.out⟩, HO.out, HB.out⟩
          match l0, hM with
          | [], _ => exact List.Pairwise.nil
          | [x], _ => simp
      · obtain ⟨g, cap, rfl, hrow, hbg, hcm⟩ := lrow_of hown (by omega)
        have hm1 : 2 ≤ l0.length := by omega
        have HROW := Lib.hid hrow
        have HB := Lib.hid hBw
        have HCM := Lib.hid hcm
        clear hown hBw hrow hcm hM
        go_wp2_with fail
        clear hc
        go_loopw [8] (fun i wx => ∃ (ii : Nat) (l : List Nat), 1 ≤ ii ∧ ii ≤ l0.length ∧ i = .int .i64 ii ∧ l.Perm l0 ∧ ((l.take ii).Pairwise fun a b => tmAt rs a < tmAt rs b) ∧ LRow wx g cap l ∧ Below w.heap.size w wx)
          (fun i _ => l0.length - (intOf i).toNat)
        case atStart =>
          refine ⟨1, l0, by omega, by omega, rfl, List.Perm.refl _, ?_, HROW.out, HB.out⟩
          match l0, hm1 with
          | x :: l, _ => simp
        case round =>
          clear HROW HB
          obtain ⟨ii, l, h1, h2, rfl, hperm, hsort, hrow, hBw⟩ := hrel
          have hpl := hperm.length_eq
          by_cases hlt : ii < l0.length
          · have k0 : (0 : Int) ≤ (ii : Int) := by omega
            have k1 : (ii : Int) < (l0.length : Int) := by omega
            obtain ⟨P, x, R, hl, hPl⟩ := split_at l ii (by omega)
            have hP : l.take ii = P := by rw [hl, ← hPl]; simp
            rw [hP] at hsort
            subst hl
            have HP := Lib.hid (And.intro hperm hsort)
            have HROW := Lib.hid hrow
            have HB := Lib.hid hBw
            have hxm : x ∈ l0 := hperm.mem_iff.1 (by simp)
            obtain ⟨rx, hrx, _⟩ := (HMEM.out x).1 hxm
            have HRX := Lib.hid hrx
            clear hperm hsort hrow hBw hP hxm hrx
            go_wp2_with fail
            go_loopw [9] (fun kv wx => ∃ (A Bs : List Nat), P = A ++ Bs ∧ kv = .int .i64 A.length ∧ (∀ y ∈ Bs, tmAt rs x < tmAt rs y) ∧ LRow wx g cap (A ++ x :: (Bs ++ R)) ∧ Below w.heap.size w wx)
              (fun kv _ => (intOf kv).toNat)
            case atStart => exact ⟨P, [], by simp, by rw [hPl], fun y hy => (by cases hy), by simpa using HROW.out, HB.out⟩
            case round =>
              clear HROW HB
              obtain ⟨A, Bs, hPA, rfl, hBs, hrow, hBw⟩ := hrel
              have hend : ∀ (hA : ∀ a ∈ A, tmAt rs a < tmAt rs x), (A ++ x :: (Bs ++ R)).Perm l0 ∧ (((A ++ x :: (Bs ++ R)).take (ii + 1)).Pairwise fun a b => tmAt rs a < tmAt rs b) := fun hA => by
                have hlen : A.length + Bs.length = ii := by rw [← hPl, hPA]; simp
                refine ⟨List.Perm.trans ?_ HP.out.1, ?_⟩
                · rw [hPA, List.append_assoc]
                  exact List.Perm.append_left A (List.perm_middle.symm)
                · have : (A ++ x :: (Bs ++ R)).take (ii + 1) = A ++ x :: Bs := by
                    rw [show A ++ x :: (Bs ++ R) = (A ++ x :: Bs) ++ R by simp]
                    exact List.take_left' (by simp; omega)
                  rw [this]
                  exact sorted_put (hPA ▸ HP.out.2) hA hBs
              have HEND := Lib.hid hend
              have HROW := Lib.hid hrow
              have HB := Lib.hid hBw
              have hR := H.out.kept hBw
              have hc := hR.c1
              have hAl : A.length ≤ ii := by rw [← hPl, hPA]; simp
              cases hA : A.reverse with
              | nil =>
                have hA0 : A = [] := by simpa using hA
                subst hA0
                obtain ⟨p1, p2⟩ := hend (fun a ha => by cases ha)
                have HE := Lib.hid (And.intro p1 p2)
                have HRq : Hid (∀ q : Nat, LRow (wr.drewN q) g cap ([] ++ x :: (Bs ++ R))) := Lib.hid fun q => HROW.out.same rfl
                have HBq := Lib.hid (fun q => below_drewN HB.out q)
                have d0 : decide ((0 : Int) < ((([] : List Nat).length : Nat) : Int)) = false := rfl
                clear hend p1 p2 hR HEND hrow hBw hA hBs hPA
                go_wp2_with fail
                go_quiet (fail)
                go_wp2_with fail
                go_roundw
                case rel => exact ⟨ii + 1, _, by omega, by omega, by go_num, HE.out.1, HE.out.2, HRq.out _, HBq.out _⟩
                case measure => simp [intOf]; omega
              | cons y A' =>
                have hA0 : A = A'.reverse ++ [y] := by have := congrArg List.reverse hA; simpa using this
                obtain ⟨A1, hA1⟩ : ∃ A1, A'.reverse = A1 := ⟨_, rfl⟩
                rw [hA1] at hA0
                subst hA0
                have hym : y ∈ l0 := (hend_perm HP.out.1 hPA).mem_iff.1 (by simp)
                obtain ⟨ry, hry, _⟩ := (HMEM.out y).1 hym
                obtain ⟨g2, c2, hv, _, _, _, _, _, x4⟩ := hR.at_ HRX.out
                rw [HL.out] at hv
                simp only [Value.slice.injEq] at hv
                obtain ⟨rfl, _, rfl⟩ := hv
                obtain ⟨g3, c3, hv3, _, _, _, _, _, y4⟩ := hR.at_ hry
                rw [HL.out] at hv3
                simp only [Value.slice.injEq, Option.some.injEq, Addr.mk.injEq] at hv3
                obtain ⟨⟨rfl, _⟩, _, rfl⟩ := hv3
                have z1 := HROW.out.cell (j := A1.length + 1) (x := x) (by rw [List.getElem?_append_right (by simp)]; simp)
                have z2 := HROW.out.cell (j := A1.length) (x := y) (by rw [List.append_assoc, List.getElem?_append_right (by omega)]; simp)
                have hkl : (A1 ++ [y]).length = A1.length + 1 := by simp
                have hx1 : (x : Int) < (k : Int) := by have := (List.getElem?_eq_some_iff.1 HRX.out).1; have := HL.out; omega
                have hy1 : (y : Int) < (k : Int) := by have := (List.getElem?_eq_some_iff.1 hry).1; have := HL.out; omega
                have hx0 : (0 : Int) ≤ (x : Int) := by omega
                have hy0 : (0 : Int) ≤ (y : Int) := by omega
                have hal2 : A1.length + 1 < l0.length := by rw [hkl] at hAl; omega
                have q1 : ((A1.length : Nat) : Int) + 1 < (l0.length : Int) := by omega
                have q2 : (0 : Int) ≤ ((A1.length : Nat) : Int) := by omega
                have d0 : decide ((0 : Int) < ((A1.length : Nat) : Int) + 1) = true := decide_eq_true (by omega)
                have htx := tm_of HRX.out
                have hty := tm_of hry
                by_cases hcmp : rx.tm < ry.tm
                · have d1 : decide (rx.tm < ry.tm) = true := by simpa using hcmp
                  have hBs2 : ∀ y' ∈ y :: Bs, tmAt rs x < tmAt rs y' := fun y' hy' => by
                    rcases List.mem_cons.1 hy' with rfl | hy'
                    · omega
                    · exact hBs y' hy'
                  have hPA2 : P = A1 ++ y :: Bs := by rw [hPA]; simp
                  have HBS := Lib.hid (And.intro hBs2 hPA2)
                  have HRq : Hid (∀ q : Nat, LRow (wr.drewN q) g cap (A1 ++ [y] ++ x :: (Bs ++ R))) := Lib.hid fun q => HROW.out.same rfl
                  have HBq := Lib.hid (fun q => below_drewN HB.out q)
                  rw [hkl]
                  clear hend HEND hrow hBw hA hBs hPA hcmp hym hry htx hty hkl hAl hBs2 hPA2
                  go_wp2_with fail
                  go_quiet (fail)
                  have hr4 := HRq.out nq
                  have HB4 := Lib.hid (HBq.out nq)
                  clear HRq HBq
                  generalize wr.drewN nq = wq at *
                  have z1 := hr4.cell (j := A1.length + 1) (x := x) (by rw [List.getElem?_append_right (by simp)]; simp)
                  have z2 := hr4.cell (j := A1.length) (x := y) (by rw [List.append_assoc, List.getElem?_append_right (by omega)]; simp)
                  have f1 := hr4.frozen (A1.length + 1)
                  have f2 := hr4.frozen A1.length
                  have hs1 := hr4.set (A1.length + 1) y (by simp)
                  have hs2 := hr4.set A1.length x (by simp)
                  have v1 := hs1.cell (j := A1.length) (x := y) (by rw [List.getElem?_set_ne (by omega), List.append_assoc, List.getElem?_append_right (by omega)]; simp)
                  have v2 := hs2.cell (j := A1.length + 1) (x := x) (by rw [List.getElem?_set_ne (by omega), List.getElem?_append_right (by simp)]; simp)
                  have g1 := hs1.frozen A1.length
                  have g2 := hs2.frozen (A1.length + 1)
                  have HS1 := Lib.hid hs1
                  have HS2 := Lib.hid hs2
                  have HR4 := Lib.hid hr4
                  clear hs1 hs2 hr4
                  go_wp2_with fail
                  go_region
                  all_goals
                    have hl3 := HS1.out.set A1.length x (by simp)
                    rw [swap_eq] at hl3
                    have HL3 := Lib.hid hl3
                    have HB5 := Lib.hid ((HB4.out.setCell (show w.heap.size ≤ (⟨g, A1.length + 1, none⟩ : Addr).block from hbg) (.int .i64 (y : Int))).setCell (show w.heap.size ≤ (⟨g, A1.length, none⟩ : Addr).block from hbg) (.int .i64 (x : Int)))
                    clear hl3
                    go_wp2_with fail
                    go_roundw
                    case rel => exact ⟨A1, y :: Bs, HBS.out.2, by go_num, HBS.out.1, by first | exact HL3.out | exact HL3.out.same rfl, by first | exact HB5.out | exact HB5.out.drew⟩
                    case measure => simp [intOf]
                · have d1 : decide (rx.tm < ry.tm) = false := by simpa using hcmp
                  have hlast : ∀ a ∈ A1 ++ [y], tmAt rs a < tmAt rs x := fun a ha => by
                    have hyx : tmAt rs y < tmAt rs x := by
                      rcases Int.lt_trichotomy (tmAt rs y) (tmAt rs x) with h | h | h
                      · exact h
                      · have e := HINJ.out y x (List.getElem?_eq_some_iff.1 hry).1 (List.getElem?_eq_some_iff.1 HRX.out).1 h
                        have hn := HND.out
                        have hn2 := (hend_perm HP.out.1 hPA).symm.pairwise hn (fun h => Ne.symm h)
                        rw [List.append_assoc] at hn2
                        have := (List.pairwise_append.1 hn2).2.1
                        have := (List.pairwise_cons.1 this).1 x (by simp)
                        exact absurd e this
                      · rw [htx, hty] at h; omega
                    rcases List.mem_append.1 ha with ha | ha
                    · have hs := HP.out.2
                      rw [hPA, List.append_assoc] at hs
                      have := (List.pairwise_append.1 hs).2.2 a ha y (by simp)
                      omega
                    · rw [List.mem_singleton.1 ha]; exact hyx
                  obtain ⟨p1, p2⟩ := hend hlast
                  have HE := Lib.hid (And.intro p1 p2)
                  have HRq : Hid (∀ q : Nat, LRow (wr.drewN q) g cap (A1 ++ [y] ++ x :: (Bs ++ R))) := Lib.hid fun q => HROW.out.same rfl
                  have HBq := Lib.hid (fun q => below_drewN HB.out q)
                  rw [hkl]
                  clear hend p1 p2 hR HEND hrow hBw hA hBs hPA hlast hcmp hym hry htx hty hkl hAl
                  go_wp2_with fail
                  go_quiet (fail)
                  go_wp2_with fail
                  go_roundw
                  case rel => exact ⟨ii + 1, _, by omega, by omega, by go_num, HE.out.1, HE.out.2, HRq.out _, HBq.out _⟩
                  case measure => simp [intOf]; omega
          · have hsl : l.take ii = l := List.take_of_length_le (by omega)
            rw [hsl] at hsort
            have HO := Lib.hid (hrow.owns hbg HCM.out)
            have HB2 := Lib.hid hBw
            have hll : (l0.length : Int) ≤ (ii : Int) := by omega
            rw [← hpl] at hll ⊢
            have HPP := Lib.hid (And.intro hperm hsort)
            clear hrow hBw hperm hsort hsl
            go_wp2_with fail
            go_ret
            exact ⟨_, l, rfl, ⟨HPP.out.2, fun i => HPP.out.1.mem_iff.trans (HMEM.out i)⟩, HO.out, HB2.out⟩
end
end Go.Proofs.Ytambdhoeakddhaa
