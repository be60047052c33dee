/- The walks over the document's Send where nothing is sent, and Receive. -/
import Derived.Test.YtambdhoeakddhaaRWalkD
namespace Go.Proofs.Ytambdhoeakddhaa
open Go Go.RowKit Go.Conc
set_option linter.unusedVariables false

/-- A block of five cells: a message's of the document. -/
structure Five (w : World) (t : Nat) (x0 x1 x2 x3 x4 : Value) : Prop where
  blk : w.heap[t]? = some (.cells #[x0, x1, x2, x3, x4] 49 (0, 0))
  c0 : w.cell? ⟨t, 0, none⟩ = some x0
  c1 : w.cell? ⟨t, 1, none⟩ = some x1
  c2 : w.cell? ⟨t, 2, none⟩ = some x2
  c3 : w.cell? ⟨t, 3, none⟩ = some x3
  c4 : w.cell? ⟨t, 4, none⟩ = some x4
  f0 : w.frozen? ⟨t, 0, none⟩ = false
  f1 : w.frozen? ⟨t, 1, none⟩ = false
  f2 : w.frozen? ⟨t, 2, none⟩ = false
  f3 : w.frozen? ⟨t, 3, none⟩ = false
  f4 : w.frozen? ⟨t, 4, none⟩ = false
theorem five {w : World} {t : Nat} {x0 x1 x2 x3 x4 : Value} (h : w.heap[t]? = some (.cells #[x0, x1, x2, x3, x4] 49 (0, 0))) : Five w t x0 x1 x2 x3 x4 :=
  ⟨h, by rw [cell_of_row w t 0 _ 49 (0, 0) h]; rfl, by rw [cell_of_row w t 1 _ 49 (0, 0) h]; rfl, by rw [cell_of_row w t 2 _ 49 (0, 0) h]; rfl, by rw [cell_of_row w t 3 _ 49 (0, 0) h]; rfl, by rw [cell_of_row w t 4 _ 49 (0, 0) h]; rfl,
    frozen_of_row w t 0 _ 49 h, frozen_of_row w t 1 _ 49 h, frozen_of_row w t 2 _ 49 h, frozen_of_row w t 3 _ 49 h, frozen_of_row w t 4 _ 49 h⟩
section
variable {w : World} {t : Nat} {x0 x1 x2 x3 x4 : Value}
theorem Five.s0 (h : Five w t x0 x1 x2 x3 x4) (v : Value) : Five (w.setCell ⟨t, 0, none⟩ v) t v x1 x2 x3 x4 := five (by rw [heap_setCell_same w t 0 _ 49 v h.blk]; rfl)
theorem Five.s1 (h : Five w t x0 x1 x2 x3 x4) (v : Value) : Five (w.setCell ⟨t, 1, none⟩ v) t x0 v x2 x3 x4 := five (by rw [heap_setCell_same w t 1 _ 49 v h.blk]; rfl)
theorem Five.s2 (h : Five w t x0 x1 x2 x3 x4) (v : Value) : Five (w.setCell ⟨t, 2, none⟩ v) t x0 x1 v x3 x4 := five (by rw [heap_setCell_same w t 2 _ 49 v h.blk]; rfl)
theorem Five.s3 (h : Five w t x0 x1 x2 x3 x4) (v : Value) : Five (w.setCell ⟨t, 3, none⟩ v) t x0 x1 x2 v x4 := five (by rw [heap_setCell_same w t 3 _ 49 v h.blk]; rfl)
theorem Five.s4 (h : Five w t x0 x1 x2 x3 x4) (v : Value) : Five (w.setCell ⟨t, 4, none⟩ v) t x0 x1 x2 x3 v := five (by rw [heap_setCell_same w t 4 _ 49 v h.blk]; rfl)
end
/-- A message stored over five cells. -/
def put5 (w : World) (t : Nat) (r : RM) : World := ((((w.setCell ⟨t, 0, none⟩ (.int .i64 r.src)).setCell ⟨t, 1, none⟩ (.int .i64 r.dst)).setCell ⟨t, 2, none⟩ (.string r.bs)).setCell ⟨t, 3, none⟩ (.bool r.wt)).setCell ⟨t, 4, none⟩ (.int .i64 r.tm)
theorem only_trans {s : Nat} {a b c : World} (h : Only s a b) (k : Only s b c) : Only s a c :=
  ⟨k.os.trans h.os, k.tape.trans h.tape, k.output.trans h.output, Nat.le_trans h.size k.size, fun i hi hne => (k.block i (Nat.lt_of_lt_of_le hi h.size) hne).trans (h.block i hi hne)⟩
theorem only_put5 (w : World) (t : Nat) (r : RM) : Only t w (put5 w t r) :=
  only_trans (only_trans (only_trans (only_trans (only_setCell _ _ _ _) (only_setCell _ _ _ _)) (only_setCell _ _ _ _)) (only_setCell _ _ _ _)) (only_setCell _ _ _ _)
theorem only_below {w w1 w2 : World} {t : Nat} (h1 : Below w.heap.size w w1) (h : Only t w1 w2) (ht : w.heap.size ≤ t) : Below w.heap.size w w2 :=
  h1.trans ⟨h.os, h.tape, h.output, h.size, fun k hk => h.block k (Nat.lt_of_lt_of_le hk h1.size) (fun e => by have := Option.some.inj e; omega)⟩
def zero49 : Value := .agg #[.int .i64 0, .int .i64 0, .string ⟨#[]⟩, .bool false, .int .i64 0]

section
variable {w w' : World} {B b n : Nat} {av : Value} {rs : List RM} {T : Nat} {way : List Msg} {box : Nat → List Msg} {lw : List Nat} {lb : Nat → List Nat}
theorem ref_send_from (h : RefAt w B b n av rs T) (s d : Int) (hs : s < 0 ∨ (n : Int) ≤ s) (v : Value) :
    Calls Try.prog 25 #[.pointer (some ⟨b, 0, none⟩), .int .i64 s, .int .i64 d, v] w fun e w' => e = .returned (.int .i64 2) ∧ w = w' := by
  have HC := Lib.hid (ref_is_out h s hs)
  clear h hs
  go_enter Try.func25, Try.ntmps25
  go_wp2_with fail
  refine HC.out.mono ?_
  rintro e _ ⟨rfl, rfl⟩
  go_wp2_with fail
  go_ret
  exact ⟨rfl, rfl⟩
theorem ref_send_to (h : RefAt w B b n av rs T) (s d : Int) (hs : 0 ≤ s ∧ s < n) (hd : d < 0 ∨ (n : Int) ≤ d) (v : Value) :
    Calls Try.prog 25 #[.pointer (some ⟨b, 0, none⟩), .int .i64 s, .int .i64 d, v] w fun e w' => e = .returned (.int .i64 2) ∧ w = w' := by
  have HC0 := Lib.hid (ref_is_in h s hs.1 hs.2)
  have HC := Lib.hid (ref_is_out h d hd)
  clear h hs hd
  go_enter Try.func25, Try.ntmps25
  go_wp2_with fail
  refine HC0.out.mono ?_
  rintro e _ ⟨rfl, rfl⟩
  go_wp2_with fail
  refine HC.out.mono ?_
  rintro e _ ⟨rfl, rfl⟩
  go_wp2_with fail
  go_ret
  exact ⟨rfl, rfl⟩
theorem ref_send_full (h : RefAt w B b n av rs T) (ha : Agree n rs T way box lw lb) (hT : T ≤ 900) (s d : Int) (hs : 0 ≤ s ∧ s < n) (hd : 0 ≤ d ∧ d < n) (v : Value) (hlen : way.length = 256) :
    Calls Try.prog 25 #[.pointer (some ⟨b, 0, none⟩), .int .i64 s, .int .i64 d, v] w fun e w' => e = .returned (.int .i64 3) ∧ Below w.heap.size w w' := by
  have HC0 := Lib.hid (ref_is_in h s hs.1 hs.2)
  have HC := Lib.hid (ref_is_in h d hd.1 hd.2)
  have HR := Lib.hid (row_way h ha hT)
  have hl : lw.length = 256 := by have := ha.lens.1; omega
  clear h hs hd ha
  rw [hl] at HR
  go_enter Try.func25, Try.ntmps25
  go_wp2_with fail
  refine HC0.out.mono ?_
  rintro e _ ⟨rfl, rfl⟩
  go_wp2_with fail
  refine HC.out.mono ?_
  rintro e _ ⟨rfl, rfl⟩
  go_wp2_with fail
  refine HR.out.mono ?_
  rintro e w1 ⟨v, rfl, hown, hB⟩
  obtain ⟨va, vc, rfl⟩ := owns_slice3 hown
  clear hown
  go_wp2_with fail
  go_ret
  exact ⟨rfl, hB⟩
theorem r_send (h : RNet w B b n T way box) (hT : T ≤ 900) (hw : way.length ≤ 256) (s d : Int) (a : Option Addr) (l c : Nat) (xs : List Int) (hx : ∀ w', Below B w w' → BRead w' a l xs) :
    Calls Try.prog 25 #[.pointer (some ⟨b, 0, none⟩), .int .i64 s, .int .i64 d, .slice a l c] w fun e w' => e = .returned (.int .i64 (sendE n way.length s d)) ∧ (∃ T', T' ≤ T + 1 ∧ RNet w' B b n T' (sendW n way s d xs) box) ∧ RMoved B w w' := by
  obtain ⟨av, rs, lw, lb, h1, h2⟩ := h
  by_cases hs : s < 0 ∨ (n : Int) ≤ s
  · refine (ref_send_from h1 s d hs _).mono ?_
    rintro e w' ⟨rfl, rfl⟩
    have e : sendE n way.length s d = 2 := by unfold sendE; rw [if_pos (by omega)]
    exact ⟨by rw [e], ⟨T, by omega, by unfold sendW; rw [e]; exact ⟨av, rs, lw, lb, h1, h2⟩⟩, RMoved.refl _ _⟩
  · by_cases hd : d < 0 ∨ (n : Int) ≤ d
    · refine (ref_send_to h1 s d (by omega) hd _).mono ?_
      rintro e w' ⟨rfl, rfl⟩
      have e : sendE n way.length s d = 2 := by unfold sendE; rw [if_pos (by omega)]
      exact ⟨by rw [e], ⟨T, by omega, by unfold sendW; rw [e]; exact ⟨av, rs, lw, lb, h1, h2⟩⟩, RMoved.refl _ _⟩
    · by_cases hf : way.length < 256
      · refine (ref_send_ok h1 h2 hT s d (by omega) (by omega) a l c xs hx hf).mono ?_
        rintro e w' ⟨rfl, hN, hM⟩
        have e : sendE n way.length s d = 0 := by unfold sendE; rw [if_neg (by omega), if_pos hf]
        exact ⟨by rw [e], ⟨T + 1, by omega, by unfold sendW; rw [e]; exact hN⟩, hM⟩
      · refine (ref_send_full h1 h2 hT s d (by omega) (by omega) _ (by omega)).mono ?_
        rintro e w' ⟨rfl, hB⟩
        have e : sendE n way.length s d = 3 := by unfold sendE; rw [if_neg (by omega), if_neg hf]
        exact ⟨by rw [e], ⟨T, by omega, by unfold sendW; rw [e]; exact ⟨av, rs, lw, lb, h1.kept hB, h2⟩⟩, RMoved.of_below hB h1.base⟩

set_option maxRecDepth 8000 in
set_option maxHeartbeats 2000000 in
theorem ref_receive_out (h : RefAt w B b n av rs T) (x : Int) (hx : x < 0 ∨ (n : Int) ≤ x) :
    Calls Try.prog 22 #[.pointer (some ⟨b, 0, none⟩), .int .i64 x] w fun e w' => e = .returned (.tuple #[zero49, .bool false]) ∧ Below w.heap.size w w' := by
  have B1 : Below w.heap.size w (w.alloc (.cells #[.int .i64 0, .int .i64 0, .string ⟨#[]⟩, .bool false, .int .i64 0] 49)) := (Below.refl _ _).alloc (Nat.le_refl _) _
  have t0 := five (show (w.alloc (.cells #[.int .i64 0, .int .i64 0, .string ⟨#[]⟩, .bool false, .int .i64 0] 49)).heap[w.heap.size]? = some (.cells #[.int .i64 0, .int .i64 0, .string ⟨#[]⟩, .bool false, .int .i64 0] 49 (0, 0)) from heap_alloc_new _ _)
  have HC := Lib.hid (ref_is_out (h.kept B1) x hx)
  clear h hx
  go_enter Try.func22, Try.ntmps22
  go_wp2_with fail
  generalize w.alloc (.cells #[.int .i64 0, .int .i64 0, .string ⟨#[]⟩, .bool false, .int .i64 0] 49) = w1 at *
  refine HC.out.mono ?_
  rintro e _ ⟨rfl, rfl⟩
  have t1 := t0.s0 (.int .i64 0)
  have t2 := t1.s1 (.int .i64 0)
  have t3 := t2.s2 (.string ⟨#[]⟩)
  have t4 := t3.s3 (.bool false)
  have t5 := t4.s4 (.int .i64 0)
  obtain ⟨_, a00, a01, a02, a03, a04, b00, b01, b02, b03, b04⟩ := t0
  obtain ⟨_, a10, a11, a12, a13, a14, b10, b11, b12, b13, b14⟩ := t1
  obtain ⟨_, a20, a21, a22, a23, a24, b20, b21, b22, b23, b24⟩ := t2
  obtain ⟨_, a30, a31, a32, a33, a34, b30, b31, b32, b33, b34⟩ := t3
  obtain ⟨_, a40, a41, a42, a43, a44, b40, b41, b42, b43, b44⟩ := t4
  obtain ⟨_, a50, a51, a52, a53, a54, _, _, _, _, _⟩ := t5
  have hb := only_below B1 (only_put5 w1 w.heap.size ⟨0, 0, ⟨#[]⟩, false, 0⟩) (Nat.le_refl _)
  simp only [put5] at hb
  have HB := Lib.hid hb
  clear B1 HC hb
  go_wp2_with fail
  refine ⟨rfl, .tuple #[zero49, .bool false], ?_, rfl, HB.out⟩
  rw [results_cell_tmp rfl]
  unfold zero49
  go_simp

set_option maxRecDepth 8000 in
set_option maxHeartbeats 2000000 in
theorem ref_receive_empty (h : RefAt w B b n av rs T) (ha : Agree n rs T way box lw lb) (hT : T ≤ 900) (x : Int) (hx : 0 ≤ x ∧ x < n) (hq : qAt n box x = []) :
    Calls Try.prog 22 #[.pointer (some ⟨b, 0, none⟩), .int .i64 x] w fun e w' => e = .returned (.tuple #[zero49, .bool false]) ∧ Below w.heap.size w w' := by
  have B0 : Below w.heap.size w (w.alloc (.cells #[.int .i64 0, .int .i64 0, .string ⟨#[]⟩, .bool false, .int .i64 0] 49)) := (Below.refl _ _).alloc (Nat.le_refl _) _
  have t9 := five (show (w.alloc (.cells #[.int .i64 0, .int .i64 0, .string ⟨#[]⟩, .bool false, .int .i64 0] 49)).heap[w.heap.size]? = some (.cells #[.int .i64 0, .int .i64 0, .string ⟨#[]⟩, .bool false, .int .i64 0] 49 (0, 0)) from heap_alloc_new _ _)
  have HC0 := Lib.hid (ref_is_in (h.kept B0) x hx.1 hx.2)
  have hr := row_box (h.kept B0) ha hT x hx.1
  have hl : (lbAt n lb x).length = 0 := by rw [ha.len_at, hq]; rfl
  rw [hl] at hr
  have HC := Lib.hid hr
  clear h hx ha hq hr hl
  go_enter Try.func22, Try.ntmps22
  go_wp2_with fail
  generalize w.alloc (.cells #[.int .i64 0, .int .i64 0, .string ⟨#[]⟩, .bool false, .int .i64 0] 49) = w0 at *
  refine HC0.out.mono ?_
  rintro e _ ⟨rfl, rfl⟩
  go_wp2_with fail
  refine HC.out.mono ?_
  rintro e w1 ⟨v, rfl, hown, hB⟩
  obtain ⟨va, vc, rfl⟩ := owns_slice3 hown
  have B1 : Below w.heap.size w w1 := B0.trans (hB.mono B0.size)
  have t0 := five ((hB.block w.heap.size (block_lt t9.blk)).trans t9.blk)
  clear t9 hown hB B0 HC0
  have t1 := t0.s0 (.int .i64 0)
  have t2 := t1.s1 (.int .i64 0)
  have t3 := t2.s2 (.string ⟨#[]⟩)
  have t4 := t3.s3 (.bool false)
  have t5 := t4.s4 (.int .i64 0)
  obtain ⟨_, a00, a01, a02, a03, a04, b00, b01, b02, b03, b04⟩ := t0
  obtain ⟨_, a10, a11, a12, a13, a14, b10, b11, b12, b13, b14⟩ := t1
  obtain ⟨_, a20, a21, a22, a23, a24, b20, b21, b22, b23, b24⟩ := t2
  obtain ⟨_, a30, a31, a32, a33, a34, b30, b31, b32, b33, b34⟩ := t3
  obtain ⟨_, a40, a41, a42, a43, a44, b40, b41, b42, b43, b44⟩ := t4
  obtain ⟨_, a50, a51, a52, a53, a54, _, _, _, _, _⟩ := t5
  have hb := only_below B1 (only_put5 w1 w.heap.size ⟨0, 0, ⟨#[]⟩, false, 0⟩) (Nat.le_refl _)
  simp only [put5] at hb
  have HB := Lib.hid hb
  clear B1 HC hb
  go_wp2_with fail
  refine ⟨rfl, .tuple #[zero49, .bool false], ?_, rfl, HB.out⟩
  rw [results_cell_tmp rfl]
  unfold zero49
  go_simp

/-- A message handed out. -/
def ragg (r : RM) : Value := .agg #[.int .i64 r.src, .int .i64 r.dst, .string r.bs, .bool r.wt, .int .i64 r.tm]
set_option maxRecDepth 8000 in
set_option maxHeartbeats 4000000 in
theorem ref_receive_one (h : RefAt w B b n av rs T) (ha : Agree n rs T way box lw lb) (hT : T ≤ 900) (x : Nat) (hx : x < n) {m : Msg} {rest : List Msg} (hq : box x = m :: rest) (hfew : (box x).length ≤ 32) :
    Calls Try.prog 22 #[.pointer (some ⟨b, 0, none⟩), .int .i64 x] w fun e w' => (∃ r, (r.src, r.dst, r.bs) = mkey m ∧ e = .returned (.tuple #[ragg r, .bool true])) ∧ RNet w' B b n T way (setQ box x rest) ∧ RMoved B w w' := by
  obtain ⟨k, l2, r, hlb, hl2, hr, hkl, hwt, hrd, hkey⟩ := ha.at_box hx hq
  have B0 : Below w.heap.size w (w.alloc (.cells #[.int .i64 0, .int .i64 0, .string ⟨#[]⟩, .bool false, .int .i64 0] 49)) := (Below.refl _ _).alloc (Nat.le_refl _) _
  have t9 := five (show (w.alloc (.cells #[.int .i64 0, .int .i64 0, .string ⟨#[]⟩, .bool false, .int .i64 0] 49)).heap[w.heap.size]? = some (.cells #[.int .i64 0, .int .i64 0, .string ⟨#[]⟩, .bool false, .int .i64 0] 49 (0, 0)) from heap_alloc_new _ _)
  have hla : lbAt n lb (x : Int) = k :: l2 := by unfold lbAt; rw [if_pos (by omega)]; simpa using hlb
  have hra : ∀ w', Below w.heap.size w w' → Calls Try.prog 37 #[.pointer (some ⟨b, 0, none⟩), .int .i64 x] w' fun E w'' => ∃ v, E = .returned v ∧ w''.ownsRow w'.heap.size 3 1 v (l2.length + 1) (ints (k :: l2)) ∧ Below w'.heap.size w' w'' := fun w' hb => by
    have := row_box (h.kept hb) ha hT (x : Int) (by omega)
    rw [hla] at this; exact this
  have HRA := Lib.hid hra
  have HI := Lib.hid (fun w' (hb : Below w.heap.size w w') => ref_is_in (h.kept hb) (x : Int) (by omega) (by omega))
  have HL := Lib.hid (fun w' (hb : Below w.heap.size w w') => ref_lose (h.kept hb) (by have := ha.few; omega) k hkl)
  have hfin := ha.take (m := m) hx hlb hl2 hr hwt hrd
  have HFIN := Lib.hid hfin
  have H := Lib.hid h
  have HR := Lib.hid hr
  have HKEY := Lib.hid hkey
  have hlq : l2.length ≤ 900 := by
    have h1 := ha.lens.2 x hx
    rw [hlb, List.length_cons] at h1; omega
  have hrl : rs.length ≤ 900 := by have := ha.few; omega
  clear h ha hq hlb hl2 hr hwt hrd hkey hla hra hfin
  obtain ⟨L, hL⟩ : ∃ L, rs.length = L := ⟨_, rfl⟩
  have HLL := Lib.hid hL
  rw [hL] at hkl hrl
  clear hL
  go_enter Try.func22, Try.ntmps22
  go_wp2_with fail
  generalize w.alloc (.cells #[.int .i64 0, .int .i64 0, .string ⟨#[]⟩, .bool false, .int .i64 0] 49) = w0 at *
  refine (HI.out w0 B0).mono ?_
  rintro e _ ⟨rfl, rfl⟩
  go_wp2_with fail
  refine (HRA.out w0 B0).mono ?_
  rintro e w1 ⟨v, rfl, hown, hB⟩
  obtain ⟨va, vc, rfl⟩ := owns_slice3 hown
  have B1 : Below w.heap.size w w1 := B0.trans (hB.mono B0.size)
  have t8 := five ((hB.block w.heap.size (block_lt t9.blk)).trans t9.blk)
  clear hown hB t9
  go_wp2_with fail
  refine (HRA.out w1 B1).mono ?_
  rintro e w2 ⟨v, rfl, hown, hB⟩
  obtain ⟨g, cp, rfl, hrow, _, _⟩ := lrow_of (l := k :: l2) hown (by simp)
  have B2 : Below w.heap.size w w2 := B1.trans (hB.mono B1.size)
  have t7 := five ((hB.block w.heap.size (block_lt t8.blk)).trans t8.blk)
  have ck := hrow.cell (j := 0) (x := k) (by simp)
  have hR2 := H.out.kept B2
  have hc1 := hR2.c1
  obtain ⟨gA, cA, hav, _, x0, x1, x2, x3, x4⟩ := hR2.at_ HR.out
  rw [HLL.out] at hav
  subst hav
  have k0 : (0 : Int) ≤ (k : Int) := by omega
  have k1 : (k : Int) < (L : Int) := by omega
  clear hown hB t8 hrow hR2
  generalize hav : (Value.slice (some ⟨gA, 0, none⟩) L cA) = av at *
  obtain ⟨src, dst, bs, wt, tm⟩ := r
  simp only at x0 x1 x2 x3 x4
  have bA : Below w2.heap.size w2 (w2.alloc (.cells #[.int .i64 src, .int .i64 dst, .string bs, .bool wt, .int .i64 tm] 49)) := (Below.refl _ _).alloc (Nat.le_refl _) _
  have hx5 : (w2.alloc (.cells #[.int .i64 src, .int .i64 dst, .string bs, .bool wt, .int .i64 tm] 49)).heap[w2.heap.size]? = some (.cells #[.int .i64 src, .int .i64 dst, .string bs, .bool wt, .int .i64 tm] 49 (0, 0)) := heap_alloc_new _ _
  have t6 := five ((bA.block w.heap.size (block_lt t7.blk)).trans t7.blk)
  have B3 : Below w.heap.size w (w2.alloc (.cells #[.int .i64 src, .int .i64 dst, .string bs, .bool wt, .int .i64 tm] 49)) := B2.trans (bA.mono B2.size)
  subst hav
  have hlt7 := block_lt t7.blk
  clear t7
  go_wp2_with fail
  clear x0 x1 x2 x3 x4 ck hc1
  generalize w2.alloc (.cells #[.int .i64 src, .int .i64 dst, .string bs, .bool wt, .int .i64 tm] 49) = w3 at *
  have hz3 := B3.size
  have hbw : b < w.heap.size := block_lt H.out.head
  have hbne1 : w.heap.size ≠ b := by omega
  have hbne2 : w2.heap.size ≠ b := by have := B2.size; omega
  have hw2 := block_lt hx5
  refine (HL.out w3 B3).mono ?_
  rintro e w4 ⟨rfl, ⟨av', hR4, hNG⟩, hM4, hF4⟩
  have t0 := five ((hF4 w.heap.size (block_lt t6.blk) hbne1).trans t6.blk)
  have y5 := five ((hF4 w2.heap.size hw2 hbne2).trans hx5)
  have t1 := t0.s0 (.int .i64 src)
  have t2 := t1.s1 (.int .i64 dst)
  have t3 := t2.s2 (.string bs)
  have t4 := t3.s3 (.bool wt)
  have t5 := t4.s4 (.int .i64 tm)
  have z4 : w.heap.size ≤ w4.heap.size := Nat.le_trans hz3 hM4.size
  have hO := only_put5 w4 w.heap.size ⟨src, dst, bs, wt, tm⟩
  have hR5 : RefAt (put5 w4 w.heap.size ⟨src, dst, bs, wt, tm⟩) B b n av' (rs.eraseIdx k) T := by
    refine ⟨(hO.block b (by omega) (fun e => hbne1 (Option.some.inj e).symm)).trans hR4.head, owns_same hR4.row fun g' cur hg' hcur => hO.block g' (block_lt hcur) (fun e => ?_), hR4.geb, Nat.le_trans hR4.base hO.size⟩
    have e := Option.some.inj e
    subst e
    have := hNG _ hg'; have := block_lt t6.blk; omega
  have hM5 : RMoved B w (put5 w4 w.heap.size ⟨src, dst, bs, wt, tm⟩) := ((RMoved.of_below B3 H.out.base).trans hM4).trans (RMoved.only hO H.out.base (Nat.le_trans H.out.base z4) t0.blk rfl)
  simp only [put5] at hR5 hM5
  have FIN := Lib.hid (And.intro hR5 hM5)
  obtain ⟨_, a00, a01, a02, a03, a04, b00, b01, b02, b03, b04⟩ := t0
  obtain ⟨_, a10, a11, a12, a13, a14, b10, b11, b12, b13, b14⟩ := t1
  obtain ⟨_, a20, a21, a22, a23, a24, b20, b21, b22, b23, b24⟩ := t2
  obtain ⟨_, a30, a31, a32, a33, a34, b30, b31, b32, b33, b34⟩ := t3
  obtain ⟨_, a40, a41, a42, a43, a44, b40, b41, b42, b43, b44⟩ := t4
  obtain ⟨_, a50, a51, a52, a53, a54, _, _, _, _, _⟩ := t5
  obtain ⟨_, y50, y51, y52, y53, y54, _, _, _, _, _⟩ := y5
  clear hNG hR4 hM4 hF4 hO hR5 hM5 t6 hx5 HL HRA HI
  go_wp2_with fail
  refine ⟨rfl, .tuple #[ragg ⟨src, dst, bs, wt, tm⟩, .bool true], ?_, ⟨_, HKEY.out, rfl⟩, ⟨_, _, _, _, FIN.out.1, HFIN.out⟩, FIN.out.2⟩
  rw [results_cell_tmp rfl]
  unfold ragg
  go_simp
end
end Go.Proofs.Ytambdhoeakddhaa
