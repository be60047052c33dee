/- The walk over the document's Do. -/
import Derived.Test.YtambdhoeakddhaaRWalkG
import Derived.Deep.CutRange
namespace Go.Proofs.Ytambdhoeakddhaa
open Go Go.RowKit Go.Conc
set_option linter.unusedVariables false

theorem ref_at_key {m : Msg} {src dst : Int} {bs : ByteArray} (h : (src, dst, bs) = mkey m) : src = m.src ∧ dst = m.dst ∧ bs = strOfNums m.xs := by
  unfold mkey at h; simpa using h
section
variable {w w' : World} {B b n : Nat} {av : Value} {rs : List RM} {T : Nat} {box : Nat → List Msg} {lw : List Nat} {lb : Nat → List Nat} {m1 m2 : List Msg} {m : Msg}
set_option maxRecDepth 8000 in
set_option maxHeartbeats 4000000 in
theorem ref_do_drop (h : RefAt w B b n av rs T) (ha : Agree n rs T (m1 ++ m :: m2) box lw lb) (hT : T ≤ 900) (hlen : (m1 ++ m :: m2).length ≤ 256) (hmd : 0 ≤ m.dst ∧ m.dst < n) :
    Calls Try.prog 21 #[.pointer (some ⟨b, 0, none⟩), .int .u8 1, .int .i64 m1.length] w fun e w' => e = .returned (.int .i64 0) ∧ RNet w' B b n T (m1 ++ m2) box ∧ RMoved B w w' := by
  obtain ⟨l1, k, l2, r, hlw, hl1, hk1, hk2, hr, hkl, hwt, hkey⟩ := ha.at_way rfl
  obtain ⟨i0, hi, hz0, hz1, hz2⟩ := info_parts Try.info49
  have HI := Lib.hid hi
  have HZ0 := Lib.hid hz0
  have HZ1 := Lib.hid hz1
  have HZ2 := Lib.hid hz2
  clear hi hz0 hz1 hz2
  have HRW := Lib.hid (row_way h ha hT)
  have hll := ha.lens.1
  have hrl : rs.length ≤ 900 := by have := ha.few; omega
  have hRWB := fun w' (hb : Below w.heap.size w w') => row_box (h.kept hb) ha hT m.dst hmd.1
  simp only [ha.len_at] at hRWB
  have HRB := Lib.hid hRWB
  have HLW := Lib.hid hlw
  obtain ⟨src, dst, bs, wt, tm⟩ := r
  obtain ⟨rfl, rfl, rfl⟩ := ref_at_key hkey
  simp only at hwt
  subst hwt
  have H := Lib.hid h
  have HR := Lib.hid hr
  have HAD := Lib.hid (ha.drop (m := m) hlw hk1 hk2 hr rfl)
  have HLS := Lib.hid (fun w' (hb : Below w.heap.size w w') => ref_lose (h.kept hb) (by omega) k hkl)
  have hbw := block_lt h.head
  obtain ⟨q, hq⟩ : ∃ q, lw.length = q := ⟨_, rfl⟩
  have HQ := Lib.hid hq
  have hq1 : m1.length < q := by rw [← hq, hlw]; simp; omega
  have hq2 : q ≤ 256 := by omega
  have hk9 : k < rs.length := hkl
  obtain ⟨L, hL⟩ : ∃ L, rs.length = L := ⟨_, rfl⟩
  have HLL := Lib.hid hL
  rw [hL] at hk9 hrl
  have HL1 := Lib.hid hl1
  obtain ⟨i, hi⟩ : ∃ i, m1.length = i := ⟨_, rfl⟩
  rw [hi] at hq1 ⊢
  have HII := Lib.hid hi
  clear h ha hlw hr hkl hRWB hk1 hk2 hll hl1 hq hL hi hlen hkey
  have i0' : (0 : Int) ≤ (i : Int) := by omega
  have i1 : (i : Int) < (q : Int) := by omega
  have k0 : (0 : Int) ≤ (k : Int) := by omega
  have k1 : (k : Int) < (L : Int) := by omega
  go_enter Try.func21, Try.ntmps21
  go_wp2_with fail
  refine HRW.out.mono ?_
  rintro e w1 ⟨v, rfl, hown, hB1⟩
  obtain ⟨g, cp, rfl, hrow, _, _⟩ := lrow_of hown (by rw [HLW.out]; simp; omega)
  have ck := hrow.cell (j := i) (x := k) (by rw [HLW.out, ← HII.out, ← HL1.out]; simp)
  rw [HQ.out]
  have hR1 := H.out.kept hB1
  have hc1 := hR1.c1
  obtain ⟨gA, cA, rfl, _, x0, x1, x2, x3, x4⟩ := hR1.at_ HR.out
  rw [HLL.out] at hc1
  simp only at x0 x1 x2 x3 x4
  have bA : Below w1.heap.size w1 (w1.alloc (.cells #[.int .i64 m.src, .int .i64 m.dst, .string (strOfNums m.xs), .bool false, .int .i64 tm] 49)) := (Below.refl _ _).alloc (Nat.le_refl _) _
  have hB2 : Below w.heap.size w (w1.alloc (.cells #[.int .i64 m.src, .int .i64 m.dst, .string (strOfNums m.xs), .bool false, .int .i64 tm] 49)) := hB1.trans (bA.mono hB1.size)
  have t5 := five (show (w1.alloc (.cells #[.int .i64 m.src, .int .i64 m.dst, .string (strOfNums m.xs), .bool false, .int .i64 tm] 49)).heap[w1.heap.size]? = some (.cells #[.int .i64 m.src, .int .i64 m.dst, .string (strOfNums m.xs), .bool false, .int .i64 tm] 49 (0, 0)) from heap_alloc_new _ _)
  have HT5 := Lib.hid t5.blk
  have HB2 := Lib.hid hB2
  have hz1' := hB1.size
  have ctx := t5.c1
  have HR2 := Lib.hid (H.out.kept hB2)
  have hc2 := HR2.out.c1
  rw [HLL.out] at hc2
  clear hrow hown hR1 hB1 bA hB2 t5
  go_wp2_with fail
  refine (HLS.out _ HB2.out).mono ?_
  rintro e w5 ⟨rfl, ⟨av', hR5, _⟩, hM5, _⟩
  have FIN : Hid (RNet w5 B b n T (m1 ++ m2) box ∧ RMoved B w w5) := Lib.hid ⟨⟨_, _, _, _, hR5, HAD.out⟩, (RMoved.of_below HB2.out H.out.base).trans hM5⟩
  clear hR5 hM5
  go_wp2
  go_ret
  exact ⟨rfl, FIN.out⟩

set_option maxRecDepth 8000 in
set_option maxHeartbeats 4000000 in
theorem ref_do_full (h : RefAt w B b n av rs T) (ha : Agree n rs T (m1 ++ m :: m2) box lw lb) (hT : T ≤ 900) (hlen : (m1 ++ m :: m2).length ≤ 256) (hmd : 0 ≤ m.dst ∧ m.dst < n) (hfull : 32 ≤ (qAt n box m.dst).length) (hf2 : (qAt n box m.dst).length ≤ 32) :
    Calls Try.prog 21 #[.pointer (some ⟨b, 0, none⟩), .int .u8 0, .int .i64 m1.length] w fun e w' => e = .returned (.int .i64 0) ∧ RNet w' B b n T (m1 ++ m2) box ∧ RMoved B w w' := by
  obtain ⟨l1, k, l2, r, hlw, hl1, hk1, hk2, hr, hkl, hwt, hkey⟩ := ha.at_way rfl
  obtain ⟨i0, hi, hz0, hz1, hz2⟩ := info_parts Try.info49
  have HI := Lib.hid hi
  have HZ0 := Lib.hid hz0
  have HZ1 := Lib.hid hz1
  have HZ2 := Lib.hid hz2
  clear hi hz0 hz1 hz2
  have HRW := Lib.hid (row_way h ha hT)
  have hll := ha.lens.1
  have hrl : rs.length ≤ 900 := by have := ha.few; omega
  have hRWB := fun w' (hb : Below w.heap.size w w') => row_box (h.kept hb) ha hT m.dst hmd.1
  simp only [ha.len_at] at hRWB
  have HRB := Lib.hid hRWB
  have HLW := Lib.hid hlw
  obtain ⟨src, dst, bs, wt, tm⟩ := r
  obtain ⟨rfl, rfl, rfl⟩ := ref_at_key hkey
  simp only at hwt
  subst hwt
  have H := Lib.hid h
  have HR := Lib.hid hr
  have HAD := Lib.hid (ha.drop (m := m) hlw hk1 hk2 hr rfl)
  have HLS := Lib.hid (fun w' (hb : Below w.heap.size w w') => ref_lose (h.kept hb) (by omega) k hkl)
  have hbw := block_lt h.head
  obtain ⟨q, hq⟩ : ∃ q, lw.length = q := ⟨_, rfl⟩
  have HQ := Lib.hid hq
  have hq1 : m1.length < q := by rw [← hq, hlw]; simp; omega
  have hq2 : q ≤ 256 := by omega
  have hk9 : k < rs.length := hkl
  obtain ⟨L, hL⟩ : ∃ L, rs.length = L := ⟨_, rfl⟩
  have HLL := Lib.hid hL
  rw [hL] at hk9 hrl
  have HL1 := Lib.hid hl1
  obtain ⟨i, hi⟩ : ∃ i, m1.length = i := ⟨_, rfl⟩
  rw [hi] at hq1 ⊢
  have HII := Lib.hid hi
  clear h ha hlw hr hkl hRWB hk1 hk2 hll hl1 hq hL hi hlen hkey
  have i0' : (0 : Int) ≤ (i : Int) := by omega
  have i1 : (i : Int) < (q : Int) := by omega
  have k0 : (0 : Int) ≤ (k : Int) := by omega
  have k1 : (k : Int) < (L : Int) := by omega
  go_enter Try.func21, Try.ntmps21
  go_wp2_with fail
  refine HRW.out.mono ?_
  rintro e w1 ⟨v, rfl, hown, hB1⟩
  obtain ⟨g, cp, rfl, hrow, _, _⟩ := lrow_of hown (by rw [HLW.out]; simp; omega)
  have ck := hrow.cell (j := i) (x := k) (by rw [HLW.out, ← HII.out, ← HL1.out]; simp)
  rw [HQ.out]
  have hR1 := H.out.kept hB1
  have hc1 := hR1.c1
  obtain ⟨gA, cA, rfl, _, x0, x1, x2, x3, x4⟩ := hR1.at_ HR.out
  rw [HLL.out] at hc1
  simp only at x0 x1 x2 x3 x4
  have bA : Below w1.heap.size w1 (w1.alloc (.cells #[.int .i64 m.src, .int .i64 m.dst, .string (strOfNums m.xs), .bool false, .int .i64 tm] 49)) := (Below.refl _ _).alloc (Nat.le_refl _) _
  have hB2 : Below w.heap.size w (w1.alloc (.cells #[.int .i64 m.src, .int .i64 m.dst, .string (strOfNums m.xs), .bool false, .int .i64 tm] 49)) := hB1.trans (bA.mono hB1.size)
  have t5 := five (show (w1.alloc (.cells #[.int .i64 m.src, .int .i64 m.dst, .string (strOfNums m.xs), .bool false, .int .i64 tm] 49)).heap[w1.heap.size]? = some (.cells #[.int .i64 m.src, .int .i64 m.dst, .string (strOfNums m.xs), .bool false, .int .i64 tm] 49 (0, 0)) from heap_alloc_new _ _)
  have HT5 := Lib.hid t5.blk
  have HB2 := Lib.hid hB2
  have hz1' := hB1.size
  have ctx := t5.c1
  have HR2 := Lib.hid (H.out.kept hB2)
  have hc2 := HR2.out.c1
  rw [HLL.out] at hc2
  clear hrow hown hR1 hB1 bA hB2 t5
  go_wp2_with fail
  refine (HRB.out _ HB2.out).mono ?_
  rintro e w3 ⟨v, rfl, hown, hB3⟩
  obtain ⟨va, vc, rfl⟩ := owns_slice3 hown
  have HB3 := Lib.hid (HB2.out.trans (hB3.mono HB2.out.size))
  have HR3 := Lib.hid (H.out.kept HB3.out)
  have hc3 := HR3.out.c1
  rw [HLL.out] at hc3
  clear hown hB3 ck x0 x1 x2 x3 x4 hc1 hc2 ctx
  have d2 : (32 : Int) ≤ ((qAt n box m.dst).length : Int) := by omega
  go_wp2_with fail
  refine (HLS.out _ HB3.out).mono ?_
  rintro e w5 ⟨rfl, ⟨av', hR5, _⟩, hM5, _⟩
  have FIN : Hid (RNet w5 B b n T (m1 ++ m2) box ∧ RMoved B w w5) := Lib.hid ⟨⟨_, _, _, _, hR5, HAD.out⟩, (RMoved.of_below HB3.out H.out.base).trans hM5⟩
  clear hR5 hM5
  go_wp2
  go_ret
  exact ⟨rfl, FIN.out⟩

set_option maxRecDepth 8000 in
set_option maxHeartbeats 4000000 in
theorem ref_do_dblfull (h : RefAt w B b n av rs T) (ha : Agree n rs T (m1 ++ m :: m2) box lw lb) (hT : T ≤ 900) (hlen : (m1 ++ m :: m2).length ≤ 256) (hmd : 0 ≤ m.dst ∧ m.dst < n) (hfull : (m1 ++ m :: m2).length = 256) :
    Calls Try.prog 21 #[.pointer (some ⟨b, 0, none⟩), .int .u8 2, .int .i64 m1.length] w fun e w' => e = .returned (.int .i64 3) ∧ RNet w' B b n T (m1 ++ m :: m2) box ∧ RMoved B w w' := by
  obtain ⟨l1, k, l2, r, hlw, hl1, hk1, hk2, hr, hkl, hwt, hkey⟩ := ha.at_way rfl
  obtain ⟨i0, hi, hz0, hz1, hz2⟩ := info_parts Try.info49
  have HI := Lib.hid hi
  have HZ0 := Lib.hid hz0
  have HZ1 := Lib.hid hz1
  have HZ2 := Lib.hid hz2
  clear hi hz0 hz1 hz2
  have HRW := Lib.hid (row_way h ha hT)
  have hll := ha.lens.1
  have hrl : rs.length ≤ 900 := by have := ha.few; omega
  have hRWB := fun w' (hb : Below w.heap.size w w') => row_box (h.kept hb) ha hT m.dst hmd.1
  simp only [ha.len_at] at hRWB
  have HRB := Lib.hid hRWB
  have HLW := Lib.hid hlw
  obtain ⟨src, dst, bs, wt, tm⟩ := r
  obtain ⟨rfl, rfl, rfl⟩ := ref_at_key hkey
  simp only at hwt
  subst hwt
  have H := Lib.hid h
  have HR := Lib.hid hr
  have HN := Lib.hid (show RNet w B b n T (m1 ++ m :: m2) box from ⟨av, rs, lw, lb, h, ha⟩)
  have hbw := block_lt h.head
  obtain ⟨q, hq⟩ : ∃ q, lw.length = q := ⟨_, rfl⟩
  have HQ := Lib.hid hq
  have hq1 : m1.length < q := by rw [← hq, hlw]; simp; omega
  have hq2 : q ≤ 256 := by omega
  have hqb : ((q : Int) == 256) = true := by simp; omega
  have hk9 : k < rs.length := hkl
  obtain ⟨L, hL⟩ : ∃ L, rs.length = L := ⟨_, rfl⟩
  have HLL := Lib.hid hL
  rw [hL] at hk9 hrl
  have HL1 := Lib.hid hl1
  obtain ⟨i, hi⟩ : ∃ i, m1.length = i := ⟨_, rfl⟩
  rw [hi] at hq1 ⊢
  have HII := Lib.hid hi
  clear h ha hlw hr hkl hRWB hk1 hk2 hll hl1 hq hL hi hlen hkey
  have i0' : (0 : Int) ≤ (i : Int) := by omega
  have i1 : (i : Int) < (q : Int) := by omega
  have k0 : (0 : Int) ≤ (k : Int) := by omega
  have k1 : (k : Int) < (L : Int) := by omega
  go_enter Try.func21, Try.ntmps21
  go_wp2_with fail
  refine HRW.out.mono ?_
  rintro e w1 ⟨v, rfl, hown, hB1⟩
  obtain ⟨g, cp, rfl, hrow, _, _⟩ := lrow_of hown (by rw [HLW.out]; simp; omega)
  have ck := hrow.cell (j := i) (x := k) (by rw [HLW.out, ← HII.out, ← HL1.out]; simp)
  rw [HQ.out]
  have hR1 := H.out.kept hB1
  have hc1 := hR1.c1
  obtain ⟨gA, cA, rfl, _, x0, x1, x2, x3, x4⟩ := hR1.at_ HR.out
  rw [HLL.out] at hc1
  simp only at x0 x1 x2 x3 x4
  have bA : Below w1.heap.size w1 (w1.alloc (.cells #[.int .i64 m.src, .int .i64 m.dst, .string (strOfNums m.xs), .bool false, .int .i64 tm] 49)) := (Below.refl _ _).alloc (Nat.le_refl _) _
  have hB2 : Below w.heap.size w (w1.alloc (.cells #[.int .i64 m.src, .int .i64 m.dst, .string (strOfNums m.xs), .bool false, .int .i64 tm] 49)) := hB1.trans (bA.mono hB1.size)
  have t5 := five (show (w1.alloc (.cells #[.int .i64 m.src, .int .i64 m.dst, .string (strOfNums m.xs), .bool false, .int .i64 tm] 49)).heap[w1.heap.size]? = some (.cells #[.int .i64 m.src, .int .i64 m.dst, .string (strOfNums m.xs), .bool false, .int .i64 tm] 49 (0, 0)) from heap_alloc_new _ _)
  have HT5 := Lib.hid t5.blk
  have HB2 := Lib.hid hB2
  have hz1' := hB1.size
  have ctx := t5.c1
  have HR2 := Lib.hid (H.out.kept hB2)
  have hc2 := HR2.out.c1
  rw [HLL.out] at hc2
  clear hrow hown hR1 hB1 bA hB2 t5
  go_wp2_with fail
  go_ret
  exact ⟨rfl, HN.out.kept HB2.out, RMoved.of_below HB2.out H.out.base⟩

set_option maxRecDepth 8000 in
set_option maxHeartbeats 4000000 in
theorem ref_do_delay (h : RefAt w B b n av rs T) (ha : Agree n rs T (m1 ++ m :: m2) box lw lb) (hT : T ≤ 900) (hlen : (m1 ++ m :: m2).length ≤ 256) (hmd : 0 ≤ m.dst ∧ m.dst < n) :
    Calls Try.prog 21 #[.pointer (some ⟨b, 0, none⟩), .int .u8 3, .int .i64 m1.length] w fun e w' => e = .returned (.int .i64 0) ∧ RNet w' B b n (T + 1) (m1 ++ (m2 ++ [m])) box ∧ RMoved B w w' := by
  obtain ⟨l1, k, l2, r, hlw, hl1, hk1, hk2, hr, hkl, hwt, hkey⟩ := ha.at_way rfl
  obtain ⟨i0, hi, hz0, hz1, hz2⟩ := info_parts Try.info49
  have HI := Lib.hid hi
  have HZ0 := Lib.hid hz0
  have HZ1 := Lib.hid hz1
  have HZ2 := Lib.hid hz2
  clear hi hz0 hz1 hz2
  have HRW := Lib.hid (row_way h ha hT)
  have hll := ha.lens.1
  have hrl : rs.length ≤ 900 := by have := ha.few; omega
  have hRWB := fun w' (hb : Below w.heap.size w w') => row_box (h.kept hb) ha hT m.dst hmd.1
  simp only [ha.len_at] at hRWB
  have HRB := Lib.hid hRWB
  have HLW := Lib.hid hlw
  obtain ⟨src, dst, bs, wt, tm⟩ := r
  obtain ⟨rfl, rfl, rfl⟩ := ref_at_key hkey
  simp only at hwt
  subst hwt
  have H := Lib.hid h
  have HR := Lib.hid hr
  have HAGR := Lib.hid (ha.delay hlw hk1 hk2 hr rfl hkey)
  have hbw := block_lt h.head
  obtain ⟨q, hq⟩ : ∃ q, lw.length = q := ⟨_, rfl⟩
  have HQ := Lib.hid hq
  have hq1 : m1.length < q := by rw [← hq, hlw]; simp; omega
  have hq2 : q ≤ 256 := by omega
  have hk9 : k < rs.length := hkl
  obtain ⟨L, hL⟩ : ∃ L, rs.length = L := ⟨_, rfl⟩
  have HLL := Lib.hid hL
  rw [hL] at hk9 hrl
  have HL1 := Lib.hid hl1
  obtain ⟨i, hi⟩ : ∃ i, m1.length = i := ⟨_, rfl⟩
  rw [hi] at hq1 ⊢
  have HII := Lib.hid hi
  clear h ha hlw hr hkl hRWB hk1 hk2 hll hl1 hq hL hi hlen hkey
  have i0' : (0 : Int) ≤ (i : Int) := by omega
  have i1 : (i : Int) < (q : Int) := by omega
  have k0 : (0 : Int) ≤ (k : Int) := by omega
  have k1 : (k : Int) < (L : Int) := by omega
  go_enter Try.func21, Try.ntmps21
  go_wp2_with fail
  refine HRW.out.mono ?_
  rintro e w1 ⟨v, rfl, hown, hB1⟩
  obtain ⟨g, cp, rfl, hrow, _, _⟩ := lrow_of hown (by rw [HLW.out]; simp; omega)
  have ck := hrow.cell (j := i) (x := k) (by rw [HLW.out, ← HII.out, ← HL1.out]; simp)
  rw [HQ.out]
  have hR1 := H.out.kept hB1
  have hc1 := hR1.c1
  obtain ⟨gA, cA, rfl, _, x0, x1, x2, x3, x4⟩ := hR1.at_ HR.out
  rw [HLL.out] at hc1
  simp only at x0 x1 x2 x3 x4
  have bA : Below w1.heap.size w1 (w1.alloc (.cells #[.int .i64 m.src, .int .i64 m.dst, .string (strOfNums m.xs), .bool false, .int .i64 tm] 49)) := (Below.refl _ _).alloc (Nat.le_refl _) _
  have hB2 : Below w.heap.size w (w1.alloc (.cells #[.int .i64 m.src, .int .i64 m.dst, .string (strOfNums m.xs), .bool false, .int .i64 tm] 49)) := hB1.trans (bA.mono hB1.size)
  have t5 := five (show (w1.alloc (.cells #[.int .i64 m.src, .int .i64 m.dst, .string (strOfNums m.xs), .bool false, .int .i64 tm] 49)).heap[w1.heap.size]? = some (.cells #[.int .i64 m.src, .int .i64 m.dst, .string (strOfNums m.xs), .bool false, .int .i64 tm] 49 (0, 0)) from heap_alloc_new _ _)
  have HT5 := Lib.hid t5.blk
  have HB2 := Lib.hid hB2
  have hz1' := hB1.size
  have ctx := t5.c1
  have HR2 := Lib.hid (H.out.kept hB2)
  have hc2 := HR2.out.c1
  rw [HLL.out] at hc2
  clear hrow hown hR1 hB1 bA hB2 t5
  go_upto_region 6 with fail
  generalize w1.alloc (.cells #[.int .i64 m.src, .int .i64 m.dst, .string (strOfNums m.xs), .bool false, .int .i64 tm] 49) = w2 at *
  clear x0 x1 x2 x3 x4 hc1 ck ctx HT5
  have hT2 : T ≤ 1000 := by omega
  have hav : (Value.slice (some ⟨gA, 0, none⟩) rs.length cA) = .slice (some ⟨gA, 0, none⟩) rs.length cA := by simp
  have hbsX := HR2.out.base
  obtain ⟨gB, cB, hvB, ⟨curX, hgX, _, _⟩, _, _, _, _, y4⟩ := HR2.out.at_ HR.out
  rw [HLL.out] at hvB
  simp only [Value.slice.injEq, Option.some.injEq, Addr.mk.injEq] at hvB
  obtain ⟨⟨rfl, _⟩, _, rfl⟩ := hvB
  simp only at y4
  have fzX := frozen_of_row w2 gA (k * 5 + 4) _ 49 hgX
  go_wp2_with fail
  go_region_law (first | (go_simp; go_at_call 38; refine (ref_behind (HR2.out.kept ((Below.refl w2.heap.size w2).drew)) hT2).mono ?_; rintro e w5 ⟨rfl, hw5⟩; have R5 := Lib.hid (hw5 ▸ (HR2.out.kept ((Below.refl w2.heap.size w2).drew)).tick); have M5 := Lib.hid ((RMoved.of_below ((Below.refl w2.heap.size w2).drew) hbsX).trans (hw5 ▸ (HR2.out.kept ((Below.refl w2.heap.size w2).drew)).ticked)); clear hw5; have e1 := R5.out.c1; rw [HLL.out] at e1; obtain ⟨gC, cC, hvC, hblk, _, _, _, _, z4⟩ := R5.out.at_ HR.out; obtain ⟨curC, hgC, _, _⟩ := hblk; rw [HLL.out] at hvC; simp only [Value.slice.injEq, Option.some.injEq, Addr.mk.injEq] at hvC; obtain ⟨⟨rfl, _⟩, _, rfl⟩ := hvC; simp only at z4; have fzC := frozen_of_row w5 gA (k * 5 + 4) _ 49 hgC; clear hgC))
  all_goals
    obtain ⟨hR6, hM6⟩ := R5.out.setj HR.out 4 (by omega) (.int .i64 ((T : Int) + 1)) (r' := ⟨m.src, m.dst, strOfNums m.xs, false, ((T + 1 : Nat) : Int)⟩) rfl (g := gA) (c := cA) (by simp)
    have FIN : Hid (RNet (w5.setCell ⟨gA, k * 5 + 4, none⟩ (.int .i64 ((T : Int) + 1))) B b n (T + 1) (m1 ++ (m2 ++ [m])) box ∧ RMoved B w (w5.setCell ⟨gA, k * 5 + 4, none⟩ (.int .i64 ((T : Int) + 1)))) := Lib.hid ⟨⟨_, _, _, _, hR6, HAGR.out⟩, (RMoved.of_below HB2.out H.out.base).trans (M5.out.trans hM6)⟩
    clear hR6 hM6
    go_wp2
    go_ret
    exact ⟨rfl, FIN.out⟩

set_option maxRecDepth 8000 in
set_option maxHeartbeats 4000000 in
theorem ref_do_room (h : RefAt w B b n av rs T) (ha : Agree n rs T (m1 ++ m :: m2) box lw lb) (hT : T ≤ 900) (hlen : (m1 ++ m :: m2).length ≤ 256) (hmd : 0 ≤ m.dst ∧ m.dst < n) (hroom : (qAt n box m.dst).length < 32) :
    Calls Try.prog 21 #[.pointer (some ⟨b, 0, none⟩), .int .u8 0, .int .i64 m1.length] w fun e w' => e = .returned (.int .i64 0) ∧ RNet w' B b n (T + 1) (m1 ++ m2) (dlv n box m) ∧ RMoved B w w' := by
  obtain ⟨l1, k, l2, r, hlw, hl1, hk1, hk2, hr, hkl, hwt, hkey⟩ := ha.at_way rfl
  obtain ⟨i0, hi, hz0, hz1, hz2⟩ := info_parts Try.info49
  have HI := Lib.hid hi
  have HZ0 := Lib.hid hz0
  have HZ1 := Lib.hid hz1
  have HZ2 := Lib.hid hz2
  clear hi hz0 hz1 hz2
  have HRW := Lib.hid (row_way h ha hT)
  have hll := ha.lens.1
  have hrl : rs.length ≤ 900 := by have := ha.few; omega
  have hRWB := fun w' (hb : Below w.heap.size w w') => row_box (h.kept hb) ha hT m.dst hmd.1
  simp only [ha.len_at] at hRWB
  have HRB := Lib.hid hRWB
  have HLW := Lib.hid hlw
  obtain ⟨src, dst, bs, wt, tm⟩ := r
  obtain ⟨rfl, rfl, rfl⟩ := ref_at_key hkey
  simp only at hwt
  subst hwt
  have H := Lib.hid h
  have HR := Lib.hid hr
  have hagr := ha.deliver hlw hk1 hk2 hr rfl hkey
  have hdlv : setQ box m.dst (qAt n box m.dst ++ [m]) = dlv n box m := by unfold dlv; rw [if_pos hroom]
  rw [hdlv] at hagr
  have HAGR := Lib.hid hagr
  clear hagr hdlv
  have hbw := block_lt h.head
  obtain ⟨q, hq⟩ : ∃ q, lw.length = q := ⟨_, rfl⟩
  have HQ := Lib.hid hq
  have hq1 : m1.length < q := by rw [← hq, hlw]; simp; omega
  have hq2 : q ≤ 256 := by omega
  have hk9 : k < rs.length := hkl
  obtain ⟨L, hL⟩ : ∃ L, rs.length = L := ⟨_, rfl⟩
  have HLL := Lib.hid hL
  rw [hL] at hk9 hrl
  have HL1 := Lib.hid hl1
  obtain ⟨i, hi⟩ : ∃ i, m1.length = i := ⟨_, rfl⟩
  rw [hi] at hq1 ⊢
  have HII := Lib.hid hi
  clear h ha hlw hr hkl hRWB hk1 hk2 hll hl1 hq hL hi hlen hkey
  have i0' : (0 : Int) ≤ (i : Int) := by omega
  have i1 : (i : Int) < (q : Int) := by omega
  have k0 : (0 : Int) ≤ (k : Int) := by omega
  have k1 : (k : Int) < (L : Int) := by omega
  go_enter Try.func21, Try.ntmps21
  go_wp2_with fail
  refine HRW.out.mono ?_
  rintro e w1 ⟨v, rfl, hown, hB1⟩
  obtain ⟨g, cp, rfl, hrow, _, _⟩ := lrow_of hown (by rw [HLW.out]; simp; omega)
  have ck := hrow.cell (j := i) (x := k) (by rw [HLW.out, ← HII.out, ← HL1.out]; simp)
  rw [HQ.out]
  have hR1 := H.out.kept hB1
  have hc1 := hR1.c1
  obtain ⟨gA, cA, rfl, _, x0, x1, x2, x3, x4⟩ := hR1.at_ HR.out
  rw [HLL.out] at hc1
  simp only at x0 x1 x2 x3 x4
  have bA : Below w1.heap.size w1 (w1.alloc (.cells #[.int .i64 m.src, .int .i64 m.dst, .string (strOfNums m.xs), .bool false, .int .i64 tm] 49)) := (Below.refl _ _).alloc (Nat.le_refl _) _
  have hB2 : Below w.heap.size w (w1.alloc (.cells #[.int .i64 m.src, .int .i64 m.dst, .string (strOfNums m.xs), .bool false, .int .i64 tm] 49)) := hB1.trans (bA.mono hB1.size)
  have t5 := five (show (w1.alloc (.cells #[.int .i64 m.src, .int .i64 m.dst, .string (strOfNums m.xs), .bool false, .int .i64 tm] 49)).heap[w1.heap.size]? = some (.cells #[.int .i64 m.src, .int .i64 m.dst, .string (strOfNums m.xs), .bool false, .int .i64 tm] 49 (0, 0)) from heap_alloc_new _ _)
  have HT5 := Lib.hid t5.blk
  have HB2 := Lib.hid hB2
  have hz1' := hB1.size
  have ctx := t5.c1
  have HR2 := Lib.hid (H.out.kept hB2)
  have hc2 := HR2.out.c1
  rw [HLL.out] at hc2
  clear hrow hown hR1 hB1 bA hB2 t5
  go_wp2_with fail
  refine (HRB.out _ HB2.out).mono ?_
  rintro e w3 ⟨v, rfl, hown, hB3⟩
  obtain ⟨va, vc, rfl⟩ := owns_slice3 hown
  have HB3 := Lib.hid (HB2.out.trans (hB3.mono HB2.out.size))
  have HR3 := Lib.hid (H.out.kept HB3.out)
  have hc3 := HR3.out.c1
  rw [HLL.out] at hc3
  clear hown hB3 ck x0 x1 x2 x3 x4 hc1 hc2 ctx
  have d2 : ((qAt n box m.dst).length : Int) < 32 := by omega
  obtain ⟨gB, cB, hvB, ⟨cur3, hg3, _, _⟩, _, _, _, y3, _⟩ := HR3.out.at_ HR.out
  rw [HLL.out] at hvB
  simp only [Value.slice.injEq, Option.some.injEq, Addr.mk.injEq] at hvB
  obtain ⟨⟨rfl, _⟩, _, rfl⟩ := hvB
  simp only at y3
  have fz3 := frozen_of_row w3 gA (k * 5 + 3) _ 49 hg3
  obtain ⟨hR4, hM4⟩ := HR3.out.setj HR.out 3 (by omega) (.bool true) (r' := ⟨m.src, m.dst, strOfNums m.xs, true, tm⟩) rfl (g := gA) (c := cA) rfl
  have HR4 := Lib.hid hR4
  have HM4 := Lib.hid ((RMoved.of_below HB3.out H.out.base).trans hM4)
  have HS4 : Hid ((rs.set k ⟨m.src, m.dst, strOfNums m.xs, true, tm⟩)[k]? = some ⟨m.src, m.dst, strOfNums m.xs, true, tm⟩) := Lib.hid (List.getElem?_set_self (List.getElem?_eq_some_iff.1 HR.out).1)
  have HL4 : Hid ((rs.set k ⟨m.src, m.dst, strOfNums m.xs, true, tm⟩).length = L) := Lib.hid (by rw [List.length_set]; exact HLL.out)
  clear hR4 hM4 hg3 HT5
  go_upto_region 9 with fail
  clear hc3 y3 fz3
  generalize w3.setCell ⟨gA, k * 5 + 3, none⟩ (.bool true) = w4 at *
  have hc4 := HR4.out.c1
  rw [HLL.out] at hc4
  have hT2 : T ≤ 1000 := by omega
  have hbsX := HR4.out.base
  obtain ⟨gB, cB, hvB, ⟨curX, hgX, _, _⟩, _, _, _, _, y4⟩ := HR4.out.at_ HS4.out
  rw [HL4.out] at hvB
  simp only [Value.slice.injEq, Option.some.injEq, Addr.mk.injEq] at hvB
  obtain ⟨⟨rfl, _⟩, _, rfl⟩ := hvB
  simp only at y4
  have fzX := frozen_of_row w4 gA (k * 5 + 4) _ 49 hgX
  go_wp2_with fail
  go_region_law (first | (go_simp; go_at_call 38; refine (ref_behind (HR4.out.kept ((Below.refl w4.heap.size w4).drew)) hT2).mono ?_; rintro e w5 ⟨rfl, hw5⟩; have R5 := Lib.hid (hw5 ▸ (HR4.out.kept ((Below.refl w4.heap.size w4).drew)).tick); have M5 := Lib.hid ((RMoved.of_below ((Below.refl w4.heap.size w4).drew) hbsX).trans (hw5 ▸ (HR4.out.kept ((Below.refl w4.heap.size w4).drew)).ticked)); clear hw5; have e1 := R5.out.c1; rw [HLL.out] at e1; obtain ⟨gC, cC, hvC, hblk, _, _, _, _, z4⟩ := R5.out.at_ HS4.out; obtain ⟨curC, hgC, _, _⟩ := hblk; rw [HL4.out] at hvC; simp only [Value.slice.injEq, Option.some.injEq, Addr.mk.injEq] at hvC; obtain ⟨⟨rfl, _⟩, _, rfl⟩ := hvC; simp only at z4; have fzC := frozen_of_row w5 gA (k * 5 + 4) _ 49 hgC; clear hgC))
  all_goals
    obtain ⟨hR6, hM6⟩ := R5.out.setj HS4.out 4 (by omega) (.int .i64 ((T : Int) + 1)) (r' := ⟨m.src, m.dst, strOfNums m.xs, true, ((T + 1 : Nat) : Int)⟩) rfl (g := gA) (c := cA) (by simp)
    have FIN : Hid (RNet (w5.setCell ⟨gA, k * 5 + 4, none⟩ (.int .i64 ((T : Int) + 1))) B b n (T + 1) (m1 ++ m2) (dlv n box m) ∧ RMoved B w (w5.setCell ⟨gA, k * 5 + 4, none⟩ (.int .i64 ((T : Int) + 1)))) := Lib.hid ⟨⟨_, _, _, _, (by rw [List.set_set] at hR6; exact hR6), HAGR.out⟩, HM4.out.trans (M5.out.trans hM6)⟩
    clear hR6 hM6
    go_wp2
    go_ret
    exact ⟨rfl, FIN.out⟩

set_option maxRecDepth 8000 in
set_option maxHeartbeats 4000000 in
theorem ref_do_dbl (h : RefAt w B b n av rs T) (ha : Agree n rs T (m1 ++ m :: m2) box lw lb) (hT : T ≤ 900) (hlen : (m1 ++ m :: m2).length ≤ 256) (hmd : 0 ≤ m.dst ∧ m.dst < n) (hroom : (m1 ++ m :: m2).length < 256) :
    Calls Try.prog 21 #[.pointer (some ⟨b, 0, none⟩), .int .u8 2, .int .i64 m1.length] w fun e w' => e = .returned (.int .i64 0) ∧ RNet w' B b n (T + 1) (m1 ++ m :: m2 ++ [m]) box ∧ RMoved B w w' := by
  obtain ⟨l1, k, l2, r, hlw, hl1, hk1, hk2, hr, hkl, hwt, hkey⟩ := ha.at_way rfl
  obtain ⟨i0, hi, hz0, hz1, hz2⟩ := info_parts Try.info49
  have HI := Lib.hid hi
  have HZ0 := Lib.hid hz0
  have HZ1 := Lib.hid hz1
  have HZ2 := Lib.hid hz2
  clear hi hz0 hz1 hz2
  have HRW := Lib.hid (row_way h ha hT)
  have hll := ha.lens.1
  have hrl : rs.length ≤ 900 := by have := ha.few; omega
  have hRWB := fun w' (hb : Below w.heap.size w w') => row_box (h.kept hb) ha hT m.dst hmd.1
  simp only [ha.len_at] at hRWB
  have HRB := Lib.hid hRWB
  have HLW := Lib.hid hlw
  obtain ⟨src, dst, bs, wt, tm⟩ := r
  obtain ⟨rfl, rfl, rfl⟩ := ref_at_key hkey
  simp only at hwt
  subst hwt
  have H := Lib.hid h
  have HR := Lib.hid hr
  have HAGR := Lib.hid (ha.send m hmd)
  have hbw := block_lt h.head
  obtain ⟨q, hq⟩ : ∃ q, lw.length = q := ⟨_, rfl⟩
  have HQ := Lib.hid hq
  have hq1 : m1.length < q := by rw [← hq, hlw]; simp; omega
  have hq2 : q ≤ 256 := by omega
  have hqb : ((q : Int) == 256) = false := by simp; omega
  have hk9 : k < rs.length := hkl
  obtain ⟨L, hL⟩ : ∃ L, rs.length = L := ⟨_, rfl⟩
  have HLL := Lib.hid hL
  rw [hL] at hk9 hrl
  have HL1 := Lib.hid hl1
  obtain ⟨i, hi⟩ : ∃ i, m1.length = i := ⟨_, rfl⟩
  rw [hi] at hq1 ⊢
  have HII := Lib.hid hi
  clear h ha hlw hr hkl hRWB hk1 hk2 hll hl1 hq hL hi hlen hkey
  have i0' : (0 : Int) ≤ (i : Int) := by omega
  have i1 : (i : Int) < (q : Int) := by omega
  have k0 : (0 : Int) ≤ (k : Int) := by omega
  have k1 : (k : Int) < (L : Int) := by omega
  go_enter Try.func21, Try.ntmps21
  go_wp2_with fail
  refine HRW.out.mono ?_
  rintro e w1 ⟨v, rfl, hown, hB1⟩
  obtain ⟨g, cp, rfl, hrow, _, _⟩ := lrow_of hown (by rw [HLW.out]; simp; omega)
  have ck := hrow.cell (j := i) (x := k) (by rw [HLW.out, ← HII.out, ← HL1.out]; simp)
  rw [HQ.out]
  have hR1 := H.out.kept hB1
  have hc1 := hR1.c1
  obtain ⟨gA, cA, rfl, _, x0, x1, x2, x3, x4⟩ := hR1.at_ HR.out
  rw [HLL.out] at hc1
  simp only at x0 x1 x2 x3 x4
  have bA : Below w1.heap.size w1 (w1.alloc (.cells #[.int .i64 m.src, .int .i64 m.dst, .string (strOfNums m.xs), .bool false, .int .i64 tm] 49)) := (Below.refl _ _).alloc (Nat.le_refl _) _
  have hB2 : Below w.heap.size w (w1.alloc (.cells #[.int .i64 m.src, .int .i64 m.dst, .string (strOfNums m.xs), .bool false, .int .i64 tm] 49)) := hB1.trans (bA.mono hB1.size)
  have t5 := five (show (w1.alloc (.cells #[.int .i64 m.src, .int .i64 m.dst, .string (strOfNums m.xs), .bool false, .int .i64 tm] 49)).heap[w1.heap.size]? = some (.cells #[.int .i64 m.src, .int .i64 m.dst, .string (strOfNums m.xs), .bool false, .int .i64 tm] 49 (0, 0)) from heap_alloc_new _ _)
  have HT5 := Lib.hid t5.blk
  have HB2 := Lib.hid hB2
  have hz1' := hB1.size
  have ctx := t5.c1
  have HR2 := Lib.hid (H.out.kept hB2)
  have hc2 := HR2.out.c1
  rw [HLL.out] at hc2
  have hgl : gA < w1.heap.size := World.block_lt_of_cell? w1 _ x0
  clear hrow hown hR1 hB1 bA hB2 t5
  have hT2 : T ≤ 1000 := by omega
  go_wp2_with fail
  clear x0 x1 x2 x3 x4 hc1 ck ctx hc2
  generalize w1.alloc (.cells #[.int .i64 m.src, .int .i64 m.dst, .string (strOfNums m.xs), .bool false, .int .i64 tm] 49) = w2 at *
  generalize w1.heap.size = tx at *
  refine (ref_behind HR2.out hT2).mono ?_
  rintro e w5 ⟨rfl, hw5⟩
  have R5 := Lib.hid (hw5 ▸ HR2.out.tick)
  have M5 := Lib.hid (hw5 ▸ HR2.out.ticked)
  have htb : tx ≠ b := by omega
  have T5 := Lib.hid (show w5.heap[tx]? = some (.cells #[.int .i64 m.src, .int .i64 m.dst, .string (strOfNums m.xs), .bool false, .int .i64 tm] 49 (0, 0)) by rw [hw5, heap_setCell_other w2 ⟨b, 2, none⟩ tx _ htb]; exact HT5.out)
  clear hw5
  have f5 := five T5.out
  have f6 := f5.s4 (.int .i64 ((T : Int) + 1))
  have e4 := f5.c4
  have z4 := f5.f4
  have hO := only_setCell w5 tx 4 (.int .i64 ((T : Int) + 1))
  have R6 : Hid (RefAt (w5.setCell ⟨tx, 4, none⟩ (.int .i64 ((T : Int) + 1))) B b n (.slice (some ⟨gA, 0, none⟩) rs.length cA) rs (T + 1)) := Lib.hid ⟨(hO.block b (block_lt R5.out.head) (fun e => htb (Option.some.inj e).symm)).trans R5.out.head, owns_same R5.out.row fun g' cur hg' hcur => hO.block g' (block_lt hcur) (fun e => by
    simp only [Value.ownBlock, Option.some.injEq] at hg'
    have := Option.some.inj e; omega), R5.out.geb, Nat.le_trans R5.out.base hO.size⟩
  have M6 : Hid (RMoved B w (w5.setCell ⟨tx, 4, none⟩ (.int .i64 ((T : Int) + 1)))) := Lib.hid (((RMoved.of_below HB2.out H.out.base).trans M5.out).trans (RMoved.set (i := 4) f5.blk (.inl rfl) (by have := H.out.base; omega) _))
  have F6 := Lib.hid f6
  clear hO f6 f5 R5 M5
  go_upto_region 16 with fail
  clear e4 z4
  generalize w5.setCell ⟨tx, 4, none⟩ (.int .i64 ((T : Int) + 1)) = w6 at *
  obtain ⟨_, y0, y1, y2, y3, y4, _, _, _, _, _⟩ := F6.out
  have hc6 := R6.out.c1
  rw [HLL.out] at hc6
  have f6b := frozen_of_row w6 b 1 _ 69 R6.out.head
  have hb6 := block_lt R6.out.head
  have BB := (Below.refl w6.heap.size w6).alloc (Nat.le_refl _) (.cells #[.int .i64 m.src, .int .i64 m.dst, .string (strOfNums m.xs), .bool false, .int .i64 ((T : Int) + 1)] 49)
  have H3 := Lib.hid (R6.out.kept BB.drew)
  have M3 := Lib.hid (RMoved.of_below BB.drew R6.out.base)
  have k3 := H3.out.c1
  rw [HLL.out] at k3
  have fz3 := frozen_of_row (w6.alloc (.cells #[.int .i64 m.src, .int .i64 m.dst, .string (strOfNums m.xs), .bool false, .int .i64 ((T : Int) + 1)] 49)).drew b 1 _ 69 H3.out.head
  have hb2 := block_lt H3.out.head
  have hne := own_block_49 H3.out.row H3.out.head (by decide)
  have hr3 := H3.out.row
  rw [HLL.out] at hr3
  have HR3 := Lib.hid hr3
  have hz2 := R6.out.base
  clear BB hr3
  rw [HLL.out] at hne
  go_region_law (refine step_append_lies _ (by rfl) _ _ 67 (by rfl) B 49 i0 _ 5 48 Try.underlying67 HI.out HZ0.out HZ1.out HZ2.out rfl (by omega) _ L (rs.flatMap rcells) (by rfl) HR3.out ⟨w6.heap.size, 0, none⟩ 1 1 [.int .i64 m.src, .int .i64 m.dst, .string (strOfNums m.xs), .bool false, .int .i64 ((T : Int) + 1)] (by rfl) rfl (World.news_of_block (heap_alloc_new w6 _)) (by simp [Value.oneCell']) (by omega) (by unfold maxLen; omega) (by omega) (by simp; omega) (w6.heap.size + 1) (by simp) ?_; intro g9 cap' w7 hown3 hgrow hat hlt; have f0 := (hgrow.cell_far ⟨b, 1, none⟩ hb2 hne).trans k3; have f1 := (hgrow.frozen_far ⟨b, 1, none⟩ hb2 hne).trans fz3)
  all_goals
    obtain ⟨hP, hM⟩ := H3.out.put (r := ⟨m.src, m.dst, strOfNums m.xs, false, ((T + 1 : Nat) : Int)⟩) (w3 := w7) (v' := .slice (some ⟨g9, 0, none⟩) (L + 1) cap') (HLL.out ▸ hgrow) (by rw [HLL.out]; simpa [rcells] using hown3)
    have FIN : Hid (RNet (w7.setCell ⟨b, 1, none⟩ (.slice (some ⟨g9, 0, none⟩) (L + 1) cap')) B b n (T + 1) (m1 ++ m :: m2 ++ [m]) box ∧ RMoved B w (w7.setCell ⟨b, 1, none⟩ (.slice (some ⟨g9, 0, none⟩) (L + 1) cap'))) := Lib.hid ⟨⟨_, _, _, _, hP, HAGR.out⟩, M6.out.trans (M3.out.trans hM)⟩
    clear hP hM
    go_wp2
    go_ret
    exact ⟨rfl, FIN.out⟩

end
end Go.Proofs.Ytambdhoeakddhaa
