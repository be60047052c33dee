/- The walk over same. -/
import Derived.Test.YtambdhoeakddhaaRWalkI
import Derived.Deep.CutRange
namespace Go.Proofs.Ytambdhoeakddhaa
open Go Go.RowKit Go.Conc
set_option linter.unusedVariables false

/-- The blocks of the bytes of those ahead of the j-th one. -/
def Spent (qs : List PV) (j k : Nat) : Prop := ∃ q p x, q < j ∧ qs[q]? = some p ∧ p.a = some x ∧ x.block = k
/-- As a world was, but for those blocks. -/
structure Spoilt (w3 wr : World) (s : Nat) (qs : List PV) (j : Nat) : Prop where
  size : w3.heap.size ≤ wr.heap.size
  block : ∀ k, k < w3.heap.size → ¬ Spent qs j k → wr.heap[k]? = w3.heap[k]?
  bel : Below s w3 wr
theorem rows_get {w : World} {B : Nat} : ∀ {qs : List PV} {way : List Msg}, Rows w B qs way → ∀ {q : Nat} {p : PV}, qs[q]? = some p → ∃ m, way[q]? = some m ∧ Is w B p m
  | p0 :: qs, m0 :: way, h, 0, p, hp => by simp at hp; subst hp; exact ⟨m0, rfl, h.1⟩
  | p0 :: qs, m0 :: way, h, q + 1, p, hp => by simp at hp ⊢; exact rows_get h.2 hp
  | [], [], _, q, p, hp => by simp at hp
  | [], _ :: _, h, _, _, _ => h.elim
  | _ :: _, [], h, _, _, _ => h.elim
theorem pown_blk {w : World} {base : Nat} {a : Option Addr} {len cap : Nat} {xs : List Int} (h : POwn w base a len cap xs) {x : Addr} (hx : a = some x) : ∃ cur, w.heap[x.block]? = some (Obj.cells cur 5 (0, 0)) := by
  obtain ⟨_, _, ⟨hv, _⟩ | ⟨g, _, cur, hv, hge, hg, _⟩⟩ := h
  · simp only [Value.slice.injEq] at hv; rw [hv.1] at hx; cases hx
  · simp only [Value.slice.injEq] at hv
    rw [hv.1] at hx
    rw [← Option.some.inj hx]; exact ⟨cur, hg⟩
theorem spent_5 {w : World} {B j k : Nat} {qs : List PV} {way : List Msg} (hr : Rows w B qs way) (h : Spent qs j k) : ∃ cur, w.heap[k]? = some (Obj.cells cur 5 (0, 0)) := by
  obtain ⟨q, p, x, _, hp, hx, rfl⟩ := h
  obtain ⟨m, _, hi⟩ := rows_get hr hp
  exact pown_blk hi.own hx
theorem Spoilt.typed {w3 wr : World} {s B j k : Nat} {qs : List PV} {way : List Msg} (h : Spoilt w3 wr s qs j) (hr : Rows w3 B qs way) {cur : Array Value} {T : Nat} (hk : w3.heap[k]? = some (Obj.cells cur T (0, 0))) (hT : T ≠ 5) : wr.heap[k]? = w3.heap[k]? :=
  h.block k (block_lt hk) fun hs => by
    obtain ⟨cur', h5⟩ := spent_5 hr hs
    rw [hk] at h5
    simp only [Option.some.injEq, Obj.cells.injEq] at h5
    exact hT h5.2.1
theorem RefAt.spoilt {w3 wr : World} {s B0 B b n j : Nat} {av : Value} {rs : List RM} {T : Nat} {qs : List PV} {way : List Msg} (hR : RefAt w3 B b n av rs T) (h : Spoilt w3 wr s qs j) (hr : Rows w3 B0 qs way) : RefAt wr B b n av rs T :=
  ⟨(h.typed hr hR.head (by decide)).trans hR.head, owns_same hR.row fun g cur _ hg => h.typed hr hg (by decide), hR.geb, Nat.le_trans hR.base h.size⟩
theorem Spoilt.own {w3 wr : World} {s B j : Nat} {qs : List PV} {way : List Msg} (h : Spoilt w3 wr s qs j) (hris : Rising qs) {p : PV} {m : Msg} (hp : qs[j]? = some p) (hi : Is w3 B p m) : Is wr B p m := by
  refine ⟨hi.src, hi.dst, ⟨hi.own.1, owns_same hi.own.2 fun g cur hg hcur => h.block g (block_lt hcur) ?_⟩⟩
  rintro ⟨q, p', x, hq, hp', hx, rfl⟩
  have hjl := (List.getElem?_eq_some_iff.1 hp).1
  have hql := (List.getElem?_eq_some_iff.1 hp').1
  have hpe := (List.getElem?_eq_some_iff.1 hp).2
  have hpe' := (List.getElem?_eq_some_iff.1 hp').2
  cases ha : p.a with
  | none => rw [ha] at hg; simp [Value.ownBlock] at hg
  | some y =>
    rw [ha] at hg
    simp only [Value.ownBlock, Option.some.injEq] at hg
    have := List.pairwise_iff_getElem.1 hris q j hql hjl hq x y (by rw [hpe']; exact hx) (by rw [hpe]; exact ha)
    omega

theorem Spoilt.next {w3 wr wd wx : World} {s j : Nat} {qs : List PV} {p : PV} (h : Spoilt w3 wr s qs j) (hq : qs[j]? = some p) (hb : Below wr.heap.size wr wd) (hn : p.a = none → wx = wd) (ho : ∀ x, p.a = some x → Only x.block wd wx) (hs : ∀ x, p.a = some x → s ≤ x.block) (hsz : s ≤ w3.heap.size) : Spoilt w3 wx s qs (j + 1) := by
  have hr := h.size
  have hd := hb.size
  have hw : Below s wr wd := hb.mono (by omega)
  have hmono : ∀ k, Spent qs j k → Spent qs (j + 1) k := fun k ⟨q, p', x, hq', e⟩ => ⟨q, p', x, by omega, e⟩
  cases ha : p.a with
  | none =>
    rw [hn ha]
    exact ⟨by omega, fun k hk hns => (hb.block k (by omega)).trans (h.block k hk fun hx => hns (hmono k hx)), h.bel.trans hw⟩
  | some x =>
    have hO := ho x ha
    have hO2 := hO.size
    refine ⟨by omega, fun k hk hns => ?_, (h.bel.trans hw).trans ⟨hO.os, hO.tape, hO.output, hO.size, fun k hk => hO.block k (by omega) (fun e => by have := hs x ha; have := Option.some.inj e; omega)⟩⟩
    have hne : k ≠ x.block := fun e => hns ⟨j, p, x, by omega, hq, ha, e.symm⟩
    exact (hO.block k (by omega) (fun e => hne (Option.some.inj e))).trans ((hb.block k (by omega)).trans (h.block k hk fun hx => hns (hmono k hx)))
theorem told_at2 {w : World} {B : Nat} {v : Value} {qs : List PV} {way : List Msg} (hown : w.ownsRow B 33 3 v qs.length (qs.flatMap pcells)) (hr : Rows w B qs way) (k : Nat) (hk : k < way.length) :
    ∃ g c m p, v = .slice (some ⟨g, 0, none⟩) way.length c ∧ way[k]? = some m ∧ qs[k]? = some p ∧ (∃ cur : Array Value, w.heap[g]? = some (.cells cur 33 (0, 0))) ∧ Is w B p m ∧ w.cell? ⟨g, k * 3, none⟩ = some (.int .i64 m.src) ∧ w.cell? ⟨g, k * 3 + 1, none⟩ = some (.int .i64 m.dst) ∧ w.cell? ⟨g, k * 3 + 2, none⟩ = some (.slice p.a p.len p.cap) := by
  obtain ⟨m1, m, m2, rfl, rfl⟩ := split_at way k hk
  obtain ⟨q1, p, q2, rfl, hq1, _, hp, _⟩ := hr.split
  have hlen := hr.len
  obtain ⟨hl, ⟨_, hn⟩ | ⟨g, c, cur, hv, hB, hg, hnc, hcm, hsz, htake⟩⟩ := hown
  · simp at hn
  have hat : ∀ j, j < 3 → w.cell? ⟨g, m1.length * 3 + j, none⟩ = (pcells p)[j]? := fun j hj => by
    rw [cell_of_row w g _ _ 33 (0, 0) hg]
    have e : (cur.toList.take ((q1 ++ p :: q2).length * 3))[m1.length * 3 + j]? = cur[m1.length * 3 + j]? := by
      rw [List.getElem?_take_of_lt (by simp; omega)]; simp
    rw [← e, htake, ← hq1, List.flatMap_append, List.getElem?_append_right (by rw [pcells_len]; omega), List.flatMap_cons, List.getElem?_append_left (by rw [pcells_len]; simp [pcells]; omega), pcells_len]
    congr 1; omega
  refine ⟨g, c, m, p, by rw [hv, hlen], by simp, by rw [← hq1]; simp, ⟨cur, hg⟩, hp, ?_, ?_, ?_⟩
  · have := hat 0 (by omega); rw [← hp.src]; simpa [pcells] using this
  · have := hat 1 (by omega); rw [← hp.dst]; simpa [pcells] using this
  · have := hat 2 (by omega); simpa [pcells] using this
/-- The document's message behind the j-th one that travels. -/
theorem Agree.key_at {n : Nat} {rs : List RM} {T : Nat} {way : List Msg} {box : Nat → List Msg} {lw : List Nat} {lb : Nat → List Nat} (h : Agree n rs T way box lw lb) {j : Nat} {m : Msg} (hm : way[j]? = some m) :
    ∃ k r, lw[j]? = some k ∧ rs[k]? = some r ∧ k < rs.length ∧ (r.src, r.dst, r.bs) = mkey m := by
  obtain ⟨w1, m', w2, hw, hj⟩ := split_at way j (List.getElem?_eq_some_iff.1 hm).1
  have hmm : m' = m := by rw [hw, ← hj] at hm; simpa using hm
  subst hmm
  obtain ⟨l1, k, l2, r, hl, hll, _, _, hr, hk, _, hkey⟩ := h.at_way hw
  exact ⟨k, r, by rw [hl, ← hj, ← hll]; simp, hr, hk, hkey⟩

section
variable {w w' : World} {B B2 b b2 n : Nat} {av : Value} {rs : List RM} {T : Nat} {way : List Msg} {box : Nat → List Msg} {lw : List Nat} {lb : Nat → List Nat}
set_option maxRecDepth 8000 in
set_option maxHeartbeats 4000000 in
theorem same_any (hN : Net w B b n way box) (hR : RefAt w B2 b2 n av rs T) (hA : Agree n rs T way box lw lb) (hT : T ≤ 900) :
    Calls Try.prog 26 #[.pointer (some ⟨b, 0, none⟩), .pointer (some ⟨b2, 0, none⟩)] w fun e w' => e = .returned (.bool true) ∧ Below w.heap.size w w' := by
  have HN := Lib.hid hN
  have HR := Lib.hid hR
  have HA := Lib.hid hA
  have hwl := hN.len
  have hn64 := hN.n12.2
  have hll := hA.lens.1
  have hrl : rs.length ≤ 900 := by have := hA.few; omega
  clear hN hR hA
  go_enter Try.func26, Try.ntmps26
  go_wp2_with fail
  refine (n_way_apart HN.out).mono ?_
  rintro e w1 ⟨v, qs, rfl, hown, hr, hB1, hris, hund⟩
  obtain ⟨a, c, rfl⟩ := told_slice hown hr
  have HO1 := Lib.hid (And.intro hown hr)
  have HRIS := Lib.hid hris
  have HB1 := Lib.hid hB1
  have HR1 := Lib.hid (HR.out.kept hB1)
  clear hown hr hB1 hris hund
  go_wp2_with fail
  refine (row_way HR1.out HA.out hT).mono ?_
  rintro e w2 ⟨v, rfl, hown, hB2⟩
  rw [hll] at hown
  obtain ⟨la, lc, rfl⟩ := owns_slice3 hown
  have hN2 : Net w2 B b n way box := HN.out.kept (HB1.out.trans (hB2.mono HB1.out.size))
  have HN2 := Lib.hid hN2
  have HR2 := Lib.hid (HR1.out.kept hB2)
  have HO2 := Lib.hid (show w2.ownsRow w.heap.size 33 3 (.slice a way.length c) qs.length (qs.flatMap pcells) from owns_same HO1.out.1 fun g cur _ hg => hB2.block g (block_lt hg))
  have HW2 := Lib.hid (HO1.out.2.same fun g cur hg => hB2.block g (block_lt hg))
  have HL2 := Lib.hid hown
  have HB2 := Lib.hid (HB1.out.trans (hB2.mono HB1.out.size))
  clear hown hB2 hN2 HO1
  have hc0 : ∀ u : Since w2.heap.size w2, u.val.cell? ⟨b2, 0, none⟩ = some (.int .i64 n) := fun u => (HR2.out.kept u.ok).c0
  go_wp2_with fail
  refine wp_region_since w2.heap.size (by kernel_rfl) (by kernel_rfl) ?_
  repeat (go_big_quiet_step ((first | (go_at_call 30; exact Calls.since_same (n_ends (HN2.out.kept (Since.ok _)))))))
  refine wpQuiet_nil ?_
  rintro _ ⟨u, rfl⟩
  obtain ⟨w3, B3⟩ := u
  have HR3 := Lib.hid (HR2.out.kept B3)
  have HN3 := Lib.hid (HN2.out.kept B3)
  have HO3 := Lib.hid (show w3.ownsRow w.heap.size 33 3 (.slice a way.length c) qs.length (qs.flatMap pcells) from owns_same HO2.out fun g cur _ hg => B3.block g (block_lt hg))
  have HW3 := Lib.hid (HW2.out.same fun g cur hg => B3.block g (block_lt hg))
  have HL3 := Lib.hid (show w3.ownsRow w1.heap.size 3 1 (.slice la way.length lc) way.length (ints lw) from owns_same HL2.out fun g cur _ hg => B3.block g (block_lt hg))
  have HB3 := Lib.hid (HB2.out.trans (B3.mono HB2.out.size))
  clear hc0 HR2 HN2 HO2 HW2 HL2 HB2
  go_wp2_with fail
  go_loopw [7] (fun i wr => ∃ (j : Nat), j ≤ way.length ∧ i = .int .i64 j ∧ Spoilt w3 wr w.heap.size qs j)
    (fun i _ => way.length - (intOf i).toNat)
  case atStart => exact ⟨0, by omega, rfl, Nat.le_refl _, fun k _ _ => rfl, Below.refl _ _⟩
  case round =>
    obtain ⟨j, hj, rfl, hS⟩ := hrel
    have HS := Lib.hid hS
    clear hS
    by_cases hlt : j < way.length
    · have j0 : (0 : Int) ≤ (j : Int) := by omega
      have j1 : (j : Int) < (way.length : Int) := by omega
      obtain ⟨g, cc, m, p, hv, hm, hq, ⟨curg, hgb⟩, hp, y0, y1, y2⟩ := told_at2 HO3.out HW3.out j hlt
      simp only [Value.slice.injEq] at hv
      obtain ⟨rfl, _, rfl⟩ := hv
      obtain ⟨k, r, hlk, hr, hkl, hkey⟩ := HA.out.key_at hm
      obtain ⟨src, dst, bs, wt, tm⟩ := r
      obtain ⟨rfl, rfl, rfl⟩ := ref_at_key hkey
      obtain ⟨gl, cpl, hlv, hrow, _, _⟩ := lrow_of (l := lw) (by rw [hll]; exact HL3.out) (by omega)
      rw [hll] at hlv
      simp only [Value.slice.injEq] at hlv
      obtain ⟨rfl, _, rfl⟩ := hlv
      have hgw := HS.out.typed HW3.out hgb (by decide)
      have z0 := (World.cell?_of_block (a := ⟨g, j * 3, none⟩) hgw).trans y0
      have z1 := (World.cell?_of_block (a := ⟨g, j * 3 + 1, none⟩) hgw).trans y1
      have z2 := (World.cell?_of_block (a := ⟨g, j * 3 + 2, none⟩) hgw).trans y2
      obtain ⟨curl, hlb, hlb2, hlb3⟩ := hrow.blk
      have ck := (World.cell?_of_block (a := ⟨gl, j, none⟩) (HS.out.typed HW3.out hlb (by decide))).trans (hrow.cell hlk)
      have hRw := HR3.out.spoilt HS.out HW3.out
      have hc1 := hRw.c1
      obtain ⟨gA, cA, hav, _, x0, x1, x2, x3, x4⟩ := hRw.at_ hr
      rw [hav] at hc1
      simp only at x0 x1 x2 x3 x4
      have hpw := HS.out.own (way := way) HRIS.out hq hp
      have bA : Below wr.heap.size wr (wr.alloc (.cells #[.int .i64 m.src, .int .i64 m.dst, .string (strOfNums m.xs), .bool wt, .int .i64 tm] 49)) := (Below.refl _ _).alloc (Nat.le_refl _) _
      have t5 := five (show (wr.alloc (.cells #[.int .i64 m.src, .int .i64 m.dst, .string (strOfNums m.xs), .bool wt, .int .i64 tm] 49)).heap[wr.heap.size]? = some (.cells #[.int .i64 m.src, .int .i64 m.dst, .string (strOfNums m.xs), .bool wt, .int .i64 tm] 49 (0, 0)) from heap_alloc_new _ _)
      have k0 : (0 : Int) ≤ (k : Int) := by omega
      have k1 : (k : Int) < (rs.length : Int) := by omega
      have HP := Lib.hid (And.intro hpw hq)
      have HBA := Lib.hid bA
      have HT5 := Lib.hid t5.blk
      have HGW := Lib.hid (hgw.trans hgb)
      clear y0 y1 y2 hp hgb hgw hlb hlb2 hlb3 hrow hRw hpw bA t5 hkey hr hkl hlk hm hq
      obtain ⟨L, hL⟩ : ∃ L, rs.length = L := ⟨_, rfl⟩
      rw [hL] at hc1 k1
      clear hL hav
      have bZ : Below wr.heap.size wr (wr.alloc (.cells #[.int .i64 0, .int .i64 0, .string ⟨#[]⟩, .bool false, .int .i64 0] 49)) := (Below.refl _ _).alloc (Nat.le_refl _) _
      have hc1z := (bZ.cell (World.block_lt_of_cell? wr _ hc1)).trans hc1
      have ckz := (bZ.cell (World.block_lt_of_cell? wr _ ck)).trans ck
      have x0z := (bZ.cell (World.block_lt_of_cell? wr _ x0)).trans x0
      have x1z := (bZ.cell (World.block_lt_of_cell? wr _ x1)).trans x1
      have x2z := (bZ.cell (World.block_lt_of_cell? wr _ x2)).trans x2
      have x3z := (bZ.cell (World.block_lt_of_cell? wr _ x3)).trans x3
      have x4z := (bZ.cell (World.block_lt_of_cell? wr _ x4)).trans x4
      have t0 := five (show (wr.alloc (.cells #[.int .i64 0, .int .i64 0, .string ⟨#[]⟩, .bool false, .int .i64 0] 49)).heap[wr.heap.size]? = some (.cells #[.int .i64 0, .int .i64 0, .string ⟨#[]⟩, .bool false, .int .i64 0] 49 (0, 0)) from heap_alloc_new _ _)
      have t1 := t0.s0 (.int .i64 m.src)
      have t2 := t1.s1 (.int .i64 m.dst)
      have t3 := t2.s2 (.string (strOfNums m.xs))
      have t4 := t3.s3 (.bool wt)
      have t5 := t4.s4 (.int .i64 tm)
      have hb5 := only_below bZ (only_put5 (wr.alloc (.cells #[.int .i64 0, .int .i64 0, .string ⟨#[]⟩, .bool false, .int .i64 0] 49)) wr.heap.size ⟨m.src, m.dst, strOfNums m.xs, wt, tm⟩) (Nat.le_refl _)
      simp only [put5] at hb5
      have HB5 := Lib.hid hb5
      have HT6 := Lib.hid t5.blk
      obtain ⟨_, a00, a01, a02, a03, a04, b00, b01, b02, b03, b04⟩ := t0
      obtain ⟨_, a10, a11, a12, a13, a14, b10, b11, b12, b13, b14⟩ := t1
      obtain ⟨_, a20, a21, a22, a23, a24, b20, b21, b22, b23, b24⟩ := t2
      obtain ⟨_, a30, a31, a32, a33, a34, b30, b31, b32, b33, b34⟩ := t3
      obtain ⟨_, a40, a41, a42, a43, a44, b40, b41, b42, b43, b44⟩ := t4
      clear t5 hb5 bZ
      go_upto_region 7 with fail
      go_cut [8] from 36 to 45 (fun v wx => v = .pointer (some ⟨wr.heap.size, 0, none⟩) ∧ Below wr.heap.size wr wx ∧ wx.heap[wr.heap.size]? = some (.cells #[.int .i64 m.src, .int .i64 m.dst, .string (strOfNums m.xs), .bool wt, .int .i64 tm] 49 (0, 0)))
      case first =>
        as_aux_lemma =>
          go_region
          all_goals
            go_wp2_with fail
            go_meet
            exact ⟨rfl, by first | exact HBA.out | exact HBA.out.drew | exact HB5.out | exact HB5.out.drew, by first | exact HT5.out | exact HT6.out⟩
      case rest =>
        obtain ⟨rfl, hbc, hblk⟩ := hcut
        have t0 := five hblk
        obtain ⟨_, c50, c51, c52, _, _, _, _, _, _, _⟩ := t0
        have v0 := (hbc.cell (World.block_lt_of_cell? wr _ z0)).trans z0
        have v1 := (hbc.cell (World.block_lt_of_cell? wr _ z1)).trans z1
        have v2 := (hbc.cell (World.block_lt_of_cell? wr _ z2)).trans z2
        have hpc := HP.out.1.own.same (fun g cur hg => hbc.block g (block_lt hg))
        have hcv := fun q => conv_own (cap := p.cap) (pown_drewN hpc q)
        have HPC := Lib.hid hpc
        have HGC := Lib.hid ((hbc.block g (block_lt HGW.out)).trans HGW.out)
        have HBC := Lib.hid hbc
        clear hbc hblk hpc z0 z1 z2 hc1z ckz x0z x1z x2z x3z x4z hc1 ck x0 x1 x2 x3 x4 a00 a01 a02 a03 a04 b00 b01 b02 b03 b04 a10 a11 a12 a13 a14 b10 b11 b12 b13 b14 a20 a21 a22 a23 a24 b20 b21 b22 b23 b24 a30 a31 a32 a33 a34 b30 b31 b32 b33 b34 a40 a41 a42 a43 a44 b40 b41 b42 b43 b44
        generalize strOfNums m.xs = str at *
        go_upto_region 8 with fail
        go_quiet (fail)
        have BQ := Lib.hid (HBC.out.trans (below_drewN (Below.refl wr.heap.size wc) nq |>.mono (Nat.le_refl _)))
        have hpd := pown_drewN HPC.out nq
        have HGD := Lib.hid (show (wc.drewN nq).heap[g]? = some (Obj.cells curg 33 (0, 0)) from HGC.out)
        have v2' : (wc.drewN nq).cell? ⟨g, j * 3 + 2, none⟩ = some (.slice p.a p.len p.cap) := v2
        clear v0 v1 v2 hcv c50 c51 c52 HBC HPC HGC
        generalize wc.drewN nq = wd at *
        have hlb : p.len ≤ 140737488355328 := hpd.1
        rcases hpa : p.a with _ | x
        · have hl0 : p.len = 0 := by
            obtain ⟨_, hh, ⟨_, hn⟩ | ⟨g', _, _, hv', _⟩⟩ := hpd
            · exact hn
            · simp only [Value.slice.injEq] at hv'; rw [hpa] at hv'; cases hv'.1
          rw [hpa, hl0] at v2'
          have FIN := Lib.hid (HS.out.next HP.out.2 BQ.out (wx := wd) (fun _ => rfl) (fun x hx => by rw [hpa] at hx; cases hx) (fun x hx => by rw [hpa] at hx; cases hx) HB3.out.size)
          clear hpd
          go_wp2_with fail
          go_loopw [9] (fun i wx => i = .int .i64 0 ∧ wx = wd) (fun _ _ => 0)
          case atStart => exact ⟨rfl, rfl⟩
          case round =>
            obtain ⟨rfl, rfl⟩ := hrel
            go_wp2_with fail
            go_roundw
            case rel => exact ⟨j + 1, by omega, by go_num, FIN.out⟩
            case measure => simp [intOf]; omega
        · obtain ⟨_, _, ⟨hv', _⟩ | ⟨gp, cpp, cur, hv', hge, hgp, hnc, hcm, hsz, _⟩⟩ := hpd
          · simp only [Value.slice.injEq] at hv'; rw [hpa] at hv'; cases hv'.1
          have hx0 : x = ⟨gp, 0, none⟩ := by
            simp only [Value.slice.injEq] at hv'; rw [hpa] at hv'; exact Option.some.inj hv'.1
          subst hx0
          rw [hpa] at v2'
          have hne : g ≠ gp := fun e => by
            have h1 := HGD.out
            rw [e, hgp] at h1
            simp only [Option.some.injEq, Obj.cells.injEq] at h1
            exact absurd h1.2.1 (by decide)
          have hgl := block_lt HGD.out
          have HGP := Lib.hid hgp
          have HSZ := Lib.hid hsz
          clear hgp hsz hv' hcm
          have HV2 := Lib.hid v2'
          go_wp2_with fail
          clear v2'
          go_loopw [9] (fun i wx => ∃ q : Nat, q ≤ p.len ∧ i = .int .i64 q ∧ Only gp wd wx ∧ ∃ cur' : Array Value, wx.heap[gp]? = some (.cells cur' 5 (0, 0)) ∧ cur'.size = cpp)
            (fun i _ => p.len - (intOf i).toNat)
          case atStart => exact ⟨0, by omega, rfl, ⟨rfl, rfl, rfl, Nat.le_refl _, fun _ _ _ => rfl⟩, cur, HGP.out, by have := HSZ.out; omega⟩
          case round =>
            obtain ⟨q, hq, rfl, hO, cur', hcur, hcs⟩ := hrel
            rename_i wq _
            have v2 := (World.cell?_of_block (a := ⟨g, j * 3 + 2, none⟩) (hO.block g hgl (fun e => hne (Option.some.inj e)))).trans HV2.out
            by_cases hql : q < p.len
            · have q0 : (0 : Int) ≤ (q : Int) := by omega
              have q1 : (q : Int) < (p.len : Int) := by omega
              obtain ⟨u, hu⟩ : ∃ u, cur'[q]? = some u := ⟨_, Array.getElem?_eq_getElem (by omega)⟩
              have hcq := (cell_of_row _ gp q _ 5 (0, 0) hcur).trans hu
              have hfq := frozen_of_row _ gp q _ 5 hcur
              have FN := Lib.hid (And.intro (only_trans hO (only_setCell _ gp q (.int .u8 0))) (heap_setCell_same _ gp q _ 5 (.int .u8 0) hcur))
              clear hO hcur
              go_wp2_with fail
              go_roundw
              case rel => exact ⟨q + 1, by omega, by go_num, FN.out.1, _, FN.out.2, by simpa using hcs⟩
              case measure => simp [intOf]; omega
            · obtain rfl : q = p.len := by omega
              have FIN := Lib.hid (HS.out.next HP.out.2 BQ.out (wx := wr) (fun h => absurd (hpa.symm.trans h) (by simp)) (fun x hx => by rw [hpa] at hx; rw [← Option.some.inj hx]; exact hO) (fun x hx => by rw [hpa] at hx; rw [← Option.some.inj hx]; exact hge) HB3.out.size)
              clear hO hcur
              go_wp2_with fail
              go_roundw
              case rel => exact ⟨j + 1, by omega, by go_num, FIN.out⟩
              case measure => simp [intOf]; omega
    · have HB4 := Lib.hid (HB3.out.trans HS.out.bel)
      have HN4 := Lib.hid (HN.out.kept HB4.out)
      have HR4 := Lib.hid (HR.out.kept HB4.out)
      have hjb : decide (j < way.length) = false := decide_eq_false (by omega)
      have hjl : (way.length : Int) ≤ (j : Int) := by omega
      have HJB := Lib.hid hjb
      clear HS hlt hj hjb
      go_wp2_with fail
      rw [HJB.out]
      go_loopw [10] (fun i wx => ∃ e : Nat, e ≤ n + 2 ∧ i = .int .i64 ((e : Int) - 1) ∧ Below wr.heap.size wr wx)
        (fun i _ => n + 2 - (intOf i + 1).toNat)
      case atStart => exact ⟨0, by omega, rfl, Below.refl _ _⟩
      case round =>
        obtain ⟨e, he, rfl, hB5⟩ := hrel
        have HR5 := Lib.hid (HR4.out.kept hB5)
        have HN5 := Lib.hid (HN4.out.kept hB5)
        have hc0 := HR5.out.c0
        have HB5 := Lib.hid hB5
        clear hB5
        by_cases hel : e < n + 2
        · have e1 : (e : Int) - 1 < (n : Int) + 1 := by omega
          by_cases he0 : e = 0
          · subst he0
            have hw := n_waits HN5.out (-1)
            rw [qAt_out (-1) (.inl (by omega))] at hw
            have HW := Lib.hid hw
            clear hw
            go_wp2_with fail
            refine HW.out.mono ?_
            rintro e _ ⟨rfl, rfl⟩
            go_wp2_with fail
            go_roundw
            case rel => exact ⟨1, by omega, by go_num, HB5.out⟩
            case measure => simp [intOf]
          · obtain ⟨f, rfl⟩ : ∃ f, e = f + 1 := ⟨e - 1, by omega⟩
            have hfe : (((f + 1 : Nat) : Int)) - 1 = (f : Int) := by omega
            rw [hfe] at e1 ⊢
            have f0 : (0 : Int) ≤ (f : Int) := by omega
            have HRB := Lib.hid (row_box HR5.out HA.out hT (f : Int) f0)
            have hlq := HA.out.len_at (f : Int)
            rw [hlq] at HRB
            have hq9 := HN5.out.few_q (f : Int)
            have f1 : (f : Int) ≤ (n : Int) := by omega
            go_wp2_with fail
            refine HRB.out.mono ?_
            rintro e w6 ⟨v, rfl, hown, hB6⟩
            obtain ⟨va, vc, rfl⟩ := owns_slice3 hown
            have HN6 := Lib.hid (HN5.out.kept hB6)
            have HB6 := Lib.hid (HB5.out.trans (hB6.mono HB5.out.size))
            clear hown hB6 hlq
            go_wp2_with fail
            refine (n_waits HN6.out (f : Int)).mono ?_
            rintro e _ ⟨rfl, rfl⟩
            go_wp2_with fail
            go_roundw
            case rel => exact ⟨f + 2, by omega, by go_num, HB6.out⟩
            case measure => simp [intOf]; omega
        · obtain rfl : e = n + 2 := by omega
          have e1 : (n : Int) + 1 ≤ (((n + 2 : Nat) : Int)) - 1 := by omega
          go_wp2_with fail
          go_ret
          exact ⟨rfl, HB4.out.trans (HB5.out.mono HB4.out.size)⟩
end
end Go.Proofs.Ytambdhoeakddhaa
