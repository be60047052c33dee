/- The walk over NetCounts. -/
import Derived.Test.YtambdhoeakddhaaWait
import Derived.Deep.CutRange
namespace Go.Proofs.Ytambdhoeakddhaa
open Go Go.RowKit Go.Conc
set_option linter.unusedVariables false

theorem homed_nil (n : Nat) : Homed n (fun _ => []) := fun j hj m hm => by cases hm

/-- A call's block. -/
abbrev cblk (c : CallV) : Obj := .cells #[.int .u8 c.kind, .int .i64 c.pos, .int .i64 c.dest, .slice c.a c.len c.cap] 45
/-- Is the message that a call is about just the one? -/
def HereB (way : List Msg) (c : CallV) (pos : Int) (hb : Bool) : Prop :=
  ((pos < 0 ∨ (way.length : Int) ≤ pos) ∧ hb = false) ∨ ∃ l1 m l2, way = l1 ++ m :: l2 ∧ pos = l1.length ∧ hb = isB m c
structure C4 (w : World) (t : Nat) (c : CallV) : Prop where
  c0 : w.cell? ⟨t, 0, none⟩ = some (.int .u8 c.kind)
  c1 : w.cell? ⟨t, 1, none⟩ = some (.int .i64 c.pos)
  c2 : w.cell? ⟨t, 2, none⟩ = some (.int .i64 c.dest)
  c3 : w.cell? ⟨t, 3, none⟩ = some (.slice c.a c.len c.cap)
theorem c4 {w : World} {t : Nat} {c : CallV} (h : w.heap[t]? = some (cblk c)) : C4 w t c :=
  ⟨by rw [cell_of_row w t 0 _ 45 (0, 0) h]; rfl, by rw [cell_of_row w t 1 _ 45 (0, 0) h]; rfl, by rw [cell_of_row w t 2 _ 45 (0, 0) h]; rfl, by rw [cell_of_row w t 3 _ 45 (0, 0) h]; rfl⟩
/-- What holds at the head of the loop over the calls. -/
structure Head (w0 w : World) (b t n : Nat) (o : CallV) (k M G : Nat) (way : List Msg) (box : Nat → List Msg) : Prop where
  net : Net w w0.heap.size b n way box
  blk : w.heap[t]? = some (cblk o)
  bel : Below w0.heap.size w0 w
  inv : CInv n o way box k M G

theorem which_in (x : Int) (len : Nat) (hl : 0 < len) (hl2 : len ≤ 200) : ∃ o : Nat, o < len ∧ (wrap64 (x.tmod len + len)).tmod len = o := by
  have h1 : x.tmod len < len := Int.tmod_lt_of_pos x (by omega)
  have h2 : -(len : Int) < x.tmod len := by
    have := Int.lt_tmod_of_pos x (show (0 : Int) < len by omega)
    omega
  have h3 : wrap64 (x.tmod len + len) = x.tmod len + len := by
    unfold wrap64; omega
  rw [h3]
  generalize x.tmod (len : Int) = y at *
  have h4 : (y + len).tmod len = (y + len) % len := Int.tmod_eq_emod_of_nonneg (by omega)
  rw [h4]
  have h5 := Int.emod_nonneg (y + len) (show (len : Int) ≠ 0 by omega)
  have h6 := Int.emod_lt_of_pos (y + len) (show (0 : Int) < len by omega)
  exact ⟨((y + len) % len).toNat, by omega, by omega⟩

set_option maxRecDepth 8000 in
set_option maxHeartbeats 4000000 in
theorem counts_main (w : World) (a0 : Int) (a1 : Option Addr) (len cap : Nat) (a2 : Int) (C : Nat → CallV) (hC : CallRow w a1 len C) (hl : len ≤ 9223372036854775807) (h20 : -9223372036854775808 ≤ a2) (h21 : a2 ≤ 9223372036854775807) :
    Calls Try.prog 6 #[.int .i64 a0, .slice a1 len cap, .int .i64 a2] w fun e w' => e = .returned (.bool true) ∧ Below w.heap.size w w' := by
  have HF := Lib.hid (few_any (cap := cap) hC hl 200 (by omega))
  go_enter Try.func6, Try.ntmps6
  go_wp2_with fail
  refine HF.out.mono ?_
  rintro e w1 ⟨⟨r, rfl, hr⟩, rfl⟩
  cases r with
  | false =>
    clear HF hC
    go_wp2_with fail
    refine (works_any w).mono ?_
    rintro e w2 ⟨rfl, hB2⟩
    go_wp2_with fail
    go_ret
    exact ⟨rfl, hB2⟩
  | true =>
    obtain ⟨hl2, hsm⟩ := hr rfl
    clear hr hl HF
    by_cases hz : len = 0
    · have hz0 : ((len : Int) == 0) = true := by simp [hz]
      clear hz hC hsm hl2
      go_wp2_with fail
      refine (works_any w).mono ?_
      rintro e w2 ⟨rfl, hB2⟩
      go_wp2_with fail
      go_ret
      exact ⟨rfl, hB2⟩
    · have hz0 : ((len : Int) == 0) = false := by simp [hz]
      have HC := Lib.hid hC
      have HSM := Lib.hid hsm
      clear hC hsm
      have hlp : (0 : Int) < (len : Int) := by omega
      go_wp2_with fail
      refine (n_new a0 w).mono ?_
      rintro e w2 ⟨b, rfl, hN, hB⟩
      have HN := Lib.hid hN
      have HB := Lib.hid hB
      have hn12 := hN.n12
      clear hN hB
      obtain ⟨o, ho, hidx⟩ := which_in a2 len (by omega) hl2
      obtain ⟨bb, off, rfl, hcell⟩ := HC.out.cells (by omega)
      obtain ⟨x0, x1, x2, x3⟩ := hcell o ho
      have y0 := (HB.out.cell (World.block_lt_of_cell? w _ x0)).trans x0
      have y1 := (HB.out.cell (World.block_lt_of_cell? w _ x1)).trans x1
      have y2 := (HB.out.cell (World.block_lt_of_cell? w _ x2)).trans x2
      have y3 := (HB.out.cell (World.block_lt_of_cell? w _ x3)).trans x3
      have hro := HC.out.reads o ho
      have HCELL := Lib.hid hcell
      obtain ⟨c, hc⟩ : ∃ c, C o = c := ⟨_, rfl⟩
      rw [hc] at y0 y1 y2 y3 hro
      have HRO := Lib.hid hro
      clear x0 x1 x2 x3 hro hcell hc h20 h21
      have o0 : (0 : Int) ≤ (o : Int) := by omega
      have o1 : (o : Int) < (len : Int) := by omega
      have bA : Below w2.heap.size w2 (w2.alloc (.cells #[.int .u8 c.kind, .int .i64 c.pos, .int .i64 c.dest, .slice c.a c.len c.cap] 45)) := (Below.refl _ _).alloc (Nat.le_refl _) _
      have hN3 := HN.out.kept bA
      have HH : Hid (Head w (w2.alloc (.cells #[.int .u8 c.kind, .int .i64 c.pos, .int .i64 c.dest, .slice c.a c.len c.cap] 45)) b w2.heap.size (clampE a0) c 0 0 0 [] (fun _ => [])) :=
        Lib.hid ⟨hN3, heap_alloc_new _ _, HB.out.trans (bA.mono HB.out.size), homed_nil _, by unfold tot; rw [show qAt (clampE a0) (fun _ => []) c.dest = [] by unfold qAt; split <;> rfl]; rfl, by omega⟩
      clear bA hN3 HN HB
      obtain ⟨N, hNN⟩ : ∃ N, clampE a0 = N := ⟨_, rfl⟩
      rw [hNN] at HH hn12
      clear hNN
      go_wp2_with fail
      generalize w2.alloc (.cells #[.int .u8 c.kind, .int .i64 c.pos, .int .i64 c.dest, .slice c.a c.len c.cap] 45) = w3 at *
      generalize w2.heap.size = t at *
      clear y0 y1 y2 y3 hidx o0 o1 hlp hz0 hz
      go_loopw [9, 10, 11] (fun vm vg i wr => ∃ (k M G : Nat) (way : List Msg) (box : Nat → List Msg), k ≤ len ∧ i = .int .i64 k ∧ vm = .int .i64 M ∧ vg = .int .i64 G ∧ Head w wr b t N c k M G way box)
        (fun _ _ i _ => len - (intOf i).toNat)
      case atStart => exact ⟨0, 0, 0, _, _, by omega, rfl, rfl, rfl, HH.out⟩
      case round =>
        clear HH
        obtain ⟨k, M, G, way, box, hk, rfl, rfl, rfl, hH⟩ := hrel
        have HH := Lib.hid hH
        clear hH
        by_cases hlt : k < len
        · have k0 : (0 : Int) ≤ (k : Int) := by omega
          have k1 : (k : Int) < (len : Int) := by omega
          obtain ⟨x0, x1, x2, x3⟩ := HCELL.out k hlt
          have y0 := (HH.out.bel.cell (World.block_lt_of_cell? w _ x0)).trans x0
          have y1 := (HH.out.bel.cell (World.block_lt_of_cell? w _ x1)).trans x1
          have y2 := (HH.out.bel.cell (World.block_lt_of_cell? w _ x2)).trans x2
          have y3 := (HH.out.bel.cell (World.block_lt_of_cell? w _ x3)).trans x3
          have HX : Hid (∃ x, C k = x) := Lib.hid ⟨_, rfl⟩
          obtain ⟨x, hx⟩ := HX.out
          rw [hx] at y0 y1 y2 y3
          have HXR := Lib.hid (hx ▸ HC.out.reads k hlt)
          have HXS := Lib.hid (hx ▸ HSM.out k hlt)
          have HXK := Lib.hid (hx ▸ HC.out.kind k hlt)
          have hpb := hx ▸ HC.out.pos k hlt
          have hdb := hx ▸ HC.out.dest k hlt
          clear x0 x1 x2 x3 hx HX
          have bA : Below wr.heap.size wr (wr.alloc (.cells #[.int .u8 x.kind, .int .i64 x.pos, .int .i64 x.dest, .slice x.a x.len x.cap] 45)) := (Below.refl _ _).alloc (Nat.le_refl _) _
          have HTX := Lib.hid (heap_alloc_new wr (.cells #[.int .u8 x.kind, .int .i64 x.pos, .int .i64 x.dest, .slice x.a x.len x.cap] 45))
          have HN := Lib.hid (HH.out.net.kept bA)
          have HT := Lib.hid ((bA.block t (block_lt HH.out.blk)).trans HH.out.blk)
          have HB := Lib.hid (HH.out.bel.trans (bA.mono HH.out.bel.size))
          have HI := Lib.hid HH.out.inv
          have htx : t < wr.heap.size := block_lt HH.out.blk
          clear bA HH
          go_wp2_with fail
          clear y0 y1 y2 y3
          generalize wr.alloc (.cells #[.int .u8 x.kind, .int .i64 x.pos, .int .i64 x.dest, .slice x.a x.len x.cap] 45) = wA at *
          generalize wr.heap.size = tx at *
          refine (n_way HN.out).mono ?_
          rintro e w4 ⟨v, qs, rfl, hown, hr, hB4⟩
          obtain ⟨va, vc, rfl⟩ := told_slice hown hr
          have HO := Lib.hid (And.intro hown hr)
          have HN4 := Lib.hid (HN.out.kept hB4)
          have HT4 := Lib.hid ((hB4.block t (block_lt HT.out)).trans HT.out)
          have HTX4 := Lib.hid ((hB4.block tx (block_lt HTX.out)).trans HTX.out)
          have HB4 := Lib.hid (HB.out.trans (hB4.mono HB.out.size))
          have hwl := HN.out.len
          clear hown hr hB4 HN HT HTX HB
          generalize wA.heap.size = H4 at *
          go_upto_region 11 with fail
          go_cut [14] from 61 to 79 (fun v wx => ∃ hb, v = .bool hb ∧ HereB way c x.pos hb ∧ Below w4.heap.size w4 wx)
          case first =>
            as_aux_lemma =>
              by_cases hin : 0 ≤ x.pos ∧ x.pos < (way.length : Int)
              · obtain ⟨j, hj⟩ : ∃ j : Nat, x.pos = j := ⟨x.pos.toNat, by omega⟩
                obtain ⟨g, cc, m, p, hv, hm, _, hp, z0, z1, z2⟩ := told_at (w0 := w) HO.out.1 HO.out.2 j (by omega)
                simp only [Value.slice.injEq] at hv
                obtain ⟨rfl, hv2, rfl⟩ := hv
                obtain ⟨l1, m', l2, hway, hl1⟩ := split_at way j (by omega)
                have hmm : m' = m := by
                  rw [hway, ← hl1] at hm; simpa using hm
                have HHB : Hid (HereB way c x.pos (isB m c)) := Lib.hid (.inr ⟨l1, m, l2, by rw [← hmm]; exact hway, by rw [hj, hl1], rfl⟩)
                have HIS : Hid (∀ u : Since w4.heap.size w4, Calls Try.prog 27 #[.agg #[.int .i64 m.src, .int .i64 m.dst, .slice p.a p.len p.cap], .agg #[.int .u8 c.kind, .int .i64 c.pos, .int .i64 c.dest, .slice c.a c.len c.cap]] u.val fun e w' => e = .returned (.bool (isB m c)) ∧ Below u.val.heap.size u.val w') :=
                  Lib.hid fun u => is_any (hp.same (fun g cur hg => u.ok.block g (block_lt hg))) ((HRO.out.kept HB4.out).kept u.ok)
                have hk1 : ∀ u : Since w4.heap.size w4, u.val.cell? ⟨tx, 1, none⟩ = some (.int .i64 (j : Int)) := fun u => by
                  rw [← hj]; exact (u.ok.cell (p := ⟨tx, 1, none⟩) (block_lt HTX4.out)).trans (c4 HTX4.out).c1
                have hk2 : ∀ u : Since w4.heap.size w4, u.val.cell? ⟨t, 0, none⟩ = some (.int .u8 c.kind) := fun u => (u.ok.cell (p := ⟨t, 0, none⟩) (block_lt HT4.out)).trans (c4 HT4.out).c0
                have hk3 : ∀ u : Since w4.heap.size w4, u.val.cell? ⟨t, 1, none⟩ = some (.int .i64 c.pos) := fun u => (u.ok.cell (p := ⟨t, 1, none⟩) (block_lt HT4.out)).trans (c4 HT4.out).c1
                have hk4 : ∀ u : Since w4.heap.size w4, u.val.cell? ⟨t, 2, none⟩ = some (.int .i64 c.dest) := fun u => (u.ok.cell (p := ⟨t, 2, none⟩) (block_lt HT4.out)).trans (c4 HT4.out).c2
                have hk5 : ∀ u : Since w4.heap.size w4, u.val.cell? ⟨t, 3, none⟩ = some (.slice c.a c.len c.cap) := fun u => (u.ok.cell (p := ⟨t, 3, none⟩) (block_lt HT4.out)).trans (c4 HT4.out).c3
                have hk6 : ∀ u : Since w4.heap.size w4, u.val.cell? ⟨g, j * 3, none⟩ = some (.int .i64 m.src) := fun u => (u.ok.cell (World.block_lt_of_cell? w4 _ z0)).trans z0
                have hk7 : ∀ u : Since w4.heap.size w4, u.val.cell? ⟨g, j * 3 + 1, none⟩ = some (.int .i64 m.dst) := fun u => (u.ok.cell (World.block_lt_of_cell? w4 _ z1)).trans z1
                have hk8 : ∀ u : Since w4.heap.size w4, u.val.cell? ⟨g, j * 3 + 2, none⟩ = some (.slice p.a p.len p.cap) := fun u => (u.ok.cell (World.block_lt_of_cell? w4 _ z2)).trans z2
                have j0 : (0 : Int) ≤ (j : Int) := by omega
                have j1 : (j : Int) < (way.length : Int) := by omega
                have j2 : decide ((0 : Int) ≤ (j : Int)) = true := by simp
                have j3 : decide ((j : Int) < (way.length : Int)) = true := by simp; omega
                clear z0 z1 z2 hin hj hm hmm hway hl1 hv2
                generalize isB m c = hb at *
                refine wp_region_since w4.heap.size (by kernel_rfl) (by kernel_rfl) ?_
                repeat (go_big_quiet_step ((first | (go_at_call 27; exact Calls.since (Nat.le_refl _) (HIS.out _)))))
                refine wpQuiet_nil ?_
                rintro _ ⟨u, rfl⟩
                obtain ⟨w5, B5⟩ := u
                clear hk1 hk2 hk3 hk4 hk5 hk6 hk7 hk8
                go_wp2_with fail
                go_meet
                exact ⟨hb, rfl, HHB.out, B5⟩
              · have hk1 := (c4 HTX4.out).c1
                by_cases i1 : x.pos < 0
                · have i2 : decide ((0 : Int) ≤ x.pos) = false := by simp; omega
                  have HHB : Hid (HereB way c x.pos false) := Lib.hid (.inl ⟨.inl i1, rfl⟩)
                  clear hin
                  generalize x.pos = xp at *
                  go_quiet (fail)
                  go_wp2_with fail
                  go_meet
                  exact ⟨false, rfl, HHB.out, below_drewN (Below.refl _ _) _⟩
                · have i2 : decide ((0 : Int) ≤ x.pos) = true := by simp; omega
                  have i3 : decide (x.pos < (way.length : Int)) = false := by simp; omega
                  have i4 : 0 ≤ x.pos := by omega
                  have i5 : (way.length : Int) ≤ x.pos := by omega
                  have HHB : Hid (HereB way c x.pos false) := Lib.hid (.inl ⟨.inr i5, rfl⟩)
                  clear hin i1
                  generalize x.pos = xp at *
                  go_quiet (fail)
                  go_wp2_with fail
                  go_meet
                  exact ⟨false, rfl, HHB.out, below_drewN (Below.refl _ _) _⟩
          case rest =>
            obtain ⟨hb, rfl, hhb, hB5⟩ := hcut
            have HN5 := Lib.hid (HN4.out.kept hB5)
            have HT5 := Lib.hid ((hB5.block t (block_lt HT4.out)).trans HT4.out)
            have HTX5 := Lib.hid ((hB5.block tx (block_lt HTX4.out)).trans HTX4.out)
            have HB5 := Lib.hid (HB4.out.trans (hB5.mono HB4.out.size))
            have hM2 : M ≤ 200 := by have := HI.out.le; omega
            have hG2 : G ≤ 200 := by have := HI.out.eq; omega
            have hn2 : (N : Int) ≤ 64 := by omega
            have HHB := Lib.hid hhb
            have HFQ := Lib.hid (HN5.out.few_q c.dest)
            have HTO := Lib.hid HN5.out.to
            have xt := c4 HTX5.out
            have ot := c4 HT5.out
            have xc0 := xt.c0
            have xc1 := xt.c1
            have xc2 := xt.c2
            have xc3 := xt.c3
            have oc1 := ot.c1
            have oc2 := ot.c2
            have oc3 := ot.c3
            have oc0 := ot.c0
            have HXRR := Lib.hid (HXR.out.kept HB5.out)
            have HROO := Lib.hid (HRO.out.kept HB5.out)
            clear HN4 HT4 HTX4 HB4 HO xt ot hhb hB5 hwl hn12
            by_cases e0 : x.kind = 0
            · as_aux_lemma =>
                have d0 : (x.kind == 0) = true := by simpa using e0
                have d1 : (x.kind == 1) = false := by simp only [beq_eq_false_iff_ne, ne_eq]; omega
                have d2 : (x.kind == 2) = false := by simp only [beq_eq_false_iff_ne, ne_eq]; omega
                have d3 : (x.kind == 3) = false := by simp only [beq_eq_false_iff_ne, ne_eq]; omega
                rcases HHB.out with ⟨hout, hbf⟩ | ⟨l1, m, l2, hway, hpos, hbt⟩
                · subst hbf
                  have HMV := Lib.hid (n_moves_out HN5.out x HXK.out.1 HXK.out.2 hout)
                  have HINV := Lib.hid HI.out.up
                  clear hout HHB HFQ e0
                  go_wp2_with fail
                  refine HMV.out.mono ?_
                  rintro e w6 ⟨rfl, hN6, hM6⟩
                  have y0 := (c4 ((hM6.keeps tx _ HTX5.out rfl).trans HTX5.out)).c0
                  have FIN : Hid (Head w w6 b t N c (k + 1) (M) (G) way box) := Lib.hid ⟨hN6, (hM6.keeps t _ HT5.out rfl).trans HT5.out, HB5.out.trans hM6.bel, HINV.out⟩
                  clear hN6 hM6 xc0 xc1 xc2 xc3 oc0 oc1 oc2 oc3
                  go_wp2_with fail
                  go_roundw
                  case rel => exact ⟨k + 1, M, G, _, _, by omega, by go_num, by go_num, by go_num, FIN.out⟩
                  case measure => simp [intOf]; omega
                · subst hway
                  have hmd := HTO.out m (by simp)
                  have hE : mvE x.kind (l1 ++ m :: l2) = 0 := by unfold mvE; rw [if_neg (by omega)]
                  have hW : mvW x.kind l1 m l2 = l1 ++ l2 := by unfold mvW; rw [if_pos e0]
                  have hQ : mvQ x.kind N box m = dlv N box m := by unfold mvQ; rw [if_pos e0]
                  have hmv := n_moves_in HN5.out x HXK.out.1 HXK.out.2 hpos
                  rw [hE, hW, hQ] at hmv
                  clear hE hW hQ hpos HHB HTO
                  have HMV := Lib.hid hmv
                  have hinv := HI.out.deliver hmd
                  clear hmv e0
                  cases hv : isB m c with
                  | false =>
                    rw [hv] at hinv hbt
                    subst hbt
                    simp only [Bool.false_and, one, Bool.false_eq_true, if_false, Nat.add_zero] at hinv
                    have HINV := Lib.hid hinv
                    clear hinv hv hmd HFQ
                    go_wp2_with fail
                    refine HMV.out.mono ?_
                    rintro e w6 ⟨rfl, hN6, hM6⟩
                    have y0 := (c4 ((hM6.keeps tx _ HTX5.out rfl).trans HTX5.out)).c0
                    have FIN : Hid (Head w w6 b t N c (k + 1) (M) (G) (l1 ++ l2) (dlv N box m)) := Lib.hid ⟨hN6, (hM6.keeps t _ HT5.out rfl).trans HT5.out, HB5.out.trans hM6.bel, HINV.out⟩
                    clear hN6 hM6 xc0 xc1 xc2 xc3 oc0 oc1 oc2 oc3
                    go_wp2_with fail
                    go_roundw
                    case rel => exact ⟨k + 1, M, G, _, _, by omega, by go_num, by go_num, by go_num, FIN.out⟩
                    case measure => simp [intOf]; omega
                  | true =>
                    rw [hv] at hinv hbt
                    subst hbt
                    by_cases hf : 32 ≤ (qAt N box c.dest).length
                    · have f1 : (32 : Int) ≤ ((qAt N box c.dest).length : Int) := by omega
                      rw [show decide (32 ≤ (qAt N box c.dest).length) = true by simpa using hf] at hinv
                      simp only [Bool.and_self, one, if_true] at hinv
                      have HINV := Lib.hid hinv
                      clear hinv hv hmd hf HFQ
                      go_wp2_with fail
                      refine (n_waits HN5.out c.dest).mono ?_
                      rintro e _ ⟨rfl, rfl⟩
                      go_wp2_with fail
                      refine HMV.out.mono ?_
                      rintro e w6 ⟨rfl, hN6, hM6⟩
                      have y0 := (c4 ((hM6.keeps tx _ HTX5.out rfl).trans HTX5.out)).c0
                      have FIN : Hid (Head w w6 b t N c (k + 1) (M) (G + 1) (l1 ++ l2) (dlv N box m)) := Lib.hid ⟨hN6, (hM6.keeps t _ HT5.out rfl).trans HT5.out, HB5.out.trans hM6.bel, HINV.out⟩
                      clear hN6 hM6 xc0 xc1 xc2 xc3 oc0 oc1 oc2 oc3
                      go_wp2_with fail
                      go_roundw
                      case rel => exact ⟨k + 1, M, G + 1, _, _, by omega, by go_num, by go_num, by go_num, FIN.out⟩
                      case measure => simp [intOf]; omega
                    · have f1 : ((qAt N box c.dest).length : Int) < 32 := by omega
                      rw [show decide (32 ≤ (qAt N box c.dest).length) = false by simpa using hf] at hinv
                      simp only [Bool.and_false, one, Bool.false_eq_true, if_false, Nat.add_zero] at hinv
                      have HINV := Lib.hid hinv
                      clear hinv hv hmd hf HFQ
                      go_wp2_with fail
                      refine (n_waits HN5.out c.dest).mono ?_
                      rintro e _ ⟨rfl, rfl⟩
                      go_wp2_with fail
                      refine HMV.out.mono ?_
                      rintro e w6 ⟨rfl, hN6, hM6⟩
                      have y0 := (c4 ((hM6.keeps tx _ HTX5.out rfl).trans HTX5.out)).c0
                      have FIN : Hid (Head w w6 b t N c (k + 1) (M) (G) (l1 ++ l2) (dlv N box m)) := Lib.hid ⟨hN6, (hM6.keeps t _ HT5.out rfl).trans HT5.out, HB5.out.trans hM6.bel, HINV.out⟩
                      clear hN6 hM6 xc0 xc1 xc2 xc3 oc0 oc1 oc2 oc3
                      go_wp2_with fail
                      go_roundw
                      case rel => exact ⟨k + 1, M, G, _, _, by omega, by go_num, by go_num, by go_num, FIN.out⟩
                      case measure => simp [intOf]; omega
            · have hsink : True := trivial
              by_cases e1 : x.kind = 1
              · as_aux_lemma =>
                  have d0 : (x.kind == 0) = false := by simpa using e0
                  have d1 : (x.kind == 1) = true := by simpa using e1
                  have d2 : (x.kind == 2) = false := by simp only [beq_eq_false_iff_ne, ne_eq]; omega
                  have d3 : (x.kind == 3) = false := by simp only [beq_eq_false_iff_ne, ne_eq]; omega
                  rcases HHB.out with ⟨hout, hbf⟩ | ⟨l1, m, l2, hway, hpos, hbt⟩
                  · subst hbf
                    have HMV := Lib.hid (n_moves_out HN5.out x HXK.out.1 HXK.out.2 hout)
                    have HINV := Lib.hid HI.out.up
                    clear hout HHB HFQ e0 e1
                    go_wp2_with fail
                    refine HMV.out.mono ?_
                    rintro e w6 ⟨rfl, hN6, hM6⟩
                    have y0 := (c4 ((hM6.keeps tx _ HTX5.out rfl).trans HTX5.out)).c0
                    have FIN : Hid (Head w w6 b t N c (k + 1) (M) (G) way box) := Lib.hid ⟨hN6, (hM6.keeps t _ HT5.out rfl).trans HT5.out, HB5.out.trans hM6.bel, HINV.out⟩
                    clear hN6 hM6 xc0 xc1 xc2 xc3 oc0 oc1 oc2 oc3
                    go_wp2_with fail
                    go_roundw
                    case rel => exact ⟨k + 1, M, G, _, _, by omega, by go_num, by go_num, by go_num, FIN.out⟩
                    case measure => simp [intOf]; omega
                  · subst hway
                    have hmd := HTO.out m (by simp)
                    have hE : mvE x.kind (l1 ++ m :: l2) = 0 := by unfold mvE; rw [if_neg (by omega)]
                    have hW : mvW x.kind l1 m l2 = l1 ++ l2 := by unfold mvW; rw [if_neg e0, if_pos e1]
                    have hQ : mvQ x.kind N box m = box := by unfold mvQ; rw [if_neg e0]
                    have hmv := n_moves_in HN5.out x HXK.out.1 HXK.out.2 hpos
                    rw [hE, hW, hQ] at hmv
                    clear hE hW hQ hpos HHB HTO
                    have HMV := Lib.hid hmv
                    have hinv := HI.out.drop
                    clear hmv e0 e1
                    cases hv : isB m c with
                    | false =>
                      rw [hv] at hinv hbt
                      subst hbt
                      simp only [one, Bool.false_eq_true, if_false, Nat.add_zero] at hinv
                      have HINV := Lib.hid hinv
                      clear hinv hv hmd HFQ
                      go_wp2_with fail
                      refine HMV.out.mono ?_
                      rintro e w6 ⟨rfl, hN6, hM6⟩
                      have y0 := (c4 ((hM6.keeps tx _ HTX5.out rfl).trans HTX5.out)).c0
                      have FIN : Hid (Head w w6 b t N c (k + 1) (M) (G) (l1 ++ l2) box) := Lib.hid ⟨hN6, (hM6.keeps t _ HT5.out rfl).trans HT5.out, HB5.out.trans hM6.bel, HINV.out⟩
                      clear hN6 hM6 xc0 xc1 xc2 xc3 oc0 oc1 oc2 oc3
                      go_wp2_with fail
                      go_roundw
                      case rel => exact ⟨k + 1, M, G, _, _, by omega, by go_num, by go_num, by go_num, FIN.out⟩
                      case measure => simp [intOf]; omega
                    | true =>
                      rw [hv] at hinv hbt
                      subst hbt
                      simp only [one, if_true] at hinv
                      have HINV := Lib.hid hinv
                      have f0 := HFQ.out
                      clear hinv hv hmd HFQ
                      go_wp2_with fail
                      refine (n_waits HN5.out c.dest).mono ?_
                      rintro e _ ⟨rfl, rfl⟩
                      go_wp2_with fail
                      refine HMV.out.mono ?_
                      rintro e w6 ⟨rfl, hN6, hM6⟩
                      have y0 := (c4 ((hM6.keeps tx _ HTX5.out rfl).trans HTX5.out)).c0
                      have FIN : Hid (Head w w6 b t N c (k + 1) (M) (G + 1) (l1 ++ l2) box) := Lib.hid ⟨hN6, (hM6.keeps t _ HT5.out rfl).trans HT5.out, HB5.out.trans hM6.bel, HINV.out⟩
                      clear hN6 hM6 xc0 xc1 xc2 xc3 oc0 oc1 oc2 oc3
                      go_wp2_with fail
                      go_roundw
                      case rel => exact ⟨k + 1, M, G + 1, _, _, by omega, by go_num, by go_num, by go_num, FIN.out⟩
                      case measure => simp [intOf]; omega
              · have hsink : True := trivial
                by_cases e2 : x.kind = 2
                · as_aux_lemma =>
                    have d0 : (x.kind == 0) = false := by simpa using e0
                    have d1 : (x.kind == 1) = false := by simpa using e1
                    have d2 : (x.kind == 2) = true := by simpa using e2
                    have d3 : (x.kind == 3) = false := by simp only [beq_eq_false_iff_ne, ne_eq]; omega
                    rcases HHB.out with ⟨hout, hbf⟩ | ⟨l1, m, l2, hway, hpos, hbt⟩
                    · subst hbf
                      have HMV := Lib.hid (n_moves_out HN5.out x HXK.out.1 HXK.out.2 hout)
                      have HINV := Lib.hid HI.out.up
                      clear hout HHB HFQ e0 e1 e2
                      go_wp2_with fail
                      refine HMV.out.mono ?_
                      rintro e w6 ⟨rfl, hN6, hM6⟩
                      have y0 := (c4 ((hM6.keeps tx _ HTX5.out rfl).trans HTX5.out)).c0
                      have FIN : Hid (Head w w6 b t N c (k + 1) (M) (G) way box) := Lib.hid ⟨hN6, (hM6.keeps t _ HT5.out rfl).trans HT5.out, HB5.out.trans hM6.bel, HINV.out⟩
                      clear hN6 hM6 xc0 xc1 xc2 xc3 oc0 oc1 oc2 oc3
                      go_wp2_with fail
                      go_roundw
                      case rel => exact ⟨k + 1, M, G, _, _, by omega, by go_num, by go_num, by go_num, FIN.out⟩
                      case measure => simp [intOf]; omega
                    · subst hway
                      have hmd := HTO.out m (by simp)
                      have hE : mvE x.kind (l1 ++ m :: l2) = dblE (l1 ++ m :: l2).length := by unfold mvE; rw [if_pos e2]
                      have hW : mvW x.kind l1 m l2 = dblW (l1 ++ m :: l2) m := by unfold mvW; rw [if_neg e0, if_neg e1, if_pos e2]
                      have hQ : mvQ x.kind N box m = box := by unfold mvQ; rw [if_neg e0]
                      have hmv := n_moves_in HN5.out x HXK.out.1 HXK.out.2 hpos
                      rw [hE, hW, hQ] at hmv
                      clear hE hW hQ hpos HHB HTO
                      have hfq := HFQ.out
                      clear e0 e1 e2
                      by_cases hfl : (l1 ++ m :: l2).length < 256
                      · have hE : dblE (l1 ++ m :: l2).length = 0 := by unfold dblE; rw [if_pos hfl]
                        have hW : dblW (l1 ++ m :: l2) m = l1 ++ m :: l2 ++ [m] := by unfold dblW; rw [if_pos hfl]
                        rw [hE, hW] at hmv
                        have HMV := Lib.hid hmv
                        have hinv := HI.out.send m
                        clear hE hW hmv hfl HFQ hmd
                        cases hv : isB m c with
                        | false =>
                          rw [hv] at hinv hbt
                          subst hbt
                          simp only [one, Bool.false_eq_true, if_false, Nat.add_zero] at hinv
                          have HINV := Lib.hid hinv
                          clear hinv hv
                          go_wp2_with fail
                          refine HMV.out.mono ?_
                          rintro e w6 ⟨rfl, hN6, hM6⟩
                          have y0 := (c4 ((hM6.keeps tx _ HTX5.out rfl).trans HTX5.out)).c0
                          have FIN : Hid (Head w w6 b t N c (k + 1) (M) (G) (l1 ++ m :: l2 ++ [m]) box) := Lib.hid ⟨hN6, (hM6.keeps t _ HT5.out rfl).trans HT5.out, HB5.out.trans hM6.bel, HINV.out⟩
                          clear hN6 hM6 xc0 xc1 xc2 xc3 oc0 oc1 oc2 oc3
                          go_wp2_with fail
                          go_roundw
                          case rel => exact ⟨k + 1, M, G, _, _, by omega, by go_num, by go_num, by go_num, FIN.out⟩
                          case measure => simp [intOf]; omega
                        | true =>
                          rw [hv] at hinv hbt
                          subst hbt
                          simp only [one, if_true] at hinv
                          have HINV := Lib.hid hinv
                          clear hinv hv
                          go_wp2_with fail
                          refine (n_waits HN5.out c.dest).mono ?_
                          rintro e _ ⟨rfl, rfl⟩
                          go_wp2_with fail
                          refine HMV.out.mono ?_
                          rintro e w6 ⟨rfl, hN6, hM6⟩
                          have y0 := (c4 ((hM6.keeps tx _ HTX5.out rfl).trans HTX5.out)).c0
                          have FIN : Hid (Head w w6 b t N c (k + 1) (M + 1) (G) (l1 ++ m :: l2 ++ [m]) box) := Lib.hid ⟨hN6, (hM6.keeps t _ HT5.out rfl).trans HT5.out, HB5.out.trans hM6.bel, HINV.out⟩
                          clear hN6 hM6 xc0 xc1 xc2 xc3 oc0 oc1 oc2 oc3
                          go_wp2_with fail
                          go_roundw
                          case rel => exact ⟨k + 1, M + 1, G, _, _, by omega, by go_num, by go_num, by go_num, FIN.out⟩
                          case measure => simp [intOf]; omega
                      · have hE : dblE (l1 ++ m :: l2).length = 3 := by unfold dblE; rw [if_neg hfl]
                        have hW : dblW (l1 ++ m :: l2) m = l1 ++ m :: l2 := by unfold dblW; rw [if_neg hfl]
                        rw [hE, hW] at hmv
                        have HMV := Lib.hid hmv
                        have HINV := Lib.hid HI.out.up
                        clear hE hW hmv hfl HFQ hmd
                        cases hv : isB m c with
                        | false =>
                          rw [hv] at hbt
                          subst hbt
                          clear hv
                          go_wp2_with fail
                          refine HMV.out.mono ?_
                          rintro e w6 ⟨rfl, hN6, hM6⟩
                          have y0 := (c4 ((hM6.keeps tx _ HTX5.out rfl).trans HTX5.out)).c0
                          have FIN : Hid (Head w w6 b t N c (k + 1) (M) (G) (l1 ++ m :: l2) box) := Lib.hid ⟨hN6, (hM6.keeps t _ HT5.out rfl).trans HT5.out, HB5.out.trans hM6.bel, HINV.out⟩
                          clear hN6 hM6 xc0 xc1 xc2 xc3 oc0 oc1 oc2 oc3
                          go_wp2_with fail
                          go_roundw
                          case rel => exact ⟨k + 1, M, G, _, _, by omega, by go_num, by go_num, by go_num, FIN.out⟩
                          case measure => simp [intOf]; omega
                        | true =>
                          rw [hv] at hbt
                          subst hbt
                          clear hv
                          go_wp2_with fail
                          refine (n_waits HN5.out c.dest).mono ?_
                          rintro e _ ⟨rfl, rfl⟩
                          go_wp2_with fail
                          refine HMV.out.mono ?_
                          rintro e w6 ⟨rfl, hN6, hM6⟩
                          have y0 := (c4 ((hM6.keeps tx _ HTX5.out rfl).trans HTX5.out)).c0
                          have FIN : Hid (Head w w6 b t N c (k + 1) (M) (G) (l1 ++ m :: l2) box) := Lib.hid ⟨hN6, (hM6.keeps t _ HT5.out rfl).trans HT5.out, HB5.out.trans hM6.bel, HINV.out⟩
                          clear hN6 hM6 xc0 xc1 xc2 xc3 oc0 oc1 oc2 oc3
                          go_wp2_with fail
                          go_roundw
                          case rel => exact ⟨k + 1, M, G, _, _, by omega, by go_num, by go_num, by go_num, FIN.out⟩
                          case measure => simp [intOf]; omega
                · have hsink : True := trivial
                  by_cases e3 : x.kind = 3
                  · as_aux_lemma =>
                      have d0 : (x.kind == 0) = false := by simpa using e0
                      have d1 : (x.kind == 1) = false := by simpa using e1
                      have d2 : (x.kind == 2) = false := by simpa using e2
                      have d3 : (x.kind == 3) = true := by simpa using e3
                      rcases HHB.out with ⟨hout, hbf⟩ | ⟨l1, m, l2, hway, hpos, hbt⟩
                      · subst hbf
                        have HMV := Lib.hid (n_moves_out HN5.out x HXK.out.1 HXK.out.2 hout)
                        have HINV := Lib.hid HI.out.up
                        clear hout HHB HFQ e0 e1 e2 e3
                        go_wp2_with fail
                        refine HMV.out.mono ?_
                        rintro e w6 ⟨rfl, hN6, hM6⟩
                        have y0 := (c4 ((hM6.keeps tx _ HTX5.out rfl).trans HTX5.out)).c0
                        have FIN : Hid (Head w w6 b t N c (k + 1) (M) (G) way box) := Lib.hid ⟨hN6, (hM6.keeps t _ HT5.out rfl).trans HT5.out, HB5.out.trans hM6.bel, HINV.out⟩
                        clear hN6 hM6 xc0 xc1 xc2 xc3 oc0 oc1 oc2 oc3
                        go_wp2_with fail
                        go_roundw
                        case rel => exact ⟨k + 1, M, G, _, _, by omega, by go_num, by go_num, by go_num, FIN.out⟩
                        case measure => simp [intOf]; omega
                      · subst hway
                        have hmd := HTO.out m (by simp)
                        have hE : mvE x.kind (l1 ++ m :: l2) = 0 := by unfold mvE; rw [if_neg e2]
                        have hW : mvW x.kind l1 m l2 = l1 ++ (l2 ++ [m]) := by unfold mvW; rw [if_neg e0, if_neg e1, if_neg e2]
                        have hQ : mvQ x.kind N box m = box := by unfold mvQ; rw [if_neg e0]
                        have hmv := n_moves_in HN5.out x HXK.out.1 HXK.out.2 hpos
                        rw [hE, hW, hQ] at hmv
                        clear hE hW hQ hpos HHB HTO
                        have HMV := Lib.hid hmv
                        have hinv := HI.out.delay
                        clear hmv e0 e1 e2 e3
                        cases hv : isB m c with
                        | false =>
                          rw [hv] at hbt
                          subst hbt
                          have HINV := Lib.hid hinv
                          clear hinv hv hmd HFQ
                          go_wp2_with fail
                          refine HMV.out.mono ?_
                          rintro e w6 ⟨rfl, hN6, hM6⟩
                          have y0 := (c4 ((hM6.keeps tx _ HTX5.out rfl).trans HTX5.out)).c0
                          have FIN : Hid (Head w w6 b t N c (k + 1) (M) (G) (l1 ++ (l2 ++ [m])) box) := Lib.hid ⟨hN6, (hM6.keeps t _ HT5.out rfl).trans HT5.out, HB5.out.trans hM6.bel, HINV.out⟩
                          clear hN6 hM6 xc0 xc1 xc2 xc3 oc0 oc1 oc2 oc3
                          go_wp2_with fail
                          go_roundw
                          case rel => exact ⟨k + 1, M, G, _, _, by omega, by go_num, by go_num, by go_num, FIN.out⟩
                          case measure => simp [intOf]; omega
                        | true =>
                          rw [hv] at hbt
                          subst hbt
                          have HINV := Lib.hid hinv
                          have f0 := HFQ.out
                          clear hinv hv hmd HFQ
                          go_wp2_with fail
                          refine (n_waits HN5.out c.dest).mono ?_
                          rintro e _ ⟨rfl, rfl⟩
                          go_wp2_with fail
                          refine HMV.out.mono ?_
                          rintro e w6 ⟨rfl, hN6, hM6⟩
                          have y0 := (c4 ((hM6.keeps tx _ HTX5.out rfl).trans HTX5.out)).c0
                          have FIN : Hid (Head w w6 b t N c (k + 1) (M) (G) (l1 ++ (l2 ++ [m])) box) := Lib.hid ⟨hN6, (hM6.keeps t _ HT5.out rfl).trans HT5.out, HB5.out.trans hM6.bel, HINV.out⟩
                          clear hN6 hM6 xc0 xc1 xc2 xc3 oc0 oc1 oc2 oc3
                          go_wp2_with fail
                          go_roundw
                          case rel => exact ⟨k + 1, M, G, _, _, by omega, by go_num, by go_num, by go_num, FIN.out⟩
                          case measure => simp [intOf]; omega
                  · have hsink : True := trivial
                    have d0 : (x.kind == 0) = false := by simpa using e0
                    have d1 : (x.kind == 1) = false := by simpa using e1
                    have d2 : (x.kind == 2) = false := by simpa using e2
                    have d3 : (x.kind == 3) = false := by simpa using e3
                    clear HHB HFQ HTO e0 e1 e2 e3 HXK
                    by_cases e4 : x.kind = 4
                    · as_aux_lemma =>
                        have d4 : (x.kind == 4) = true := by simpa using e4
                        clear e4
                        cases hq : qAt N box x.dest with
                        | nil =>
                          have HR := Lib.hid (n_receive_none HN5.out x.dest hq)
                          have HINV := Lib.hid HI.out.up
                          unfold nobody at HR
                          clear hq
                          go_wp2_with fail
                          refine HR.out.mono ?_
                          rintro e w6 ⟨rfl, hN6, hB6⟩
                          have bA : Below w6.heap.size w6 (w6.alloc (.cells #[.int .i64 0, .int .i64 0, .slice none 0 0] 33)) := (Below.refl _ _).alloc (Nat.le_refl _) _
                          have BB := hB6.trans (bA.mono hB6.size)
                          have FIN : Hid (Head w (w6.alloc (.cells #[.int .i64 0, .int .i64 0, .slice none 0 0] 33)) b t N c (k + 1) M G way box) := Lib.hid ⟨hN6.kept bA, (BB.block t (block_lt HT5.out)).trans HT5.out, HB5.out.trans (BB.mono HB5.out.size), HINV.out⟩
                          clear hN6 hB6 bA BB xc0 xc1 xc2 xc3 oc0 oc1 oc2 oc3
                          go_wp2_with fail
                          go_roundw
                          case rel => exact ⟨k + 1, M, G, _, _, by omega, by go_num, by go_num, by go_num, FIN.out⟩
                          case measure => simp [intOf]; omega
                        | cons m rest =>
                          have HR := Lib.hid (n_receive_one HN5.out x.dest m rest hq)
                          have hinv := HI.out.up.tail hq
                          clear hq
                          go_wp2_with fail
                          refine HR.out.mono ?_
                          rintro e w6 ⟨p, rfl, hp, hN6, hM6⟩
                          have bA : Below w6.heap.size w6 (w6.alloc (.cells #[.int .i64 m.src, .int .i64 m.dst, .slice p.a p.len p.cap] 33)) := (Below.refl _ _).alloc (Nat.le_refl _) _
                          have hB7 : Below w.heap.size w (w6.alloc (.cells #[.int .i64 m.src, .int .i64 m.dst, .slice p.a p.len p.cap] 33)) := (HB5.out.trans hM6.bel).trans (bA.mono hN6.base)
                          have hT7 := (bA.block t (block_lt ((hM6.keeps t _ HT5.out rfl).trans HT5.out))).trans ((hM6.keeps t _ HT5.out rfl).trans HT5.out)
                          have HIS := Lib.hid (is_any (hp.same (fun g cur hg => bA.block g (block_lt hg))) (HRO.out.kept hB7))
                          obtain ⟨_, a50, a51, a52, _, _, _⟩ := tri (show (w6.alloc (.cells #[.int .i64 m.src, .int .i64 m.dst, .slice p.a p.len p.cap] 33)).heap[w6.heap.size]? = some (.cells #[.int .i64 m.src, .int .i64 m.dst, .slice p.a p.len p.cap] 33 (0, 0)) from heap_alloc_new _ _)
                          have p0 := hp.src
                          have p1 := hp.dst
                          have ot := c4 hT7
                          have o70 := ot.c0
                          have o71 := ot.c1
                          have o72 := ot.c2
                          have o73 := ot.c3
                          have HN7 := Lib.hid (hN6.kept bA)
                          have HT7 := Lib.hid hT7
                          have HB7 := Lib.hid hB7
                          have HINV := Lib.hid hinv
                          clear hN6 hM6 bA hB7 hT7 hp ot hinv xc0 xc1 xc2 xc3 oc0 oc1 oc2 oc3
                          unfold pagg
                          go_wp2_with fail
                          refine HIS.out.mono ?_
                          rintro e w7 ⟨rfl, hB7⟩
                          have FIN : Hid (Head w w7 b t N c (k + 1) M (G + one (isB m c)) way (setQ box x.dest rest)) := Lib.hid ⟨HN7.out.kept hB7, (hB7.block t (block_lt HT7.out)).trans HT7.out, HB7.out.trans (hB7.mono HB7.out.size), HINV.out⟩
                          clear hB7 HN7 HT7 HINV HIS a50 a51 a52 o70 o71 o72 o73
                          cases hv : isB m c with
                          | false =>
                            have FIN' := FIN.out
                            rw [hv] at FIN'
                            simp only [one, Bool.false_eq_true, if_false, Nat.add_zero] at FIN'
                            have FIN2 := Lib.hid FIN'
                            clear FIN FIN' hv
                            go_wp2_with fail
                            go_roundw
                            case rel => exact ⟨k + 1, M, G, _, _, by omega, by go_num, by go_num, by go_num, FIN2.out⟩
                            case measure => simp [intOf]; omega
                          | true =>
                            have FIN' := FIN.out
                            rw [hv] at FIN'
                            simp only [one, if_true] at FIN'
                            have FIN2 := Lib.hid FIN'
                            clear FIN FIN' hv
                            go_wp2_with fail
                            go_roundw
                            case rel => exact ⟨k + 1, M, G + 1, _, _, by omega, by go_num, by go_num, by go_num, FIN2.out⟩
                            case measure => simp [intOf]; omega
                    · have d4 : (x.kind == 4) = false := by simpa using e4
                      clear e4
                      by_cases e5 : x.kind = 5
                      · as_aux_lemma =>
                          have d5 : (x.kind == 5) = true := by simpa using e5
                          clear e5
                          have HH5 : Hid (Head w wc b t N c k M G way box) := Lib.hid ⟨HN5.out, HT5.out, HB5.out, HI.out⟩
                          clear HN5 HT5 HB5 HI hG2 xc1 xc2 xc3 oc0 oc1 oc2 oc3
                          go_wp2_with fail
                          clear xc0
                          go_loopw [10] (fun vg wx => ∃ (G' : Nat) (box' : Nat → List Msg), vg = .int .i64 G' ∧ Head w wx b t N c k M G' way box' ∧ wx.heap[tx]? = some (cblk x))
                            (fun _ wx => waitsW wx b x.dest)
                          case atStart => exact ⟨G, box, rfl, HH5.out, HTX5.out⟩
                          case round =>
                            clear HH5 HTX5
                            obtain ⟨G', box', rfl, hH, hTX⟩ := hrel
                            have hG2 : G' ≤ 200 := by have := hH.inv.eq; omega
                            have xc2 := (c4 hTX).c2
                            have HH := Lib.hid hH
                            have HTX := Lib.hid hTX
                            clear hH hTX
                            cases hq : qAt N box' x.dest with
                            | nil =>
                              have hw := n_waits HH.out.net x.dest
                              rw [hq] at hw
                              have HW := Lib.hid hw
                              have HINV := Lib.hid ((HH.out.inv.clear hq).up)
                              clear hw hq
                              go_wp2_with fail
                              refine HW.out.mono ?_
                              rintro e _ ⟨rfl, rfl⟩
                              go_wp2_with fail
                              refine (n_clear HH.out.net x.dest).mono ?_
                              rintro e w8 ⟨rfl, hN8, hM8⟩
                              have FIN : Hid (Head w w8 b t N c (k + 1) M G' way (setQ box' x.dest [])) := Lib.hid ⟨hN8, (hM8.keeps t _ HH.out.blk rfl).trans HH.out.blk, HH.out.bel.trans hM8.bel, HINV.out⟩
                              clear hN8 hM8 xc2
                              go_wp2_with fail
                              go_roundw
                              case rel => exact ⟨k + 1, M, G', _, _, by omega, by go_num, by go_num, by go_num, FIN.out⟩
                              case measure => simp [intOf]; omega
                            | cons m rest =>
                              have hin : 0 ≤ x.dest ∧ x.dest < N := by
                                unfold qAt at hq; split at hq
                                · assumption
                                · cases hq
                              have hw := n_waits HH.out.net x.dest
                              rw [hq, List.length_cons] at hw
                              have HW := Lib.hid hw
                              have hq' : qAt N (setQ box' x.dest rest) x.dest = rest := by rw [qAt_setQ, if_pos ⟨rfl, hin⟩]
                              have HQ' := Lib.hid hq'
                              have hm0 := waitsW_of HH.out.net x.dest
                              rw [hq, List.length_cons] at hm0
                              have HM0 := Lib.hid hm0
                              have hrl : rest.length ≤ 31 := by have := HH.out.net.few_q x.dest; rw [hq, List.length_cons] at this; omega
                              have HR := Lib.hid (n_receive_one HH.out.net x.dest m rest hq)
                              have HINV := Lib.hid (HH.out.inv.tail hq)
                              clear hw hq hq' hm0 hin
                              go_wp2_with fail
                              refine HW.out.mono ?_
                              rintro e _ ⟨rfl, rfl⟩
                              go_wp2_with fail
                              refine HR.out.mono ?_
                              rintro e w6 ⟨p, rfl, hp, hN6, hM6⟩
                              have bA : Below w6.heap.size w6 (w6.alloc (.cells #[.int .i64 m.src, .int .i64 m.dst, .slice p.a p.len p.cap] 33)) := (Below.refl _ _).alloc (Nat.le_refl _) _
                              have hB7 : Below w.heap.size w (w6.alloc (.cells #[.int .i64 m.src, .int .i64 m.dst, .slice p.a p.len p.cap] 33)) := (HH.out.bel.trans hM6.bel).trans (bA.mono hN6.base)
                              have hT6 := (hM6.keeps t _ HH.out.blk rfl).trans HH.out.blk
                              have hT7 := (bA.block t (block_lt hT6)).trans hT6
                              have hX6 := (hM6.keeps tx _ HTX.out rfl).trans HTX.out
                              have hX7 := (bA.block tx (block_lt hX6)).trans hX6
                              have HIS := Lib.hid (is_any (hp.same (fun g cur hg => bA.block g (block_lt hg))) (HRO.out.kept hB7))
                              obtain ⟨_, a50, a51, a52, _, _, _⟩ := tri (show (w6.alloc (.cells #[.int .i64 m.src, .int .i64 m.dst, .slice p.a p.len p.cap] 33)).heap[w6.heap.size]? = some (.cells #[.int .i64 m.src, .int .i64 m.dst, .slice p.a p.len p.cap] 33 (0, 0)) from heap_alloc_new _ _)
                              have p0 := hp.src
                              have p1 := hp.dst
                              have ot := c4 hT7
                              have o70 := ot.c0
                              have o71 := ot.c1
                              have o72 := ot.c2
                              have o73 := ot.c3
                              have HN7 := Lib.hid (hN6.kept bA)
                              have HT7 := Lib.hid hT7
                              have HX7 := Lib.hid hX7
                              have HB7 := Lib.hid hB7
                              clear hN6 hM6 bA hB7 hT7 hT6 hX6 hX7 hp ot xc2
                              unfold pagg
                              go_wp2_with fail
                              refine HIS.out.mono ?_
                              rintro e w7 ⟨rfl, hB7⟩
                              have FIN : Hid (Head w w7 b t N c k M (G' + one (isB m c)) way (setQ box' x.dest rest)) := Lib.hid ⟨HN7.out.kept hB7, (hB7.block t (block_lt HT7.out)).trans HT7.out, HB7.out.trans (hB7.mono HB7.out.size), HINV.out⟩
                              have FX : Hid (w7.heap[tx]? = some (cblk x)) := Lib.hid ((hB7.block tx (block_lt HX7.out)).trans HX7.out)
                              have hm1 := waitsW_of FIN.out.net x.dest
                              rw [HQ'.out] at hm1
                              have HM1 := Lib.hid hm1
                              clear hB7 HN7 HT7 HX7 HINV HIS a50 a51 a52 o70 o71 o72 o73 hm1
                              cases hv : isB m c with
                              | false =>
                                have FIN' := FIN.out
                                rw [hv] at FIN'
                                simp only [one, Bool.false_eq_true, if_false, Nat.add_zero] at FIN'
                                have FIN2 := Lib.hid FIN'
                                clear FIN FIN' hv
                                go_wp2_with fail
                                go_roundw
                                case rel => exact ⟨G', _, by go_num, FIN2.out, FX.out⟩
                                case measure => rw [HM0.out, HM1.out]; omega
                              | true =>
                                have FIN' := FIN.out
                                rw [hv] at FIN'
                                simp only [one, if_true] at FIN'
                                have FIN2 := Lib.hid FIN'
                                clear FIN FIN' hv
                                go_wp2_with fail
                                go_roundw
                                case rel => exact ⟨G' + 1, _, by go_num, FIN2.out, FX.out⟩
                                case measure => rw [HM0.out, HM1.out]; omega
                      · have d5 : (x.kind == 5) = false := by simpa using e5
                        clear e5
                        have hsnd := n_send HN5.out x.pos x.dest x.a x.len x.cap x.xs (HXRR.out.bat (by have := HXS.out; omega))
                        have hse : sendE N way.length x.pos x.dest = 0 ∨ sendE N way.length x.pos x.dest = 2 ∨ sendE N way.length x.pos x.dest = 3 := by
                          unfold sendE; split
                          · simp
                          · split <;> simp
                        rcases hse with h | h | h
                        · as_aux_lemma =>
                            have hw : sendW N way x.pos x.dest x.xs = way ++ [⟨x.pos, x.dest, x.xs⟩] := by unfold sendW; rw [if_pos h]
                            rw [h, hw] at hsnd
                            have HS := Lib.hid hsnd
                            have hinv := HI.out.send ⟨x.pos, x.dest, x.xs⟩
                            clear h hw hsnd
                            go_wp2_with fail
                            refine HS.out.mono ?_
                            rintro e w6 ⟨rfl, hN6, hM6⟩
                            have hT6 := (hM6.keeps t _ HT5.out rfl).trans HT5.out
                            have hX6 := (hM6.keeps tx _ HTX5.out rfl).trans HTX5.out
                            have hB6 := HB5.out.trans hM6.bel
                            have FIN0 : Hid (∀ M', M' = M + one (isB ⟨x.pos, x.dest, x.xs⟩ c) → Head w w6 b t N c (k + 1) M' G (way ++ [⟨x.pos, x.dest, x.xs⟩]) box) := Lib.hid fun M' hM' => by rw [hM']; exact ⟨hN6, hT6, hB6, hinv⟩
                            have v1 := conv_read (cap := x.cap) (HXR.out.kept hB6)
                            have v2 := conv_read (cap := c.cap) (HRO.out.kept hB6)
                            have xt := c4 hX6
                            have ot := c4 hT6
                            have y1 := xt.c1
                            have y2 := xt.c2
                            have y3 := xt.c3
                            have o1 := ot.c1
                            have o2 := ot.c2
                            have o3 := ot.c3
                            clear hN6 hM6 hT6 hX6 hB6 xt ot hinv xc0 xc1 xc2 xc3 oc0 oc1 oc2 oc3
                            unfold isB at FIN0
                            by_cases g1 : x.pos = c.pos
                            · have f1 : (x.pos == c.pos) = true := by simpa using g1
                              by_cases g2 : x.dest = c.dest
                              · have f2 : (x.dest == c.dest) = true := by simpa using g2
                                generalize strOfNums x.xs = s1 at *
                                generalize strOfNums c.xs = s2 at *
                                cases f3 : (s1.toList == s2.toList) with
                                | true =>
                                  have FIN := Lib.hid (FIN0.out (M + 1) (by simp [f1, f2, f3, one]))
                                  clear g1 g2 FIN0
                                  go_wp2_with fail
                                  go_roundw
                                  case rel => exact ⟨k + 1, M + 1, G, _, _, by omega, by go_num, by go_num, by go_num, FIN.out⟩
                                  case measure => simp [intOf]; omega
                                | false =>
                                  have FIN := Lib.hid (FIN0.out M (by simp [f3, one]))
                                  clear g1 g2 FIN0
                                  go_wp2_with fail
                                  go_roundw
                                  case rel => exact ⟨k + 1, M, G, _, _, by omega, by go_num, by go_num, by go_num, FIN.out⟩
                                  case measure => simp [intOf]; omega
                              · have f2 : (x.dest == c.dest) = false := by simpa using g2
                                have FIN := Lib.hid (FIN0.out M (by simp [f2, one]))
                                clear g1 g2 FIN0 v1 v2
                                go_wp2_with fail
                                go_roundw
                                case rel => exact ⟨k + 1, M, G, _, _, by omega, by go_num, by go_num, by go_num, FIN.out⟩
                                case measure => simp [intOf]; omega
                            · have f1 : (x.pos == c.pos) = false := by simpa using g1
                              have FIN := Lib.hid (FIN0.out M (by simp [f1, one]))
                              clear g1 FIN0 v1 v2
                              go_wp2_with fail
                              go_roundw
                              case rel => exact ⟨k + 1, M, G, _, _, by omega, by go_num, by go_num, by go_num, FIN.out⟩
                              case measure => simp [intOf]; omega
                        · as_aux_lemma =>
                            have hw : sendW N way x.pos x.dest x.xs = way := by unfold sendW; rw [if_neg (by rw [h]; decide)]
                            rw [h, hw] at hsnd
                            have HS := Lib.hid hsnd
                            have HINV := Lib.hid HI.out.up
                            clear h hw hsnd
                            go_wp2_with fail
                            refine HS.out.mono ?_
                            rintro e w6 ⟨rfl, hN6, hM6⟩
                            have FIN : Hid (Head w w6 b t N c (k + 1) M G way box) := Lib.hid ⟨hN6, (hM6.keeps t _ HT5.out rfl).trans HT5.out, HB5.out.trans hM6.bel, HINV.out⟩
                            clear hN6 hM6 xc0 xc1 xc2 xc3 oc0 oc1 oc2 oc3
                            go_wp2_with fail
                            go_roundw
                            case rel => exact ⟨k + 1, M, G, _, _, by omega, by go_num, by go_num, by go_num, FIN.out⟩
                            case measure => simp [intOf]; omega
                        · as_aux_lemma =>
                            have hw : sendW N way x.pos x.dest x.xs = way := by unfold sendW; rw [if_neg (by rw [h]; decide)]
                            rw [h, hw] at hsnd
                            have HS := Lib.hid hsnd
                            have HINV := Lib.hid HI.out.up
                            clear h hw hsnd
                            go_wp2_with fail
                            refine HS.out.mono ?_
                            rintro e w6 ⟨rfl, hN6, hM6⟩
                            have FIN : Hid (Head w w6 b t N c (k + 1) M G way box) := Lib.hid ⟨hN6, (hM6.keeps t _ HT5.out rfl).trans HT5.out, HB5.out.trans hM6.bel, HINV.out⟩
                            clear hN6 hM6 xc0 xc1 xc2 xc3 oc0 oc1 oc2 oc3
                            go_wp2_with fail
                            go_roundw
                            case rel => exact ⟨k + 1, M, G, _, _, by omega, by go_num, by go_num, by go_num, FIN.out⟩
                            case measure => simp [intOf]; omega
        · as_aux_lemma =>
            obtain rfl : k = len := by omega
            have HN := Lib.hid HH.out.net
            have HT := Lib.hid HH.out.blk
            have HB := Lib.hid HH.out.bel
            have hM2 : M ≤ 200 := by have := HH.out.inv.le; omega
            have hMG : M = G + (cnt c way + cnt c (qAt N box c.dest)) := HH.out.inv.eq
            have HMG := Lib.hid hMG
            clear HH hlt hk hMG hn12 ho
            go_wp2_with fail
            refine (n_way HN.out).mono ?_
            rintro e w4 ⟨v, qs, rfl, hown, hr, hB4⟩
            obtain ⟨va, vc, rfl⟩ := told_slice hown hr
            have HO := Lib.hid (And.intro hown hr)
            have HN4 := Lib.hid (HN.out.kept hB4)
            have HT4 := Lib.hid ((hB4.block t (block_lt HT.out)).trans HT.out)
            have HB4 := Lib.hid (HB.out.trans (hB4.mono HB.out.size))
            have hwl := HN.out.len
            clear hown hr hB4 HN HT HB
            generalize wr.heap.size = H4 at *
            go_wp2_with fail
            go_loopw [9, 22] (fun vm i wr => ∃ (j M' : Nat), j ≤ way.length ∧ i = .int .i64 j ∧ vm = .int .i64 M' ∧ M' ≤ 200 ∧ M' = G + (cnt c (way.drop j) + cnt c (qAt N box c.dest)) ∧ Below w4.heap.size w4 wr)
              (fun _ i _ => way.length - (intOf i).toNat)
            case atStart => exact ⟨0, M, by omega, rfl, rfl, hM2, HMG.out, Below.refl _ _⟩
            case round =>
              clear hM2 HMG
              obtain ⟨j, M', hj, rfl, rfl, hM2, hMG, hBx⟩ := hrel
              have HMG := Lib.hid hMG
              clear hMG
              by_cases hjl : j < way.length
              · have j0 : (0 : Int) ≤ (j : Int) := by omega
                have j1 : (j : Int) < (way.length : Int) := by omega
                obtain ⟨g, cc, m, p, hv, hm, _, hp, z0, z1, z2⟩ := told_at (w0 := w) HO.out.1 HO.out.2 j hjl
                simp only [Value.slice.injEq] at hv
                obtain ⟨rfl, hv2, rfl⟩ := hv
                have hd : way.drop j = m :: way.drop (j + 1) := by
                  rw [List.drop_eq_getElem_cons hjl]
                  rw [List.getElem?_eq_getElem hjl] at hm
                  rw [Option.some.inj hm]
                have hmg := HMG.out
                rw [hd, cnt_cons] at hmg
                have hT4 := (hBx.block t (block_lt HT4.out)).trans HT4.out
                have HIS : Hid (∀ u : Since wr.heap.size wr, Calls Try.prog 27 #[.agg #[.int .i64 m.src, .int .i64 m.dst, .slice p.a p.len p.cap], .agg #[.int .u8 c.kind, .int .i64 c.pos, .int .i64 c.dest, .slice c.a c.len c.cap]] u.val fun e w' => e = .returned (.bool (isB m c)) ∧ Below u.val.heap.size u.val w') :=
                  Lib.hid fun u => is_any ((hp.same (fun g cur hg => hBx.block g (block_lt hg))).same (fun g cur hg => u.ok.block g (block_lt hg))) (((HRO.out.kept HB4.out).kept hBx).kept u.ok)
                have hk2 : ∀ u : Since wr.heap.size wr, u.val.cell? ⟨t, 0, none⟩ = some (.int .u8 c.kind) := fun u => (u.ok.cell (p := ⟨t, 0, none⟩) (block_lt hT4)).trans (c4 hT4).c0
                have hk3 : ∀ u : Since wr.heap.size wr, u.val.cell? ⟨t, 1, none⟩ = some (.int .i64 c.pos) := fun u => (u.ok.cell (p := ⟨t, 1, none⟩) (block_lt hT4)).trans (c4 hT4).c1
                have hk4 : ∀ u : Since wr.heap.size wr, u.val.cell? ⟨t, 2, none⟩ = some (.int .i64 c.dest) := fun u => (u.ok.cell (p := ⟨t, 2, none⟩) (block_lt hT4)).trans (c4 hT4).c2
                have hk5 : ∀ u : Since wr.heap.size wr, u.val.cell? ⟨t, 3, none⟩ = some (.slice c.a c.len c.cap) := fun u => (u.ok.cell (p := ⟨t, 3, none⟩) (block_lt hT4)).trans (c4 hT4).c3
                have q0 := (hBx.cell (World.block_lt_of_cell? w4 _ z0)).trans z0
                have q1 := (hBx.cell (World.block_lt_of_cell? w4 _ z1)).trans z1
                have q2 := (hBx.cell (World.block_lt_of_cell? w4 _ z2)).trans z2
                have hk6 : ∀ u : Since wr.heap.size wr, u.val.cell? ⟨g, j * 3, none⟩ = some (.int .i64 m.src) := fun u => (u.ok.cell (World.block_lt_of_cell? wr _ q0)).trans q0
                have hk7 : ∀ u : Since wr.heap.size wr, u.val.cell? ⟨g, j * 3 + 1, none⟩ = some (.int .i64 m.dst) := fun u => (u.ok.cell (World.block_lt_of_cell? wr _ q1)).trans q1
                have hk8 : ∀ u : Since wr.heap.size wr, u.val.cell? ⟨g, j * 3 + 2, none⟩ = some (.slice p.a p.len p.cap) := fun u => (u.ok.cell (World.block_lt_of_cell? wr _ q2)).trans q2
                have HBX := Lib.hid hBx
                have HMG2 := Lib.hid hmg
                clear z0 z1 z2 q0 q1 q2 hm hd hv2 hmg hT4 hBx HMG hp
                generalize hbv : isB m c = hb at *
                go_wp2_with fail
                refine wp_region_since wr.heap.size (by kernel_rfl) (by kernel_rfl) ?_
                repeat (go_big_quiet_step ((first | (go_at_call 27; exact Calls.since (Nat.le_refl _) (HIS.out _)))))
                refine wpQuiet_nil ?_
                rintro _ ⟨u, rfl⟩
                obtain ⟨w5, B5⟩ := u
                have B6 := Lib.hid (HBX.out.trans (B5.mono HBX.out.size))
                clear hk2 hk3 hk4 hk5 hk6 hk7 hk8 HIS HBX hbv
                cases hb with
                | false =>
                  have HMG3 : Hid (M' = G + (cnt c (way.drop (j + 1)) + cnt c (qAt N box c.dest))) := Lib.hid (by have := HMG2.out; simp only [one, Bool.false_eq_true, if_false, Nat.zero_add] at this; exact this)
                  clear HMG2
                  go_wp2_with fail
                  go_roundw
                  case rel => exact ⟨j + 1, M', by omega, by go_num, by go_num, hM2, HMG3.out, B6.out⟩
                  case measure => simp [intOf]; omega
                | true =>
                  obtain ⟨M2, rfl⟩ : ∃ M2, M' = M2 + 1 := ⟨M' - 1, by have := HMG2.out; simp only [one, if_true] at this; omega⟩
                  have HMG3 : Hid (M2 = G + (cnt c (way.drop (j + 1)) + cnt c (qAt N box c.dest))) := Lib.hid (by have := HMG2.out; simp only [one, if_true] at this; omega)
                  clear HMG2
                  go_wp2_with fail
                  go_roundw
                  case rel => exact ⟨j + 1, M2, by omega, by go_num, by go_num, by omega, HMG3.out, B6.out⟩
                  case measure => simp [intOf]; omega
              · obtain rfl : j = way.length := by omega
                have hmg := HMG.out
                rw [List.drop_length, cnt_nil, Nat.zero_add] at hmg
                have HMG2 := Lib.hid hmg
                have HN5 := Lib.hid (HN4.out.kept hBx)
                have HT5 := Lib.hid ((hBx.block t (block_lt HT4.out)).trans HT4.out)
                have HB5 := Lib.hid (HB4.out.trans (hBx.mono HB4.out.size))
                have hHQ := HN4.out.few_q c.dest
                clear hmg hBx HN4 HT4 HB4 HO HMG hjl hj
                have oc2 := (c4 HT5.out).c2
                go_wp2_with fail
                clear oc2
                go_loopw [9] (fun vm wr => ∃ (M2 : Nat) (box' : Nat → List Msg), vm = .int .i64 M2 ∧ M2 ≤ 200 ∧ M2 = G + cnt c (qAt N box' c.dest) ∧ Net wr w.heap.size b N way box' ∧ wr.heap[t]? = some (cblk c) ∧ Below w.heap.size w wr)
                  (fun _ wr => waitsW wr b c.dest)
                case atStart => exact ⟨M', box, rfl, hM2, HMG2.out, HN5.out, HT5.out, HB5.out⟩
                case round =>
                  clear HN5 HT5 HB5 HMG2 hM2 hHQ
                  obtain ⟨M2, box', rfl, hM2, hMG, hN, hT, hB⟩ := hrel
                  have oc2 := (c4 hT).c2
                  have HN := Lib.hid hN
                  have HT := Lib.hid hT
                  have HB := Lib.hid hB
                  have HMG := Lib.hid hMG
                  clear hN hT hB hMG
                  cases hq : qAt N box' c.dest with
                  | nil =>
                    have hw := n_waits HN.out c.dest
                    have hmg := HMG.out
                    rw [hq] at hw hmg
                    rw [cnt_nil, Nat.add_zero] at hmg
                    subst hmg
                    have HW := Lib.hid hw
                    clear hw hq HMG
                    go_wp2_with fail
                    refine HW.out.mono ?_
                    rintro e _ ⟨rfl, rfl⟩
                    go_wp2_with fail
                    refine (works_any _).mono ?_
                    rintro e w8 ⟨rfl, hB8⟩
                    go_wp2_with fail
                    go_ret
                    exact ⟨rfl, HB.out.trans (hB8.mono HB.out.size)⟩
                  | cons m rest =>
                    have hin : 0 ≤ c.dest ∧ c.dest < N := by
                      unfold qAt at hq; split at hq
                      · assumption
                      · cases hq
                    have hw := n_waits HN.out c.dest
                    rw [hq, List.length_cons] at hw
                    have HW := Lib.hid hw
                    have hq' : qAt N (setQ box' c.dest rest) c.dest = rest := by rw [qAt_setQ, if_pos ⟨rfl, hin⟩]
                    have HQ' := Lib.hid hq'
                    have hm0 := waitsW_of HN.out c.dest
                    rw [hq, List.length_cons] at hm0
                    have HM0 := Lib.hid hm0
                    have hrl : rest.length ≤ 31 := by have := HN.out.few_q c.dest; rw [hq, List.length_cons] at this; omega
                    have HR := Lib.hid (n_receive_one HN.out c.dest m rest hq)
                    have hmg := HMG.out
                    rw [hq, cnt_cons] at hmg
                    have HMG2 := Lib.hid hmg
                    clear hw hq hq' hm0 hin hmg HMG
                    go_wp2_with fail
                    refine HW.out.mono ?_
                    rintro e _ ⟨rfl, rfl⟩
                    go_wp2_with fail
                    refine HR.out.mono ?_
                    rintro e w6 ⟨p, rfl, hp, hN6, hM6⟩
                    have bA : Below w6.heap.size w6 (w6.alloc (.cells #[.int .i64 m.src, .int .i64 m.dst, .slice p.a p.len p.cap] 33)) := (Below.refl _ _).alloc (Nat.le_refl _) _
                    have hB7 : Below w.heap.size w (w6.alloc (.cells #[.int .i64 m.src, .int .i64 m.dst, .slice p.a p.len p.cap] 33)) := (HB.out.trans hM6.bel).trans (bA.mono hN6.base)
                    have hT6 := (hM6.keeps t _ HT.out rfl).trans HT.out
                    have hT7 := (bA.block t (block_lt hT6)).trans hT6
                    have HIS := Lib.hid (is_any (hp.same (fun g cur hg => bA.block g (block_lt hg))) (HRO.out.kept hB7))
                    obtain ⟨_, a50, a51, a52, _, _, _⟩ := tri (show (w6.alloc (.cells #[.int .i64 m.src, .int .i64 m.dst, .slice p.a p.len p.cap] 33)).heap[w6.heap.size]? = some (.cells #[.int .i64 m.src, .int .i64 m.dst, .slice p.a p.len p.cap] 33 (0, 0)) from heap_alloc_new _ _)
                    have p0 := hp.src
                    have p1 := hp.dst
                    have ot := c4 hT7
                    have o70 := ot.c0
                    have o71 := ot.c1
                    have o72 := ot.c2
                    have o73 := ot.c3
                    have HN7 := Lib.hid (hN6.kept bA)
                    have HT7 := Lib.hid hT7
                    have HB7 := Lib.hid hB7
                    clear hN6 hM6 bA hB7 hT7 hT6 hp ot oc2
                    unfold pagg
                    go_wp2_with fail
                    refine HIS.out.mono ?_
                    rintro e w7 ⟨rfl, hB7⟩
                    have FIN : Hid (Net w7 w.heap.size b N way (setQ box' c.dest rest) ∧ w7.heap[t]? = some (cblk c) ∧ Below w.heap.size w w7) := Lib.hid ⟨HN7.out.kept hB7, (hB7.block t (block_lt HT7.out)).trans HT7.out, HB7.out.trans (hB7.mono HB7.out.size)⟩
                    have hm1 := waitsW_of FIN.out.1 c.dest
                    rw [HQ'.out] at hm1
                    have HM1 := Lib.hid hm1
                    clear hB7 HN7 HT7 HIS a50 a51 a52 o70 o71 o72 o73 hm1
                    cases hv : isB m c with
                    | false =>
                      have HMG3 : Hid (M2 = G + cnt c (qAt N (setQ box' c.dest rest) c.dest)) := Lib.hid (by rw [HQ'.out]; have := HMG2.out; rw [hv] at this; simp only [one, Bool.false_eq_true, if_false, Nat.zero_add] at this; exact this)
                      clear hv HMG2
                      go_wp2_with fail
                      go_roundw
                      case rel => exact ⟨M2, _, by go_num, hM2, HMG3.out, FIN.out⟩
                      case measure => rw [HM0.out, HM1.out]; omega
                    | true =>
                      obtain ⟨M3, rfl⟩ : ∃ M3, M2 = M3 + 1 := ⟨M2 - 1, by have := HMG2.out; rw [hv] at this; simp only [one, if_true] at this; omega⟩
                      have HMG3 : Hid (M3 = G + cnt c (qAt N (setQ box' c.dest rest) c.dest)) := Lib.hid (by rw [HQ'.out]; have := HMG2.out; rw [hv] at this; simp only [one, if_true] at this; omega)
                      clear hv HMG2
                      go_wp2_with fail
                      go_roundw
                      case rel => exact ⟨M3, _, by go_num, by omega, HMG3.out, FIN.out⟩
                      case measure => rw [HM0.out, HM1.out]; omega
end Go.Proofs.Ytambdhoeakddhaa
