/- The walk over NetTells. -/
import Derived.Test.YtambdhoeakddhaaRWalkJ
import Derived.Test.YtambdhoeakddhaaRWalkK
import Derived.Test.YtambdhoeakddhaaWalkX
namespace Go.Proofs.Ytambdhoeakddhaa
open Go Go.RowKit Go.Conc
set_option linter.unusedVariables false

/-- What holds of both nets. -/
structure Both (w0 w : World) (b B2 b2 n k T : Nat) (way : List Msg) (box : Nat → List Msg) : Prop where
  net : Net w w0.heap.size b n way box
  ref : RNet w B2 b2 n T way box
  bel : Below w0.heap.size w0 w
  few : T ≤ k
  base : w0.heap.size ≤ B2
theorem Both.kept {w0 w w' : World} {b B2 b2 n k T : Nat} {way : List Msg} {box : Nat → List Msg} (h : Both w0 w b B2 b2 n k T way box) (hb : Below w.heap.size w w') : Both w0 w' b B2 b2 n k T way box :=
  ⟨h.net.kept hb, h.ref.kept hb, h.bel.trans (hb.mono h.bel.size), h.few, h.base⟩
/-- Either net's call, one behind the other. -/
theorem Both.turn {w0 w w1 w2 : World} {b B2 b2 n k T T' : Nat} {way way' : List Msg} {box box' : Nat → List Msg} (h : Both w0 w b B2 b2 n k T way box) (hm : Moved w0.heap.size w w1) (hr : RMoved B2 w1 w2) (hN : Net w1 w0.heap.size b n way' box') (hR : RNet w2 B2 b2 n T' way' box') (hT : T' ≤ k + 1) : Both w0 w2 b B2 b2 n (k + 1) T' way' box' :=
  ⟨hN.rmoved hr, hR, (h.bel.trans hm.bel).trans (hr.bel.mono h.base), hT, h.base⟩

theorem Both.spoil {w0 w : World} {b B2 b2 n k T t m : Nat} {way : List Msg} {box : Nat → List Msg} (h : Both w0 w b B2 b2 n k T way box) (hs : Spoil w t m) (ht : w0.heap.size ≤ t) (j : Nat) (v : Value) : Both w0 (w.setCell ⟨t, j, none⟩ v) b B2 b2 n k T way box :=
  ⟨h.net.unmarked (hs.keeps j v) (by simp), h.ref.unmarked (hs.keeps j v) (by simp), h.bel.setCell ht v, h.few, h.base⟩
/-- Deliver, Drop, Double or Delay, of both nets: the same answer, and the same rows. -/
theorem moves_pair (B B2 b b2 : Nat) {N T : Nat} {way : List Msg} {box : Nat → List Msg} (x : CallV) (hwl : way.length ≤ 256) (hto : ∀ m ∈ way, 0 ≤ m.dst ∧ m.dst < N) (hfew : ∀ y, (qAt N box y).length ≤ 32) (hT : T ≤ 900) (hk : x.kind = 0 ∨ x.kind = 1 ∨ x.kind = 2 ∨ x.kind = 3) :
    ∃ (E : Int) (way' : List Msg) (box' : Nat → List Msg), (∀ u, Net u B b N way box → Calls Try.prog 20 #[.pointer (some ⟨b, 0, none⟩), .agg #[.int .u8 x.kind, .int .i64 x.pos, .int .i64 x.dest, .slice x.a x.len x.cap]] u fun e w' => e = .returned (.int .i64 E) ∧ Net w' B b N way' box' ∧ Moved B u w') ∧
      (∀ u, RNet u B2 b2 N T way box → Calls Try.prog 21 #[.pointer (some ⟨b2, 0, none⟩), .int .u8 x.kind, .int .i64 x.pos] u fun e w' => e = .returned (.int .i64 E) ∧ (∃ T', T' ≤ T + 1 ∧ RNet w' B2 b2 N T' way' box') ∧ RMoved B2 u w') := by
  by_cases hin : 0 ≤ x.pos ∧ x.pos < (way.length : Int)
  · obtain ⟨m1, m, m2, hway, hm1⟩ := split_at way x.pos.toNat (by omega)
    have hpos : x.pos = (m1.length : Nat) := by omega
    subst hway
    refine ⟨mvE x.kind (m1 ++ m :: m2), mvW x.kind m1 m m2, mvQ x.kind N box m, ?_, ?_⟩
    · intro u hu
      exact n_moves_in hu x (by omega) (by omega) hpos
    · intro u hu
      rw [hpos]
      exact r_do_in hu hT hwl (hto m (by simp)) (hfew m.dst) x.kind hk
  · refine ⟨5, way, box, ?_, ?_⟩
    · intro u hu
      exact n_moves_out hu x (by omega) (by omega) (by omega)
    · intro u hu
      exact r_do_out hu hT hwl x.kind x.pos (by omega)

set_option maxRecDepth 8000 in
set_option maxHeartbeats 16000000 in
theorem tells_main (w : World) (a0 : Int) (a1 : Option Addr) (len cap : Nat) (C : Nat → CallV) (hC : CallRow w a1 len C) (hl : len ≤ 9223372036854775807) :
    Calls Try.prog 5 #[.int .i64 a0, .slice a1 len cap] w fun e w' => e = .returned (.bool true) ∧ Below w.heap.size w w' := by
  have HF := Lib.hid (few_any (cap := cap) hC hl 120 (by omega))
  go_enter Try.func5, Try.ntmps5
  go_wp2_with fail
  refine HF.out.mono ?_
  rintro e w1 ⟨⟨r, rfl, hr⟩, rfl⟩
  cases r with
  | false =>
    clear HF hC
    go_wp2_with fail
    refine (works_any w).mono ?_
    rintro e w2 ⟨rfl, hB2⟩
    go_wp2_with fail
    go_ret
    exact ⟨rfl, hB2⟩
  | true =>
    obtain ⟨hl2, hsm⟩ := hr rfl
    clear hr hl HF
    have HC := Lib.hid hC
    have HSM := Lib.hid hsm
    clear hC hsm
    go_wp2_with fail
    refine (n_new a0 w).mono ?_
    rintro e w2 ⟨b, rfl, hN, hB⟩
    have HN := Lib.hid hN
    have HB := Lib.hid hB
    clear hN hB
    go_wp2_with fail
    refine (ref_new a0 w2).mono ?_
    rintro e w3 ⟨b2, rfl, hR, hB3⟩
    have HH : Hid (Both w w3 b w2.heap.size b2 (clampE a0) 0 0 [] (fun _ => [])) := Lib.hid ⟨HN.out.kept hB3, ⟨_, _, _, _, hR, agree_new _⟩, HB.out.trans (hB3.mono HB.out.size), Nat.le_refl _, HB.out.size⟩
    clear hR hB3 HN HB
    obtain ⟨N, hNN⟩ : ∃ N, clampE a0 = N := ⟨_, rfl⟩
    rw [hNN] at HH
    clear hNN
    generalize w2.heap.size = B2 at *
    go_wp2_with fail
    go_loopw [7] (fun i wr => ∃ (k T : Nat) (way : List Msg) (box : Nat → List Msg), k ≤ len ∧ i = .int .i64 k ∧ Both w wr b B2 b2 N k T way box)
      (fun i _ => len - (intOf i).toNat)
    case atStart => exact ⟨0, 0, _, _, by omega, rfl, HH.out⟩
    case round =>
      clear HH
      obtain ⟨k, T, way, box, hk, rfl, hH⟩ := hrel
      have HH := Lib.hid hH
      clear hH
      by_cases hlt : k < len
      · have k0 : (0 : Int) ≤ (k : Int) := by omega
        have k1 : (k : Int) < (len : Int) := by omega
        obtain ⟨bb, off, rfl, hcell⟩ := HC.out.cells (by omega)
        obtain ⟨x0, x1, x2, x3⟩ := hcell k hlt
        have y0 := (HH.out.bel.cell (World.block_lt_of_cell? w _ x0)).trans x0
        have y1 := (HH.out.bel.cell (World.block_lt_of_cell? w _ x1)).trans x1
        have y2 := (HH.out.bel.cell (World.block_lt_of_cell? w _ x2)).trans x2
        have y3 := (HH.out.bel.cell (World.block_lt_of_cell? w _ x3)).trans x3
        have HX : Hid (∃ x, C k = x) := Lib.hid ⟨_, rfl⟩
        obtain ⟨x, hx⟩ := HX.out
        rw [hx] at y0 y1 y2 y3
        have HXR := Lib.hid (hx ▸ HC.out.reads k hlt)
        have HXS := Lib.hid (hx ▸ HSM.out k hlt)
        have HXK := Lib.hid (hx ▸ HC.out.kind k hlt)
        have hpb := hx ▸ HC.out.pos k hlt
        have hdb := hx ▸ HC.out.dest k hlt
        clear x0 x1 x2 x3 hx HX hcell
        have bA : Below wr.heap.size wr (wr.alloc (.cells #[.int .u8 x.kind, .int .i64 x.pos, .int .i64 x.dest, .slice x.a x.len x.cap] 45)) := (Below.refl _ _).alloc (Nat.le_refl _) _
        have HTX := Lib.hid (heap_alloc_new wr (.cells #[.int .u8 x.kind, .int .i64 x.pos, .int .i64 x.dest, .slice x.a x.len x.cap] 45))
        have HA := Lib.hid (HH.out.kept bA)
        have xt := c4 HTX.out
        have xc0 := xt.c0
        have xc1 := xt.c1
        have xc2 := xt.c2
        have xc3 := xt.c3
        have hT9 : T ≤ 900 := by have := HH.out.few; omega
        have hwl := HA.out.net.len
        have HFW := Lib.hid HA.out.net.few
        have HXW := Lib.hid (HXR.out.kept HA.out.bel)
        clear bA HH xt
        go_upto_region 8 with fail
        clear y0 y1 y2 y3
        generalize wr.alloc (.cells #[.int .u8 x.kind, .int .i64 x.pos, .int .i64 x.dest, .slice x.a x.len x.cap] 45) = wA at *
        generalize wr.heap.size = tx at *
        by_cases e0 : x.kind = 0
        · as_aux_lemma =>
            have hkk := e0
            have d0 : (x.kind == 0) = true := by simpa using e0
            have d1 : (x.kind == 1) = false := by simp only [beq_eq_false_iff_ne, ne_eq]; omega
            have d2 : (x.kind == 2) = false := by simp only [beq_eq_false_iff_ne, ne_eq]; omega
            have d3 : (x.kind == 3) = false := by simp only [beq_eq_false_iff_ne, ne_eq]; omega
            have hpair := moves_pair w.heap.size B2 b b2 x hwl HA.out.net.to HA.out.net.few_q hT9 (by omega)
            obtain ⟨E, way', box', hmv, hdo⟩ := hpair
            have HMV := Lib.hid hmv
            have HDO := Lib.hid hdo
            have hTX := HTX.out
            have HNd := Lib.hid (HA.out.net.kept (Below.refl wA.heap.size wA).drew)
            have HRd := Lib.hid (HA.out.ref.kept (Below.refl wA.heap.size wA).drew)
            have HTXd : Hid (wA.drew.heap[tx]? = some (cblk x)) := Lib.hid hTX
            have HBd := Lib.hid (HA.out.bel.trans ((Below.refl wA.heap.size wA).drew.mono HA.out.bel.size))
            have HE : Hid (T ≤ k) := Lib.hid HA.out.few
            have HB2 : Hid (w.heap.size ≤ B2) := Lib.hid HA.out.base
            clear hmv hdo hTX hkk HFW HXW e0
            go_upto_region 21 with fail
            clear d0 d1 d2 d3
            go_region_law (first | (go_simp; go_at_call 20; refine (HMV.out _ (by first | (with_reducible exact HNd.out) | (with_reducible exact HNy.out))).mono ?_; rintro e w5 ⟨rfl, hN5, hM5⟩; have HN5 := Lib.hid hN5; have HM5 := Lib.hid hM5; (first | have HRx := Lib.hid (HRd.out.moved hM5) | have HRx := Lib.hid (HRz.out.moved hM5)); (first | have HT5 : Hid (w5.heap[tx]? = some (cblk x)) := Lib.hid ((hM5.keeps tx _ HTXd.out rfl).trans HTXd.out) | have HT5 : Hid (w5.heap[tx]? = some (cblk x)) := Lib.hid ((hM5.keeps tx _ HT6.out rfl).trans HT6.out)); (first | have HB5 := Lib.hid (HBd.out.trans hM5.bel) | have HB5 := Lib.hid (HB6.out.trans hM5.bel)); have e50 := (c4 HT5.out).c0; have e51 := (c4 HT5.out).c1; have e52 := (c4 HT5.out).c2; have e53 := (c4 HT5.out).c3; clear hN5 hM5) | (go_simp; go_at_call 21; refine (HDO.out _ (by first | (with_reducible exact HRd.out) | (with_reducible exact HRx.out))).mono ?_; rintro e w6 ⟨rfl, ⟨T', hT', hR6⟩, hM6⟩; have HRz := Lib.hid hR6; have HM6 := Lib.hid hM6; (first | have HNy := Lib.hid (HNd.out.rmoved hM6) | have HNy := Lib.hid (HN5.out.rmoved hM6)); (first | have HT6 : Hid (w6.heap[tx]? = some (cblk x)) := Lib.hid ((hM6.keeps tx _ HTXd.out rfl).trans HTXd.out) | have HT6 : Hid (w6.heap[tx]? = some (cblk x)) := Lib.hid ((hM6.keeps tx _ HT5.out rfl).trans HT5.out)); (first | have HB6 := Lib.hid (HBd.out.trans (hM6.bel.mono HB2.out)) | have HB6 := Lib.hid (HB5.out.trans (hM6.bel.mono HB2.out))); have e60 := (c4 HT6.out).c0; have e61 := (c4 HT6.out).c1; have e62 := (c4 HT6.out).c2; have e63 := (c4 HT6.out).c3; clear hR6 hM6))
            all_goals
              first
                | have FIN : Hid (Both w w6 b B2 b2 N (k + 1) T' way' box') := Lib.hid ⟨HNy.out, HRz.out, HB6.out, by have := HE.out; omega, HB2.out⟩
                | have FIN : Hid (Both w w5 b B2 b2 N (k + 1) T' way' box') := Lib.hid ⟨HN5.out, HRx.out, HB5.out, by have := HE.out; omega, HB2.out⟩
              clear e50 e51 e52 e53 e60 e61 e62 e63 xc0 xc1 xc2 xc3
              obtain ⟨av9, rs9, lw9, lb9, hRa, hAg⟩ := FIN.out.ref
              have HSA := Lib.hid (same_any FIN.out.net hRa hAg (by have := FIN.out.few; omega))
              clear hRa hAg
              go_wp2_with fail
              refine HSA.out.mono ?_
              rintro e w9 ⟨rfl, hB9⟩
              have FIN2 := Lib.hid (FIN.out.kept hB9)
              clear hB9 HSA
              go_wp2_with fail
              go_roundw
              case rel => exact ⟨k + 1, _, _, _, by omega, by go_num, FIN2.out⟩
              case measure => simp [intOf]; omega
        · have hsink : True := trivial
          by_cases e1 : x.kind = 1
          · as_aux_lemma =>
              have hkk := e1
              have d0 : (x.kind == 0) = false := by simpa using e0
              have d1 : (x.kind == 1) = true := by simpa using e1
              have d2 : (x.kind == 2) = false := by simp only [beq_eq_false_iff_ne, ne_eq]; omega
              have d3 : (x.kind == 3) = false := by simp only [beq_eq_false_iff_ne, ne_eq]; omega
              have hpair := moves_pair w.heap.size B2 b b2 x hwl HA.out.net.to HA.out.net.few_q hT9 (by omega)
              obtain ⟨E, way', box', hmv, hdo⟩ := hpair
              have HMV := Lib.hid hmv
              have HDO := Lib.hid hdo
              have hTX := HTX.out
              have HNd := Lib.hid (HA.out.net.kept (Below.refl wA.heap.size wA).drew)
              have HRd := Lib.hid (HA.out.ref.kept (Below.refl wA.heap.size wA).drew)
              have HTXd : Hid (wA.drew.heap[tx]? = some (cblk x)) := Lib.hid hTX
              have HBd := Lib.hid (HA.out.bel.trans ((Below.refl wA.heap.size wA).drew.mono HA.out.bel.size))
              have HE : Hid (T ≤ k) := Lib.hid HA.out.few
              have HB2 : Hid (w.heap.size ≤ B2) := Lib.hid HA.out.base
              clear hmv hdo hTX hkk HFW HXW e0 e1
              go_upto_region 21 with fail
              clear d0 d1 d2 d3
              go_region_law (first | (go_simp; go_at_call 20; refine (HMV.out _ (by first | (with_reducible exact HNd.out) | (with_reducible exact HNy.out))).mono ?_; rintro e w5 ⟨rfl, hN5, hM5⟩; have HN5 := Lib.hid hN5; have HM5 := Lib.hid hM5; (first | have HRx := Lib.hid (HRd.out.moved hM5) | have HRx := Lib.hid (HRz.out.moved hM5)); (first | have HT5 : Hid (w5.heap[tx]? = some (cblk x)) := Lib.hid ((hM5.keeps tx _ HTXd.out rfl).trans HTXd.out) | have HT5 : Hid (w5.heap[tx]? = some (cblk x)) := Lib.hid ((hM5.keeps tx _ HT6.out rfl).trans HT6.out)); (first | have HB5 := Lib.hid (HBd.out.trans hM5.bel) | have HB5 := Lib.hid (HB6.out.trans hM5.bel)); have e50 := (c4 HT5.out).c0; have e51 := (c4 HT5.out).c1; have e52 := (c4 HT5.out).c2; have e53 := (c4 HT5.out).c3; clear hN5 hM5) | (go_simp; go_at_call 21; refine (HDO.out _ (by first | (with_reducible exact HRd.out) | (with_reducible exact HRx.out))).mono ?_; rintro e w6 ⟨rfl, ⟨T', hT', hR6⟩, hM6⟩; have HRz := Lib.hid hR6; have HM6 := Lib.hid hM6; (first | have HNy := Lib.hid (HNd.out.rmoved hM6) | have HNy := Lib.hid (HN5.out.rmoved hM6)); (first | have HT6 : Hid (w6.heap[tx]? = some (cblk x)) := Lib.hid ((hM6.keeps tx _ HTXd.out rfl).trans HTXd.out) | have HT6 : Hid (w6.heap[tx]? = some (cblk x)) := Lib.hid ((hM6.keeps tx _ HT5.out rfl).trans HT5.out)); (first | have HB6 := Lib.hid (HBd.out.trans (hM6.bel.mono HB2.out)) | have HB6 := Lib.hid (HB5.out.trans (hM6.bel.mono HB2.out))); have e60 := (c4 HT6.out).c0; have e61 := (c4 HT6.out).c1; have e62 := (c4 HT6.out).c2; have e63 := (c4 HT6.out).c3; clear hR6 hM6))
              all_goals
                first
                  | have FIN : Hid (Both w w6 b B2 b2 N (k + 1) T' way' box') := Lib.hid ⟨HNy.out, HRz.out, HB6.out, by have := HE.out; omega, HB2.out⟩
                  | have FIN : Hid (Both w w5 b B2 b2 N (k + 1) T' way' box') := Lib.hid ⟨HN5.out, HRx.out, HB5.out, by have := HE.out; omega, HB2.out⟩
                clear e50 e51 e52 e53 e60 e61 e62 e63 xc0 xc1 xc2 xc3
                obtain ⟨av9, rs9, lw9, lb9, hRa, hAg⟩ := FIN.out.ref
                have HSA := Lib.hid (same_any FIN.out.net hRa hAg (by have := FIN.out.few; omega))
                clear hRa hAg
                go_wp2_with fail
                refine HSA.out.mono ?_
                rintro e w9 ⟨rfl, hB9⟩
                have FIN2 := Lib.hid (FIN.out.kept hB9)
                clear hB9 HSA
                go_wp2_with fail
                go_roundw
                case rel => exact ⟨k + 1, _, _, _, by omega, by go_num, FIN2.out⟩
                case measure => simp [intOf]; omega
          · have hsink : True := trivial
            by_cases e2 : x.kind = 2
            · as_aux_lemma =>
                have hkk := e2
                have d0 : (x.kind == 0) = false := by simpa using e0
                have d1 : (x.kind == 1) = false := by simpa using e1
                have d2 : (x.kind == 2) = true := by simpa using e2
                have d3 : (x.kind == 3) = false := by simp only [beq_eq_false_iff_ne, ne_eq]; omega
                have hpair := moves_pair w.heap.size B2 b b2 x hwl HA.out.net.to HA.out.net.few_q hT9 (by omega)
                obtain ⟨E, way', box', hmv, hdo⟩ := hpair
                have HMV := Lib.hid hmv
                have HDO := Lib.hid hdo
                have hTX := HTX.out
                have HNd := Lib.hid (HA.out.net.kept (Below.refl wA.heap.size wA).drew)
                have HRd := Lib.hid (HA.out.ref.kept (Below.refl wA.heap.size wA).drew)
                have HTXd : Hid (wA.drew.heap[tx]? = some (cblk x)) := Lib.hid hTX
                have HBd := Lib.hid (HA.out.bel.trans ((Below.refl wA.heap.size wA).drew.mono HA.out.bel.size))
                have HE : Hid (T ≤ k) := Lib.hid HA.out.few
                have HB2 : Hid (w.heap.size ≤ B2) := Lib.hid HA.out.base
                clear hmv hdo hTX hkk HFW HXW e0 e1 e2
                go_upto_region 21 with fail
                clear d0 d1 d2 d3
                go_region_law (first | (go_simp; go_at_call 20; refine (HMV.out _ (by first | (with_reducible exact HNd.out) | (with_reducible exact HNy.out))).mono ?_; rintro e w5 ⟨rfl, hN5, hM5⟩; have HN5 := Lib.hid hN5; have HM5 := Lib.hid hM5; (first | have HRx := Lib.hid (HRd.out.moved hM5) | have HRx := Lib.hid (HRz.out.moved hM5)); (first | have HT5 : Hid (w5.heap[tx]? = some (cblk x)) := Lib.hid ((hM5.keeps tx _ HTXd.out rfl).trans HTXd.out) | have HT5 : Hid (w5.heap[tx]? = some (cblk x)) := Lib.hid ((hM5.keeps tx _ HT6.out rfl).trans HT6.out)); (first | have HB5 := Lib.hid (HBd.out.trans hM5.bel) | have HB5 := Lib.hid (HB6.out.trans hM5.bel)); have e50 := (c4 HT5.out).c0; have e51 := (c4 HT5.out).c1; have e52 := (c4 HT5.out).c2; have e53 := (c4 HT5.out).c3; clear hN5 hM5) | (go_simp; go_at_call 21; refine (HDO.out _ (by first | (with_reducible exact HRd.out) | (with_reducible exact HRx.out))).mono ?_; rintro e w6 ⟨rfl, ⟨T', hT', hR6⟩, hM6⟩; have HRz := Lib.hid hR6; have HM6 := Lib.hid hM6; (first | have HNy := Lib.hid (HNd.out.rmoved hM6) | have HNy := Lib.hid (HN5.out.rmoved hM6)); (first | have HT6 : Hid (w6.heap[tx]? = some (cblk x)) := Lib.hid ((hM6.keeps tx _ HTXd.out rfl).trans HTXd.out) | have HT6 : Hid (w6.heap[tx]? = some (cblk x)) := Lib.hid ((hM6.keeps tx _ HT5.out rfl).trans HT5.out)); (first | have HB6 := Lib.hid (HBd.out.trans (hM6.bel.mono HB2.out)) | have HB6 := Lib.hid (HB5.out.trans (hM6.bel.mono HB2.out))); have e60 := (c4 HT6.out).c0; have e61 := (c4 HT6.out).c1; have e62 := (c4 HT6.out).c2; have e63 := (c4 HT6.out).c3; clear hR6 hM6))
                all_goals
                  first
                    | have FIN : Hid (Both w w6 b B2 b2 N (k + 1) T' way' box') := Lib.hid ⟨HNy.out, HRz.out, HB6.out, by have := HE.out; omega, HB2.out⟩
                    | have FIN : Hid (Both w w5 b B2 b2 N (k + 1) T' way' box') := Lib.hid ⟨HN5.out, HRx.out, HB5.out, by have := HE.out; omega, HB2.out⟩
                  clear e50 e51 e52 e53 e60 e61 e62 e63 xc0 xc1 xc2 xc3
                  obtain ⟨av9, rs9, lw9, lb9, hRa, hAg⟩ := FIN.out.ref
                  have HSA := Lib.hid (same_any FIN.out.net hRa hAg (by have := FIN.out.few; omega))
                  clear hRa hAg
                  go_wp2_with fail
                  refine HSA.out.mono ?_
                  rintro e w9 ⟨rfl, hB9⟩
                  have FIN2 := Lib.hid (FIN.out.kept hB9)
                  clear hB9 HSA
                  go_wp2_with fail
                  go_roundw
                  case rel => exact ⟨k + 1, _, _, _, by omega, by go_num, FIN2.out⟩
                  case measure => simp [intOf]; omega
            · have hsink : True := trivial
              by_cases e3 : x.kind = 3
              · as_aux_lemma =>
                  have hkk := e3
                  have d0 : (x.kind == 0) = false := by simpa using e0
                  have d1 : (x.kind == 1) = false := by simpa using e1
                  have d2 : (x.kind == 2) = false := by simpa using e2
                  have d3 : (x.kind == 3) = true := by simpa using e3
                  have hpair := moves_pair w.heap.size B2 b b2 x hwl HA.out.net.to HA.out.net.few_q hT9 (by omega)
                  obtain ⟨E, way', box', hmv, hdo⟩ := hpair
                  have HMV := Lib.hid hmv
                  have HDO := Lib.hid hdo
                  have hTX := HTX.out
                  have HNd := Lib.hid (HA.out.net.kept (Below.refl wA.heap.size wA).drew)
                  have HRd := Lib.hid (HA.out.ref.kept (Below.refl wA.heap.size wA).drew)
                  have HTXd : Hid (wA.drew.heap[tx]? = some (cblk x)) := Lib.hid hTX
                  have HBd := Lib.hid (HA.out.bel.trans ((Below.refl wA.heap.size wA).drew.mono HA.out.bel.size))
                  have HE : Hid (T ≤ k) := Lib.hid HA.out.few
                  have HB2 : Hid (w.heap.size ≤ B2) := Lib.hid HA.out.base
                  clear hmv hdo hTX hkk HFW HXW e0 e1 e2 e3
                  go_upto_region 21 with fail
                  clear d0 d1 d2 d3
                  go_region_law (first | (go_simp; go_at_call 20; refine (HMV.out _ (by first | (with_reducible exact HNd.out) | (with_reducible exact HNy.out))).mono ?_; rintro e w5 ⟨rfl, hN5, hM5⟩; have HN5 := Lib.hid hN5; have HM5 := Lib.hid hM5; (first | have HRx := Lib.hid (HRd.out.moved hM5) | have HRx := Lib.hid (HRz.out.moved hM5)); (first | have HT5 : Hid (w5.heap[tx]? = some (cblk x)) := Lib.hid ((hM5.keeps tx _ HTXd.out rfl).trans HTXd.out) | have HT5 : Hid (w5.heap[tx]? = some (cblk x)) := Lib.hid ((hM5.keeps tx _ HT6.out rfl).trans HT6.out)); (first | have HB5 := Lib.hid (HBd.out.trans hM5.bel) | have HB5 := Lib.hid (HB6.out.trans hM5.bel)); have e50 := (c4 HT5.out).c0; have e51 := (c4 HT5.out).c1; have e52 := (c4 HT5.out).c2; have e53 := (c4 HT5.out).c3; clear hN5 hM5) | (go_simp; go_at_call 21; refine (HDO.out _ (by first | (with_reducible exact HRd.out) | (with_reducible exact HRx.out))).mono ?_; rintro e w6 ⟨rfl, ⟨T', hT', hR6⟩, hM6⟩; have HRz := Lib.hid hR6; have HM6 := Lib.hid hM6; (first | have HNy := Lib.hid (HNd.out.rmoved hM6) | have HNy := Lib.hid (HN5.out.rmoved hM6)); (first | have HT6 : Hid (w6.heap[tx]? = some (cblk x)) := Lib.hid ((hM6.keeps tx _ HTXd.out rfl).trans HTXd.out) | have HT6 : Hid (w6.heap[tx]? = some (cblk x)) := Lib.hid ((hM6.keeps tx _ HT5.out rfl).trans HT5.out)); (first | have HB6 := Lib.hid (HBd.out.trans (hM6.bel.mono HB2.out)) | have HB6 := Lib.hid (HB5.out.trans (hM6.bel.mono HB2.out))); have e60 := (c4 HT6.out).c0; have e61 := (c4 HT6.out).c1; have e62 := (c4 HT6.out).c2; have e63 := (c4 HT6.out).c3; clear hR6 hM6))
                  all_goals
                    first
                      | have FIN : Hid (Both w w6 b B2 b2 N (k + 1) T' way' box') := Lib.hid ⟨HNy.out, HRz.out, HB6.out, by have := HE.out; omega, HB2.out⟩
                      | have FIN : Hid (Both w w5 b B2 b2 N (k + 1) T' way' box') := Lib.hid ⟨HN5.out, HRx.out, HB5.out, by have := HE.out; omega, HB2.out⟩
                    clear e50 e51 e52 e53 e60 e61 e62 e63 xc0 xc1 xc2 xc3
                    obtain ⟨av9, rs9, lw9, lb9, hRa, hAg⟩ := FIN.out.ref
                    have HSA := Lib.hid (same_any FIN.out.net hRa hAg (by have := FIN.out.few; omega))
                    clear hRa hAg
                    go_wp2_with fail
                    refine HSA.out.mono ?_
                    rintro e w9 ⟨rfl, hB9⟩
                    have FIN2 := Lib.hid (FIN.out.kept hB9)
                    clear hB9 HSA
                    go_wp2_with fail
                    go_roundw
                    case rel => exact ⟨k + 1, _, _, _, by omega, by go_num, FIN2.out⟩
                    case measure => simp [intOf]; omega
              · have hsink : True := trivial
                by_cases e4 : x.kind = 4
                · as_aux_lemma =>
                    have d0 : (x.kind == 0) = false := by simpa using e0
                    have d1 : (x.kind == 1) = false := by simpa using e1
                    have d2 : (x.kind == 2) = false := by simpa using e2
                    have d3 : (x.kind == 3) = false := by simpa using e3
                    have d4 : (x.kind == 4) = true := by simpa using e4
                    clear e0 e1 e2 e3 e4
                    cases hq : qAt N box x.dest with
                    | nil =>
                      have HR := Lib.hid (n_receive_none HA.out.net x.dest hq)
                      unfold nobody at HR
                      go_wp2_with fail
                      refine HR.out.mono ?_
                      rintro e w5 ⟨rfl, hN5, hB5⟩
                      have bA : Below w5.heap.size w5 (w5.alloc (.cells #[.int .i64 0, .int .i64 0, .slice none 0 0] 33)) := (Below.refl _ _).alloc (Nat.le_refl _) _
                      have BB := hB5.trans (bA.mono hB5.size)
                      have hX5 := (BB.block tx (block_lt HTX.out)).trans HTX.out
                      have HP5 := Lib.hid (show (w5.alloc (.cells #[.int .i64 0, .int .i64 0, .slice none 0 0] 33)).heap[w5.heap.size]? = some (.cells #[.int .i64 0, .int .i64 0, .slice none 0 0] 33 (0, 0)) from heap_alloc_new _ _)
                      have y2 := (c4 hX5).c2
                      have HA5 := Lib.hid (HA.out.kept BB)
                      clear hN5 hB5 bA BB hX5 xc0 xc1 xc2 xc3
                      go_wp2_with fail
                      refine (r_receive_none HA5.out.ref hT9 x.dest hq).mono ?_
                      rintro e w6 ⟨rfl, hR6, hM6⟩
                      have bA : Below w6.heap.size w6 (w6.alloc (.cells #[.int .i64 0, .int .i64 0, .string ⟨#[]⟩, .bool false, .int .i64 0] 49)) := (Below.refl _ _).alloc (Nat.le_refl _) _
                      have hP6 := (hM6.keeps _ _ HP5.out rfl).trans HP5.out
                      have hP7 := (bA.block _ (block_lt hP6)).trans hP6
                      obtain ⟨_, p0, p1, p2, _, _, _⟩ := tri hP7
                      obtain ⟨_, q0, q1, q2, _, _, _, _, _, _, _⟩ := five (show (w6.alloc (.cells #[.int .i64 0, .int .i64 0, .string ⟨#[]⟩, .bool false, .int .i64 0] 49)).heap[w6.heap.size]? = some (.cells #[.int .i64 0, .int .i64 0, .string ⟨#[]⟩, .bool false, .int .i64 0] 49 (0, 0)) from heap_alloc_new _ _)
                      have hcv := conv_zero (w6.alloc (.cells #[.int .i64 0, .int .i64 0, .string ⟨#[]⟩, .bool false, .int .i64 0] 49)) none 0
                      have hst : strOfNums [] = ⟨#[]⟩ := rfl
                      rw [hst] at hcv
                      have FIN := Lib.hid ((HA5.out.turn (Moved.refl _ _) hM6 HA5.out.net hR6 (by have := HA5.out.few; omega)).kept bA)
                      clear hR6 hM6 bA hP6 hP7 y2 hst hq
                      unfold zero49
                      go_wp2_with fail
                      clear p0 p1 p2 q0 q1 q2 hcv
                      obtain ⟨av9, rs9, lw9, lb9, hRa, hAg⟩ := FIN.out.ref
                      have HSA := Lib.hid (same_any FIN.out.net hRa hAg (by have := FIN.out.few; omega))
                      clear hRa hAg
                      go_wp2_with fail
                      refine HSA.out.mono ?_
                      rintro e w9 ⟨rfl, hB9⟩
                      have FIN2 := Lib.hid (FIN.out.kept hB9)
                      clear hB9 HSA
                      go_wp2_with fail
                      go_roundw
                      case rel => exact ⟨k + 1, _, _, _, by omega, by go_num, FIN2.out⟩
                      case measure => simp [intOf]; omega
                    | cons m rest =>
                      have HR := Lib.hid (n_receive_one HA.out.net x.dest m rest hq)
                      have HQ := Lib.hid hq
                      clear hq
                      go_wp2_with fail
                      refine HR.out.mono ?_
                      rintro e w5 ⟨p, rfl, hp, hN5, hM5⟩
                      have bA : Below w5.heap.size w5 (w5.alloc (.cells #[.int .i64 m.src, .int .i64 m.dst, .slice p.a p.len p.cap] 33)) := (Below.refl _ _).alloc (Nat.le_refl _) _
                      have hX5 := (hM5.keeps tx _ HTX.out rfl).trans HTX.out
                      have hX6 := (bA.block tx (block_lt hX5)).trans hX5
                      have HP5 := Lib.hid (show (w5.alloc (.cells #[.int .i64 m.src, .int .i64 m.dst, .slice p.a p.len p.cap] 33)).heap[w5.heap.size]? = some (.cells #[.int .i64 m.src, .int .i64 m.dst, .slice p.a p.len p.cap] 33 (0, 0)) from heap_alloc_new _ _)
                      have s0 := hp.src
                      have s1 := hp.dst
                      have y2 := (c4 hX6).c2
                      have HR6 := Lib.hid ((HA.out.ref.moved hM5).kept bA)
                      have HN6 := Lib.hid (hN5.kept bA)
                      have HM6 := Lib.hid (hM5.trans (Moved.of_below bA hN5.base))
                      have HPO := Lib.hid (hp.own.same (fun g cur hg => bA.block g (block_lt hg)))
                      clear hN5 hM5 bA hX5 hX6 hp xc0 xc1 xc2 xc3
                      unfold pagg
                      go_wp2_with fail
                      refine (r_receive_one HR6.out hT9 HFW.out x.dest HQ.out).mono ?_
                      rintro e w6 ⟨⟨r, hkey, rfl⟩, hR6, hM6⟩
                      obtain ⟨src, dst, bs, wt, tm⟩ := r
                      obtain ⟨rfl, rfl, rfl⟩ := ref_at_key hkey
                      have bA : Below w6.heap.size w6 (w6.alloc (.cells #[.int .i64 m.src, .int .i64 m.dst, .string (strOfNums m.xs), .bool wt, .int .i64 tm] 49)) := (Below.refl _ _).alloc (Nat.le_refl _) _
                      have hP6 := (hM6.keeps _ _ HP5.out rfl).trans HP5.out
                      have hP7 := (bA.block _ (block_lt hP6)).trans hP6
                      obtain ⟨_, p0, p1, p2, _, _, _⟩ := tri hP7
                      obtain ⟨_, q0, q1, q2, _, _, _, _, _, _, _⟩ := five (show (w6.alloc (.cells #[.int .i64 m.src, .int .i64 m.dst, .string (strOfNums m.xs), .bool wt, .int .i64 tm] 49)).heap[w6.heap.size]? = some (.cells #[.int .i64 m.src, .int .i64 m.dst, .string (strOfNums m.xs), .bool wt, .int .i64 tm] 49 (0, 0)) from heap_alloc_new _ _)
                      have hcv := conv_own (cap := p.cap) ((HPO.out.same (fun g cur hg => hM6.keeps g _ hg rfl)).same (fun g cur hg => bA.block g (block_lt hg)))
                      have FIN := Lib.hid ((HA.out.turn HM6.out hM6 HN6.out hR6 (by have := HA.out.few; omega)).kept bA)
                      clear hR6 hM6 bA hP6 hP7 y2 hkey
                      generalize strOfNums m.xs = str at *
                      unfold ragg
                      go_wp2_with fail
                      clear p0 p1 p2 q0 q1 q2 hcv
                      obtain ⟨av9, rs9, lw9, lb9, hRa, hAg⟩ := FIN.out.ref
                      have HSA := Lib.hid (same_any FIN.out.net hRa hAg (by have := FIN.out.few; omega))
                      clear hRa hAg
                      go_wp2_with fail
                      refine HSA.out.mono ?_
                      rintro e w9 ⟨rfl, hB9⟩
                      have FIN2 := Lib.hid (FIN.out.kept hB9)
                      clear hB9 HSA
                      go_wp2_with fail
                      go_roundw
                      case rel => exact ⟨k + 1, _, _, _, by omega, by go_num, FIN2.out⟩
                      case measure => simp [intOf]; omega
                · have hsink : True := trivial
                  by_cases e5 : x.kind = 5
                  · as_aux_lemma =>
                      have d0 : (x.kind == 0) = false := by simpa using e0
                      have d1 : (x.kind == 1) = false := by simpa using e1
                      have d2 : (x.kind == 2) = false := by simpa using e2
                      have d3 : (x.kind == 3) = false := by simpa using e3
                      have d4 : (x.kind == 4) = false := by simpa using e4
                      have d5 : (x.kind == 5) = true := by simpa using e5
                      clear e0 e1 e2 e3 e4 e5
                      go_wp2_with fail
                      refine (n_clear HA.out.net x.dest).mono ?_
                      rintro e w5 ⟨rfl, hN5, hM5⟩
                      have hX5 := (hM5.keeps tx _ HTX.out rfl).trans HTX.out
                      have y2 := (c4 hX5).c2
                      have HR5 := Lib.hid (HA.out.ref.moved hM5)
                      have HN5 := Lib.hid hN5
                      have HM5 := Lib.hid hM5
                      clear hN5 hM5 hX5 xc0 xc1 xc2 xc3
                      go_wp2_with fail
                      refine (r_clear HR5.out hT9 HFW.out x.dest).mono ?_
                      rintro e w6 ⟨rfl, hR6, hM6⟩
                      have FIN := Lib.hid (HA.out.turn HM5.out hM6 HN5.out hR6 (by have := HA.out.few; omega))
                      clear hR6 hM6 y2
                      obtain ⟨av9, rs9, lw9, lb9, hRa, hAg⟩ := FIN.out.ref
                      have HSA := Lib.hid (same_any FIN.out.net hRa hAg (by have := FIN.out.few; omega))
                      clear hRa hAg
                      go_wp2_with fail
                      refine HSA.out.mono ?_
                      rintro e w9 ⟨rfl, hB9⟩
                      have FIN2 := Lib.hid (FIN.out.kept hB9)
                      clear hB9 HSA
                      go_wp2_with fail
                      go_roundw
                      case rel => exact ⟨k + 1, _, _, _, by omega, by go_num, FIN2.out⟩
                      case measure => simp [intOf]; omega
                  · have hsink : True := trivial
                    as_aux_lemma =>
                      have d0 : (x.kind == 0) = false := by simpa using e0
                      have d1 : (x.kind == 1) = false := by simpa using e1
                      have d2 : (x.kind == 2) = false := by simpa using e2
                      have d3 : (x.kind == 3) = false := by simpa using e3
                      have d4 : (x.kind == 4) = false := by simpa using e4
                      have d5 : (x.kind == 5) = false := by simpa using e5
                      clear e0 e1 e2 e3 e4 e5
                      obtain ⟨S, hS⟩ : ∃ S, strOfNums x.xs = S := ⟨_, rfl⟩
                      have hSz : S.size = x.len := by rw [← hS, strOfNums_size]; exact HXR.out.1
                      have hSl : S.size ≤ 3000 := by rw [hSz]; exact HXS.out
                      have cx := conv_read (cap := x.cap) HXW.out
                      rw [hS] at cx
                      have cy := Lib.run_convert_string_bytes (P := Try.prog) wA 9 31 5 S Try.underlying9 Try.underlying31 Try.underlying5
                      have bY := below_bytes wA 5 S
                      have HY := Lib.hid (HA.out.kept bY)
                      have HRW := Lib.hid (bread_bytes wA S)
                      have HSP := Lib.hid (spoil_bytes wA S)
                      have hX5 := (bY.block tx (block_lt HTX.out)).trans HTX.out
                      have HTY := Lib.hid hX5
                      have HXY := Lib.hid (HXW.out.kept bY)
                      have HSS := Lib.hid hS
                      have HTB := Lib.hid HA.out.bel.size
                      have yt := c4 hX5
                      have y1 := yt.c1
                      have y2 := yt.c2
                      have y3 := yt.c3
                      clear bY hX5 yt hS hSz
                      generalize grownCap wA S.size 0 5 = gc at *
                      generalize wA.heap.size = tb at cy HRW HSP HTB
                      generalize Lib.bytesWorld wA 5 S = wB at *
                      go_wp2_with fail
                      refine (n_send HY.out.net x.pos x.dest (some ⟨tb, 0, none⟩) S.size gc (numsOf S) (HRW.out.bat (by omega))).mono ?_
                      rintro e w5 ⟨rfl, hN5, hM5⟩
                      have hX6 := (hM5.keeps tx _ HTY.out rfl).trans HTY.out
                      have yt := c4 hX6
                      have z1 := yt.c1
                      have z2 := yt.c2
                      have z3 := yt.c3
                      have HN5 := Lib.hid hN5
                      have HM5 := Lib.hid hM5
                      have HR5 := Lib.hid (HY.out.ref.moved hM5)
                      have HSP5 := Lib.hid (HSP.out.keptm hM5)
                      have cz := conv_read (cap := gc) (HRW.out.at_ (HSP.out.blkm hM5))
                      rw [strOf_nums] at cz
                      have HBB := Lib.hid (HY.out.bel.trans hM5.bel)
                      have cw := conv_read (cap := x.cap) (HXR.out.kept HBB.out)
                      rw [HSS.out] at cw
                      have HRD : Hid (∀ w', Below B2 w5 w' → BRead w' x.a x.len x.xs) := Lib.hid fun w' hb => HXR.out.kept (HBB.out.trans (hb.mono HY.out.base))
                      have HHT : Hid (T ≤ k) := Lib.hid HA.out.few
                      have HKEY := Lib.hid (sendW_key (n := N) way x.pos x.dest x.xs (numsOf S) (by rw [HSS.out, strOf_nums]))
                      clear hX6 yt hN5 hM5 xc0 xc1 xc2 xc3 cx cy y1 y2 y3 HXW
                      go_wp2_with fail
                      refine (r_send HR5.out hT9 hwl x.pos x.dest x.a x.len x.cap x.xs HRD.out).mono ?_
                      rintro e w6 ⟨rfl, ⟨T', hT', hR6⟩, hM6⟩
                      have HF6 := Lib.hid (HY.out.turn HM5.out hM6 HN5.out (hR6.rekey HKEY.out) (by have := HHT.out; omega))
                      have HSP6 := Lib.hid (HSP5.out.keptr hM6)
                      clear hR6 hM6 z1 z2 z3 cz cw hT'
                      generalize sendW N way x.pos x.dest (numsOf S) = W' at *
                      generalize sendE N way.length x.pos x.dest = E at *
                      generalize S.size = SZ at *
                      go_wp2_with fail
                      go_loopw [15] (fun i wr2 => ∃ (q : Nat), q ≤ SZ ∧ i = .int .i64 q ∧ Both w wr2 b B2 b2 N (k + 1) T' W' box ∧ Spoil wr2 tb SZ)
                        (fun i _ => SZ - (intOf i).toNat)
                      case atStart => exact ⟨0, by omega, rfl, HF6.out, HSP6.out⟩
                      case round =>
                        clear HF6 HSP6
                        obtain ⟨q, hq, rfl, hF, hSp⟩ := hrel
                        have HF7 := Lib.hid hF
                        have HSP7 := Lib.hid hSp
                        clear hF hSp
                        by_cases hlq : q < SZ
                        · have q0 : (0 : Int) ≤ (q : Int) := by omega
                          have q1 : (q : Int) < (SZ : Int) := by omega
                          obtain ⟨y, s1, s2, s3, s4⟩ := HSP7.out.cell hlq
                          go_wp2_with fail
                          go_roundw
                          case rel => exact ⟨q + 1, by omega, by go_num, HF7.out.spoil HSP7.out HTB.out _ _, HSP7.out.set _ _ (by omega) (by omega)⟩
                          case measure => simp [intOf]; omega
                        · obtain rfl : q = SZ := by omega
                          have FIN := HF7
                          obtain ⟨av9, rs9, lw9, lb9, hRa, hAg⟩ := FIN.out.ref
                          have HSA := Lib.hid (same_any FIN.out.net hRa hAg (by have := FIN.out.few; omega))
                          clear hRa hAg
                          go_wp2_with fail
                          refine HSA.out.mono ?_
                          rintro e w9 ⟨rfl, hB9⟩
                          have FIN2 := Lib.hid (FIN.out.kept hB9)
                          clear hB9 HSA
                          go_wp2_with fail
                          go_roundw
                          case rel => exact ⟨k + 1, _, _, _, by omega, by go_num, FIN2.out⟩
                          case measure => simp [intOf]; omega
      · obtain rfl : k = len := by omega
        go_wp2_with fail
        refine (works_any wr).mono ?_
        rintro e w2 ⟨rfl, hB2⟩
        go_wp2_with fail
        go_ret
        exact ⟨rfl, HH.out.bel.trans (hB2.mono HH.out.bel.size)⟩
end Go.Proofs.Ytambdhoeakddhaa

