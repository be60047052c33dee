/- The walk over the document's Clear; Receive as of rows. -/
import Derived.Test.YtambdhoeakddhaaRWalkE
namespace Go.Proofs.Ytambdhoeakddhaa
open Go Go.RowKit Go.Conc
set_option linter.unusedVariables false

/-- How many messages there are, read from the world: a measure. -/
def lenW (w : World) (b : Nat) : Nat := match w.cell? ⟨b, 1, none⟩ with
  | some (.slice _ m _) => m
  | _ => 0
theorem setQ_same (box : Nat → List Msg) (x : Nat) : setQ box (x : Int) (box x) = box := by
  funext i; unfold setQ; split
  · rename_i e; rw [show x = i by omega]
  · rfl
theorem setQ_at (box : Nat → List Msg) (x : Nat) (l : List Msg) : setQ box (x : Int) l x = l := by unfold setQ; rw [if_pos rfl]
section
variable {w w' : World} {B b n : Nat} {av : Value} {rs : List RM} {T : Nat} {way : List Msg} {box : Nat → List Msg} {lw : List Nat} {lb : Nat → List Nat}
theorem lenW_of (h : RefAt w B b n av rs T) : lenW w b = rs.length := by
  obtain ⟨a, c, rfl⟩ := h.slice
  unfold lenW; rw [h.c1]

set_option maxRecDepth 8000 in
set_option maxHeartbeats 4000000 in
theorem ref_clear_in (h : RefAt w B b n av rs T) (ha : Agree n rs T way box lw lb) (hT : T ≤ 900) (x : Nat) (hx : x < n) (hfew : (box x).length ≤ 32) :
    Calls Try.prog 23 #[.pointer (some ⟨b, 0, none⟩), .int .i64 x] w fun e w' => e = .returned (.tuple #[]) ∧ RNet w' B b n T way (setQ box x []) ∧ RMoved B w w' := by
  have H := Lib.hid (And.intro h ha)
  clear h ha
  go_enter Try.func23, Try.ntmps23
  go_wp2
  go_loopw [] (fun wr => ∃ av rs lw lb l, RefAt wr B b n av rs T ∧ Agree n rs T way (setQ box x l) lw lb ∧ l.length ≤ 32 ∧ RMoved B w wr) (fun wr => lenW wr b)
  case atStart => exact ⟨av, rs, lw, lb, box x, H.out.1, by rw [setQ_same]; exact H.out.2, hfew, RMoved.refl _ _⟩
  case round =>
    clear H hfew
    obtain ⟨av, rs, lw, lb, l, hR, hA, hl, hM⟩ := hrel
    have HI := Lib.hid (ref_is_in hR (x : Int) (by omega) (by omega))
    have HM := Lib.hid hM
    have hla : lbAt n lb (x : Int) = lb x := by unfold lbAt; rw [if_pos (by omega)]; simp
    have hll := hA.lens.2 x hx
    rw [setQ_at] at hll
    cases l with
    | nil =>
      have hr := row_box hR hA hT (x : Int) (by omega)
      rw [hla, hll] at hr
      have HR := Lib.hid hr
      have HN := Lib.hid (show RNet wr B b n T way (setQ box x []) from ⟨av, rs, lw, lb, hR, hA⟩)
      clear hR hA hM hr hla hll
      go_wp2_with fail
      refine HI.out.mono ?_
      rintro e _ ⟨rfl, rfl⟩
      go_wp2_with fail
      refine HR.out.mono ?_
      rintro e w1 ⟨v, rfl, hown, hB⟩
      obtain ⟨va, vc, rfl⟩ := owns_slice3 hown
      have FIN := Lib.hid (And.intro (HN.out.kept hB) (HM.out.trans (RMoved.of_below hB HN.out.base)))
      clear hown hB
      go_wp2_with fail
      go_end0
      exact ⟨rfl, FIN.out⟩
    | cons m rest =>
      obtain ⟨k, l2, r, hlb, hl2, hr, hkl, hwt, hrd, hkey⟩ := hA.at_box hx (setQ_at box x (m :: rest))
      have hra : ∀ w', Below wr.heap.size wr w' → Calls Try.prog 37 #[.pointer (some ⟨b, 0, none⟩), .int .i64 x] w' fun E w'' => ∃ v, E = .returned v ∧ w''.ownsRow w'.heap.size 3 1 v (l2.length + 1) (ints (k :: l2)) ∧ Below w'.heap.size w' w'' := fun w' hb => by
        have := row_box (hR.kept hb) hA hT (x : Int) (by omega)
        rw [hla, hlb] at this; exact this
      have HRA := Lib.hid hra
      have hls := fun w' (hb : Below wr.heap.size wr w') => ref_lose (hR.kept hb) (by have := hA.few; omega) k hkl
      have HL := Lib.hid hls
      have hfin := hA.take (m := m) hx hlb hl2 hr hwt hrd
      rw [setQ_setQ] at hfin
      have HFIN := Lib.hid hfin
      have HB := Lib.hid hR.base
      have hm0 := lenW_of hR
      have HM0 := Lib.hid hm0
      have HKL := Lib.hid hkl
      have hlq : l2.length ≤ 31 := by rw [hlb, List.length_cons] at hll; simp at hl hll; omega
      have hrl : rest.length ≤ 32 := by simp at hl; omega
      have hk9 : k ≤ 900 := by have := hA.few; omega
      clear hR hA hM hra hls hfin hm0 hla hll hl2 hr hwt hrd hkey hlb hkl hl
      go_wp2_with fail
      refine HI.out.mono ?_
      rintro e _ ⟨rfl, rfl⟩
      go_wp2_with fail
      refine (HRA.out wr (Below.refl _ _)).mono ?_
      rintro e w1 ⟨v, rfl, hown, hB1⟩
      obtain ⟨va, vc, rfl⟩ := owns_slice3 hown
      clear hown
      go_wp2_with fail
      refine (HRA.out w1 hB1).mono ?_
      rintro e w2 ⟨v, rfl, hown, hB2⟩
      obtain ⟨g, cp, rfl, hrow, _, _⟩ := lrow_of (l := k :: l2) hown (by simp)
      have ck := hrow.cell (j := 0) (x := k) (by simp)
      have hB : Below wr.heap.size wr w2 := hB1.trans (hB2.mono hB1.size)
      have HB2 := Lib.hid hB
      clear hown hrow hB1 hB2 hB
      go_wp2_with fail
      refine (HL.out w2 HB2.out).mono ?_
      rintro e w3 ⟨rfl, ⟨av', hR3, _⟩, hM3, _⟩
      have hm1 := lenW_of hR3
      rw [List.length_eraseIdx, if_pos HKL.out] at hm1
      have HM1 := Lib.hid hm1
      have FIN := Lib.hid (And.intro hR3 (And.intro HFIN.out (And.intro hrl (HM.out.trans ((RMoved.of_below HB2.out HB.out).trans hM3)))))
      clear hR3 hM3 hm1 ck
      go_wp2_with fail
      go_roundw
      case rel => exact ⟨_, _, _, _, _, FIN.out⟩
      case measure => rw [HM0.out, HM1.out]; have := HKL.out; omega
theorem ref_clear_out (h : RefAt w B b n av rs T) (x : Int) (hx : x < 0 ∨ (n : Int) ≤ x) :
    Calls Try.prog 23 #[.pointer (some ⟨b, 0, none⟩), .int .i64 x] w fun e w' => e = .returned (.tuple #[]) ∧ w = w' := by
  have HI := Lib.hid (ref_is_out h x hx)
  clear h hx
  go_enter Try.func23, Try.ntmps23
  go_wp2
  go_loopw [] (fun wr => wr = w) (fun wr => 0)
  case atStart => rfl
  case round =>
    subst hrel
    go_wp2_with fail
    refine HI.out.mono ?_
    rintro e w' ⟨rfl, rfl⟩
    go_wp2_with fail
    go_end0
    exact ⟨rfl, rfl⟩
theorem r_clear (h : RNet w B b n T way box) (hT : T ≤ 900) (hfew : ∀ j, j < n → (box j).length ≤ 32) (x : Int) :
    Calls Try.prog 23 #[.pointer (some ⟨b, 0, none⟩), .int .i64 x] w fun e w' => e = .returned (.tuple #[]) ∧ RNet w' B b n T way (setQ box x []) ∧ RMoved B w w' := by
  obtain ⟨av, rs, lw, lb, h1, h2⟩ := h
  by_cases hx : x < 0 ∨ (n : Int) ≤ x
  · refine (ref_clear_out h1 x hx).mono ?_
    rintro e w' ⟨rfl, rfl⟩
    have hb : ∀ j, j < n → setQ box x [] j = box j := fun j hj => by unfold setQ; rw [if_neg (by omega)]
    exact ⟨rfl, ⟨av, rs, lw, lb, h1, ⟨h2.inj, h2.le, h2.few, h2.dst, h2.roww, h2.rowb, h2.keyw, fun j hj => by rw [hb j hj]; exact h2.keyb j hj⟩⟩, RMoved.refl _ _⟩
  · obtain ⟨j, rfl⟩ : ∃ k : Nat, x = k := ⟨x.toNat, by omega⟩
    exact ref_clear_in h1 h2 hT j (by omega) (hfew j (by omega))
theorem r_receive_none (h : RNet w B b n T way box) (hT : T ≤ 900) (x : Int) (hq : qAt n box x = []) :
    Calls Try.prog 22 #[.pointer (some ⟨b, 0, none⟩), .int .i64 x] w fun e w' => e = .returned (.tuple #[zero49, .bool false]) ∧ RNet w' B b n T way box ∧ RMoved B w w' := by
  have hN := h
  obtain ⟨av, rs, lw, lb, h1, h2⟩ := h
  by_cases hx : x < 0 ∨ (n : Int) ≤ x
  · refine (ref_receive_out h1 x hx).mono ?_
    rintro e w' ⟨rfl, hb⟩; exact ⟨rfl, hN.kept hb, RMoved.of_below hb h1.base⟩
  · refine (ref_receive_empty h1 h2 hT x (by omega) hq).mono ?_
    rintro e w' ⟨rfl, hb⟩; exact ⟨rfl, hN.kept hb, RMoved.of_below hb h1.base⟩
theorem r_receive_one (h : RNet w B b n T way box) (hT : T ≤ 900) (hfew : ∀ j, j < n → (box j).length ≤ 32) (x : Int) {m : Msg} {rest : List Msg} (hq : qAt n box x = m :: rest) :
    Calls Try.prog 22 #[.pointer (some ⟨b, 0, none⟩), .int .i64 x] w fun e w' => (∃ r, (r.src, r.dst, r.bs) = mkey m ∧ e = .returned (.tuple #[ragg r, .bool true])) ∧ RNet w' B b n T way (setQ box x rest) ∧ RMoved B w w' := by
  obtain ⟨av, rs, lw, lb, h1, h2⟩ := h
  by_cases hx : x < 0 ∨ (n : Int) ≤ x
  · rw [qAt_out x hx] at hq; cases hq
  · obtain ⟨j, rfl⟩ : ∃ k : Nat, x = k := ⟨x.toNat, by omega⟩
    rw [qAt_nat j (by omega)] at hq
    exact ref_receive_one h1 h2 hT j (by omega) hq (hfew j (by omega))
end
end Go.Proofs.Ytambdhoeakddhaa
