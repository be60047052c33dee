/- What either net's calls leave of the other; Do, of rows. -/
import Derived.Test.YtambdhoeakddhaaRWalkH
import Derived.Test.YtambdhoeakddhaaWayB
namespace Go.Proofs.Ytambdhoeakddhaa
open Go Go.RowKit Go.Conc
set_option linter.unusedVariables false

section
variable {w w' : World} {B B' b b' n : Nat} {way : List Msg} {box : Nat → List Msg} {T : Nat}
theorem Net.rmoved (h : Net w B b n way box) (hm : RMoved B' w w') : Net w' B b n way box := by
  obtain ⟨vw, ⟨ps, bx, cap, cs, bufs, h1, h2, h3⟩, hlen, hto, hB⟩ := h
  have hb : ∀ (g : Nat) (cur : Array Value), w.heap[g]? = some (Obj.cells cur 5 (0, 0)) → w'.heap[g]? = w.heap[g]? := fun g cur hg => hm.keeps g _ hg rfl
  refine ⟨vw, ⟨ps, bx, cap, cs, bufs, ?_, h2.same hb, fun j hj => (h3 j hj).same hb⟩, hlen, hto, Nat.le_trans hB hm.size⟩
  refine ⟨(hm.keeps _ _ h1.head rfl).trans h1.head, ?_, fun j hj => ?_, h1.sep, h1.few, h1.n1, h1.n2, h1.geb, h1.gec, owns_same h1.way fun g cur _ hg => hm.keeps g _ hg rfl⟩
  · obtain ⟨cur, c1, c2⟩ := h1.brow
    exact ⟨cur, (hm.keeps _ _ c1 rfl).trans c1, c2⟩
  · obtain ⟨s, r, c1⟩ := h1.chans j hj
    exact ⟨s, r, (hm.keeps _ _ c1 rfl).trans c1⟩
theorem RNet.moved (h : RNet w B b n T way box) (hm : Moved B' w w') : RNet w' B b n T way box := by
  obtain ⟨av, rs, lw, lb, h1, h2⟩ := h
  refine ⟨av, rs, lw, lb, ⟨(hm.keeps _ _ h1.head rfl).trans h1.head, owns_same h1.row fun g cur _ hg => hm.keeps g _ hg rfl, h1.geb, Nat.le_trans h1.base hm.size⟩, h2⟩

theorem r_do_out (h : RNet w B b n T way box) (hT : T ≤ 900) (hw : way.length ≤ 256) (kind i : Int) (hi : i < 0 ∨ (way.length : Int) ≤ i) :
    Calls Try.prog 21 #[.pointer (some ⟨b, 0, none⟩), .int .u8 kind, .int .i64 i] w fun e w' => e = .returned (.int .i64 5) ∧ (∃ T', T' ≤ T + 1 ∧ RNet w' B b n T' way box) ∧ RMoved B w w' := by
  have hN := h
  obtain ⟨av, rs, lw, lb, h1, h2⟩ := h
  refine (ref_do_out h1 h2 hT hw kind i hi).mono ?_
  rintro e w' ⟨rfl, hb⟩
  exact ⟨rfl, ⟨T, by omega, hN.kept hb⟩, RMoved.of_below hb h1.base⟩
theorem r_do_in {m1 m2 : List Msg} {m : Msg} (h : RNet w B b n T (m1 ++ m :: m2) box) (hT : T ≤ 900) (hw : (m1 ++ m :: m2).length ≤ 256) (hmd : 0 ≤ m.dst ∧ m.dst < n) (hfew : (qAt n box m.dst).length ≤ 32) (kind : Int) (hk : kind = 0 ∨ kind = 1 ∨ kind = 2 ∨ kind = 3) :
    Calls Try.prog 21 #[.pointer (some ⟨b, 0, none⟩), .int .u8 kind, .int .i64 m1.length] w fun e w' => e = .returned (.int .i64 (mvE kind (m1 ++ m :: m2))) ∧ (∃ T', T' ≤ T + 1 ∧ RNet w' B b n T' (mvW kind m1 m m2) (mvQ kind n box m)) ∧ RMoved B w w' := by
  obtain ⟨av, rs, lw, lb, h1, h2⟩ := h
  rcases hk with rfl | rfl | rfl | rfl
  · have e1 : mvE 0 (m1 ++ m :: m2) = 0 := by unfold mvE; rw [if_neg (by omega)]
    have e2 : mvW 0 m1 m m2 = m1 ++ m2 := by unfold mvW; rw [if_pos rfl]
    have e3 : mvQ 0 n box m = dlv n box m := by unfold mvQ; rw [if_pos rfl]
    rw [e1, e2, e3]
    by_cases hr : (qAt n box m.dst).length < 32
    · refine (ref_do_room h1 h2 hT hw hmd hr).mono ?_
      rintro e w' ⟨rfl, hN, hM⟩
      exact ⟨rfl, ⟨T + 1, by omega, hN⟩, hM⟩
    · have e4 : dlv n box m = box := by unfold dlv; rw [if_neg hr]
      rw [e4]
      refine (ref_do_full h1 h2 hT hw hmd (by omega) hfew).mono ?_
      rintro e w' ⟨rfl, hN, hM⟩
      exact ⟨rfl, ⟨T, by omega, hN⟩, hM⟩
  · have e1 : mvE 1 (m1 ++ m :: m2) = 0 := by unfold mvE; rw [if_neg (by omega)]
    have e2 : mvW 1 m1 m m2 = m1 ++ m2 := by unfold mvW; rw [if_neg (by omega), if_pos rfl]
    have e3 : mvQ 1 n box m = box := by unfold mvQ; rw [if_neg (by omega)]
    rw [e1, e2, e3]
    refine (ref_do_drop h1 h2 hT hw hmd).mono ?_
    rintro e w' ⟨rfl, hN, hM⟩
    exact ⟨rfl, ⟨T, by omega, hN⟩, hM⟩
  · have e3 : mvQ 2 n box m = box := by unfold mvQ; rw [if_neg (by omega)]
    have e1 : mvE 2 (m1 ++ m :: m2) = dblE (m1 ++ m :: m2).length := by unfold mvE; rw [if_pos rfl]
    have e2 : mvW 2 m1 m m2 = dblW (m1 ++ m :: m2) m := by unfold mvW; rw [if_neg (by omega), if_neg (by omega), if_pos rfl]
    rw [e1, e2, e3]
    by_cases hr : (m1 ++ m :: m2).length < 256
    · have f1 : dblE (m1 ++ m :: m2).length = 0 := by unfold dblE; rw [if_pos hr]
      have f2 : dblW (m1 ++ m :: m2) m = m1 ++ m :: m2 ++ [m] := by unfold dblW; rw [if_pos hr]
      rw [f1, f2]
      refine (ref_do_dbl h1 h2 hT hw hmd hr).mono ?_
      rintro e w' ⟨rfl, hN, hM⟩
      exact ⟨rfl, ⟨T + 1, by omega, hN⟩, hM⟩
    · have f1 : dblE (m1 ++ m :: m2).length = 3 := by unfold dblE; rw [if_neg hr]
      have f2 : dblW (m1 ++ m :: m2) m = m1 ++ m :: m2 := by unfold dblW; rw [if_neg hr]
      rw [f1, f2]
      refine (ref_do_dblfull h1 h2 hT hw hmd (by omega)).mono ?_
      rintro e w' ⟨rfl, hN, hM⟩
      exact ⟨rfl, ⟨T, by omega, hN⟩, hM⟩
  · have e1 : mvE 3 (m1 ++ m :: m2) = 0 := by unfold mvE; rw [if_neg (by omega)]
    have e2 : mvW 3 m1 m m2 = m1 ++ (m2 ++ [m]) := by unfold mvW; rw [if_neg (by omega), if_neg (by omega), if_neg (by omega)]
    have e3 : mvQ 3 n box m = box := by unfold mvQ; rw [if_neg (by omega)]
    rw [e1, e2, e3]
    refine (ref_do_delay h1 h2 hT hw hmd).mono ?_
    rintro e w' ⟨rfl, hN, hM⟩
    exact ⟨rfl, ⟨T + 1, by omega, hN⟩, hM⟩
end
end Go.Proofs.Ytambdhoeakddhaa
