/- The walk over tells: a watch and the reference's tell the same. -/
import Derived.Test.YtpiolgpfhplhcaaWalkH
namespace Go.Proofs.Ytpiolgpfhplhcaa
open Go Go.RowKit
set_option linter.unusedVariables false

/-- The two watches say the same, in world w. -/
structure Both (w : World) (b s b' s' : Nat) (lim now : Int) (ls D : List Int) : Prop where
  eq : D = agoOf now ls
  wat : WatchAt w b s lim D
  ref : RefAt w b' s' lim now ls
  fair : RefFair now ls

theorem Both.len {w : World} {b s b' s' : Nat} {lim now : Int} {ls D : List Int} (h : Both w b s b' s' lim now ls D) : ls.length = D.length := by rw [h.eq, agoOf_len]
theorem Both.kept {w w' : World} {b s b' s' : Nat} {lim now : Int} {ls D : List Int} (h : Both w b s b' s' lim now ls D) (hb : Below w.heap.size w w') : Both w' b s b' s' lim now ls D :=
  ⟨h.eq, h.wat.kept hb, h.ref.kept hb, h.fair⟩

theorem both_sil {w : World} {b s b' s' : Nat} {lim now : Int} {ls D : List Int} (h : Both w b s b' s' lim now ls D) (i : Int) :
    Calls Try.prog 23 #[.pointer (some ⟨b', 0, none⟩), .int .i64 i] w fun e w' => e = .returned (.int .i64 (silF D i)) ∧ Below w.heap.size w w' := by
  rw [h.eq]
  refine (refsil_all w b' s' lim now ls h.ref h.fair i).mono ?_
  rintro e w' ⟨rfl, n, rfl⟩
  exact ⟨rfl, below_drewN (Below.refl _ _) n⟩

theorem owns_shape {w : World} {B : Nat} {v : Value} {xs : List Int} (h : w.ownsRow B 3 1 v xs.length (xs.map (Value.int .i64))) :
    ∃ a cap, v = .slice a xs.length cap ∧ ∀ j, j < xs.length → ∃ g, a = some ⟨g, 0, none⟩ ∧ g < w.heap.size ∧ w.cell? ⟨g, j, none⟩ = some (.int .i64 (xs.getD j 0)) := by
  rcases h.2 with ⟨rfl, h0⟩ | ⟨g, cap, cur, rfl, _, hg, _⟩
  · exact ⟨none, 0, by rw [h0], fun j hj => by omega⟩
  · exact ⟨_, cap, rfl, fun j hj => ⟨g, rfl, (Array.getElem?_eq_some_iff.1 hg).1, by rw [h.cellAt j (by omega)]; simp [hj]⟩⟩

set_option maxHeartbeats 4000000 in
theorem tells_any (w : World) (b s b' s' : Nat) (lim now : Int) (ls D : List Int) (h : Both w b s b' s' lim now ls D) (n : Int) :
    Calls Try.prog 16 #[.pointer (some ⟨b, 0, none⟩), .pointer (some ⟨b', 0, none⟩), .int .i64 n] w fun e w' => e = .returned (.bool true) ∧ Below w.heap.size w w' := by
  have hl2 := h.wat.len2
  go_enter Try.func16, Try.ntmps16
  go_wp2_with fail
  refine (gone_any w b s lim D h.wat).mono ?_
  rintro e w1 ⟨l, rfl, ol, nl, B1⟩
  have h1 := h.kept B1
  have gone' := refgone_any w1 b' s' lim now ls h1.ref h1.fair
  rw [← h.eq] at gone'
  go_wp2_with fail
  refine gone'.mono ?_
  rintro e w2 ⟨k, rfl, ok, nk, B2⟩
  have h2 := h1.kept B2
  have ol2 := made_kept ol B2
  have B12 : Below w.heap.size w w2 := B1.trans (B2.mono B1.size)
  clear gone' ol h1 B1 B2
  have hgl : (goneOf lim D).length ≤ 64 := Nat.le_trans (goneUp_len _ _ _) hl2
  have hE : (((goneOf lim D).length : Int) == 0) = (goneOf lim D).isEmpty := by cases goneOf lim D <;> simp; omega
  obtain ⟨al, cl, rfl, ql⟩ := owns_shape ol2
  obtain ⟨ak, ck, rfl, qk⟩ := owns_shape ok
  have hAll : ∀ u : Since w2.heap.size w2, Calls Try.prog 20 #[.pointer (some ⟨b, 0, none⟩)] u.val fun e w' => e = .returned (.bool (goneOf lim D).isEmpty) ∧ Below u.val.heap.size u.val w' := fun u => all_any u.val b s lim D (h2.kept u.ok).wat
  have HALL := Lib.hid hAll
  have HALL2 := Lib.hid (all_any w2 b s lim D h2.wat)
  clear hAll nl nk ol2 ok
  have c2 : ∀ u : Since w2.heap.size w2, u.val.cell? ⟨b', 2, none⟩ = some (.slice (some ⟨s', 0, none⟩) D.length D.length) := fun u => by rw [(h2.kept u.ok).ref.c2, h.len]
  have HD := Lib.hid h.eq
  have Q := fun j (hj : j < (goneOf lim D).length) => And.intro (ql j hj) (qk j hj)
  have HQ := Lib.hid Q
  clear Q ql qk
  generalize goneOf lim D = gs at *
  generalize gs.length = m at *
  generalize gs.isEmpty = E at *
  go_wp2_with fail
  refine wp_region_since w2.heap.size (by kernel_rfl) (by kernel_rfl) ?_
  repeat (go_big_quiet_step ((first | (go_at_call 17; exact Calls.since_same (members_any _ b s lim D (h2.kept (Since.ok _)).wat)) | (go_at_call 20; exact Calls.since (Nat.le_refl _) (HALL.out _)) | (go_at_call 19; exact Calls.since_same (silent_all _ b s lim D (h2.kept (Since.ok _)).wat n)) | (go_at_call 23; exact Calls.since (Nat.le_refl _) (both_sil (h2.kept (Since.ok _)) n)))))
  refine wpQuiet_nil ?_
  rintro _ ⟨u, rfl⟩
  obtain ⟨w3, B3⟩ := u
  have hm : m ≤ 64 := hgl
  clear c2 hE hgl
  go_wp2
  go_loopw [9] (fun i wr => ∃ j : Nat, j ≤ m ∧ i = .int .i64 j ∧ Below w2.heap.size w2 wr) (fun i _ => m - (intOf i).toNat)
  case atStart => exact ⟨0, by omega, rfl, B3⟩
  case round =>
    clear B3
    obtain ⟨j, hj, rfl, B4⟩ := hrel
    by_cases hlt : j < m
    · obtain ⟨⟨g, rfl, hgs, hcl⟩, ⟨g', rfl, hgs', hck⟩⟩ := HQ.out j hlt
      have d1 := (B4.cell (p := ⟨g, j, none⟩) hgs).trans hcl
      have d2 := (B4.cell (p := ⟨g', j, none⟩) hgs').trans hck
      clear hcl hck
      generalize gs.getD j 0 = x at *
      have j0 : (0 : Int) ≤ (j : Int) := by omega
      have j1 : (j : Int) < (m : Int) := by omega
      go_wp2
      go_quiet (fail)
      have B5 := below_drewN B4 nq
      go_wp2
      go_roundw
      case rel => exact ⟨j + 1, by omega, by go_num, B5⟩
      case measure => simp [intOf]; omega
    · obtain rfl : j = m := by omega
      have hlen : (D.length : Int) ≤ 64 := by omega
      clear HQ
      go_wp2
      go_loopw [10] (fun i wr => ∃ j : Nat, j ≤ D.length + 2 ∧ i = .int .i64 ((j : Int) - 1) ∧ Below w2.heap.size w2 wr) (fun i _ => D.length + 2 - (intOf i + 1).toNat)
      case atStart => exact ⟨0, by omega, rfl, B4⟩
      case round =>
        clear B4
        obtain ⟨i, hi, rfl, B4⟩ := hrel
        have h4 := h2.kept B4
        have c2 : wr.cell? ⟨b', 2, none⟩ = some (.slice (some ⟨s', 0, none⟩) D.length D.length) := by rw [h4.ref.c2, h4.len]
        by_cases hil : i < D.length + 2
        · go_wp2_with fail
          refine (silent_all wr b s lim D h4.wat _).mono ?_
          rintro e w' ⟨rfl, rfl⟩
          go_wp2_with fail
          refine (both_sil h4 _).mono ?_
          rintro e w5 ⟨rfl, B5⟩
          have B6 := B4.trans (B5.mono B4.size)
          go_wp2_with fail
          go_roundw
          case rel => exact ⟨i + 1, by omega, by go_num, B6⟩
          case measure => simp [intOf]; omega
        · go_wp2
          go_ret
          exact ⟨rfl, B12.trans (B4.mono B12.size)⟩
end Go.Proofs.Ytpiolgpfhplhcaa
