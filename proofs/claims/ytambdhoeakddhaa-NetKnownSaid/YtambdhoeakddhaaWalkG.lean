/- The walk over Clear. -/
import Derived.Test.YtambdhoeakddhaaWalkF
namespace Go.Proofs.Ytambdhoeakddhaa
open Go Go.RowKit Go.Conc
set_option linter.unusedVariables false

section
variable {w w' : World} {B b bx cap n : Nat} {vw : Value} {ps : List PV} {cs : Nat → Nat} {bufs : Nat → List PV}
theorem Moved.chan {c : Nat} (ho : Only c w w') (hc : B ≤ c) (hB : B ≤ w.heap.size) {cp : Nat} {buf : Array Value} {cl tm : Bool} {s r : Nat} (hch : w.heap[c]? = some (Obj.chan cp buf cl s r tm)) : Moved B w w' :=
  Moved.only ho hc hB hch rfl

theorem upd_upd (bufs : Nat → List PV) (j : Nat) (l l' : List PV) : upd (upd bufs j l) j l' = upd bufs j l' := by
  funext i; unfold upd; split <;> rfl
theorem upd_same (bufs : Nat → List PV) (j : Nat) : upd bufs j (bufs j) = bufs := by
  funext i; unfold upd; split <;> simp_all
theorem upd_at (bufs : Nat → List PV) (j : Nat) (l : List PV) : upd bufs j l j = l := by unfold upd; simp

/-- How many lie in a channel. -/
def held (w : World) (c : Nat) : Nat := match w.heap[c]? with
  | some (.chan _ buf _ _ _ _) => buf.size
  | _ => 0
theorem held_of (h : NetAt w B b vw ps bx cap n cs bufs) (j : Nat) (hj : j < n) : held w (cs j) = (bufs j).length := by
  obtain ⟨s, r, hc⟩ := h.chans j hj
  unfold held; rw [hc]; simp

theorem clear_in (h : NetAt w B b vw ps bx cap n cs bufs) (hB : B ≤ w.heap.size) (j : Nat) (hj : j < n) :
    Calls Try.prog 14 #[.pointer (some ⟨b, 0, none⟩), .int .i64 j] w fun e w' => e = .returned (.tuple #[]) ∧ NetAt w' B b vw ps bx cap n cs (upd bufs j []) ∧ Moved B w w' := by
  have h0 : NetAt w B b vw ps bx cap n cs (upd bufs j (bufs j)) := by rw [upd_same]; exact h
  have m0 : Moved B w w := Moved.refl _ _
  have hfew := h.few j hj
  clear h
  go_enter Try.func14, Try.ntmps14
  go_wp2
  go_loopw [] (fun wr => ∃ l : List PV, l.length ≤ 32 ∧ NetAt wr B b vw ps bx cap n cs (upd bufs j l) ∧ Moved B w wr) (fun wr => held wr (cs j))
  case atStart => exact ⟨_, hfew, h0, m0⟩
  case round =>
    clear h0 m0
    obtain ⟨l, hl, hN, hM⟩ := hrel
    have HN := Lib.hid hN
    have hw := waits_in hN j hj
    rw [upd_at] at hw
    have HW := Lib.hid hw
    clear hN hw
    match l, hl, HN, HW with
    | [], hl, HN, HW =>
      go_wp2_with fail
      refine HW.out.mono ?_
      rintro e w' ⟨rfl, rfl⟩
      go_wp2_with fail
      go_end0
      exact ⟨rfl, HN.out, hM⟩
    | p :: rest, hl, HN, HW =>
      have hr := receive_in HN.out j hj p rest (upd_at _ _ _)
      simp only [upd_upd] at hr
      have HR := Lib.hid hr
      have hrl : rest.length ≤ 31 := by simp at hl; omega
      clear hr
      rw [List.length_cons] at HW
      go_wp2_with fail
      refine HW.out.mono ?_
      rintro e w' ⟨rfl, rfl⟩
      go_wp2_with fail
      refine HR.out.mono ?_
      rintro e w2 ⟨rfl, hN2, hO⟩
      have hM2 : Moved B w w2 := by
        obtain ⟨s, r, hc⟩ := HN.out.chans j hj
        exact hM.trans (Moved.chan hO (HN.out.gec j hj) (Nat.le_trans hB hM.size) hc)
      have h1 := held_of HN.out j hj
      have h2 := held_of hN2 j hj
      rw [upd_at] at h1 h2
      have H1 := Lib.hid h1
      have H2 := Lib.hid h2
      clear h1 h2
      go_wp2_with fail
      go_roundw
      case rel => exact ⟨rest, by omega, hN2, hM2⟩
      case measure => rw [H1.out, H2.out]; simp
theorem clear_out (h : NetAt w B b vw ps bx cap n cs bufs) (x : Int) (hx : x < 0 ∨ (n : Int) ≤ x) :
    Calls Try.prog 14 #[.pointer (some ⟨b, 0, none⟩), .int .i64 x] w fun e w' => e = .returned (.tuple #[]) ∧ w = w' := by
  have HW := Lib.hid (waits_out h x hx)
  go_enter Try.func14, Try.ntmps14
  go_wp2
  go_loopw [] (fun wr => wr = w) (fun wr => 0)
  case atStart => rfl
  case round =>
    subst hrel
    go_wp2_with fail
    refine HW.out.mono ?_
    rintro e w' ⟨rfl, rfl⟩
    go_wp2_with fail
    go_end0
    exact ⟨rfl, rfl⟩
end
end Go.Proofs.Ytambdhoeakddhaa
