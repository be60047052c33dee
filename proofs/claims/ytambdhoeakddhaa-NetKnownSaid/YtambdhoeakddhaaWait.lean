/- How many wait at an end, read from the world: a measure for the loops that receive until none does. -/
import Derived.Test.YtambdhoeakddhaaPlain
namespace Go.Proofs.Ytambdhoeakddhaa
open Go Go.RowKit Go.Conc
set_option linter.unusedVariables false

def waitsW (w : World) (b : Nat) (x : Int) : Nat := match w.cell? ⟨b, 1, none⟩ with
  | some (.slice (some a) n _) => if 0 ≤ x ∧ x < n then (match w.cell? (a.add x.toNat) with
    | some (.chan (some c)) => held w c
    | _ => 0) else 0
  | _ => 0
theorem waitsW_of {w : World} {B b n : Nat} {way : List Msg} {box : Nat → List Msg} (h : Net w B b n way box) (x : Int) : waitsW w b x = (qAt n box x).length := by
  obtain ⟨vw, ⟨ps, bx, cap, cs, bufs, h1, h2, h3⟩, _⟩ := h
  unfold waitsW qAt
  rw [h1.c1]
  dsimp only
  by_cases hx : 0 ≤ x ∧ x < n
  · rw [if_pos hx, if_pos hx]
    have ha : (⟨bx, 0, none⟩ : Addr).add x.toNat = ⟨bx, x.toNat, none⟩ := by unfold Addr.add; split <;> simp_all
    rw [ha, h1.box x.toNat (by omega)]
    dsimp only
    rw [held_of h1 x.toNat (by omega), (h3 x.toNat (by omega)).len]
  · rw [if_neg hx, if_neg hx]; rfl
end Go.Proofs.Ytambdhoeakddhaa
