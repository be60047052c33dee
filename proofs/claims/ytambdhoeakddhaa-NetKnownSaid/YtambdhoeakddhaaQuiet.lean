/- A region that draws its order, whose calls may make memory: one walk in the order of the text, over every world that is as the region's first one below a block number. -/
import Derived.Test.YtambdhoeakddhaaRows
import Derived.WalkKit
import Derived.Deep.QuietTactic
import Derived.BigQuiet
namespace Go.Proofs.Ytambdhoeakddhaa
open Go.RowKit
set_option linter.unusedVariables false

/-- The worlds that are as w was below B. -/
structure Since (B : Nat) (w : World) where
  val : World
  ok : Below B w val

instance (B : Nat) (w : World) : Nonempty (Since B w) := ⟨⟨w, Below.refl _ _⟩⟩

theorem wp_region_since {P : Program} (B : Nat) {id : Nat} {Q : Exit → Act → World → Prop} {a : Act} {w : World} {l : List Oper} (hm : P.follows .mixedOrders = true) (hB : Region.lexB .any l.toArray = true)
    (h : wpQuiet P l.toArray (fun w' => ∃ u : Since B w, w' = u.val) (fun a' => ∀ w', (∃ u : Since B w, w' = u.val) → Q .normal a' w') l a) : (Code.region id l.toArray true).wp P Q a w :=
  wp_region_quiet (C := fun w' => ∃ u : Since B w, w' = u.val) hm hB ⟨⟨_, (Below.refl _ _).drew⟩, rfl⟩ (by simpa using h)

theorem Calls.since {P : Program} {f : FuncId} {args : Array Value} {B : Nat} {w : World} {u : Since B w} {v : Value} (hB : B ≤ w.heap.size)
    (h : Calls P f args u.val fun e w' => e = .returned v ∧ Below u.val.heap.size u.val w') : Calls P f args u.val fun e w'' => e = .returned v ∧ ∃ u' : Since B w, w'' = u'.val :=
  h.mono fun _ w' ⟨he, hb⟩ => ⟨he, ⟨⟨w', u.ok.trans (hb.mono (Nat.le_trans hB u.ok.size))⟩, rfl⟩⟩

theorem Calls.since_same {P : Program} {f : FuncId} {args : Array Value} {B : Nat} {w : World} {u : Since B w} {v : Value}
    (h : Calls P f args u.val fun e w' => e = .returned v ∧ u.val = w') : Calls P f args u.val fun e w'' => e = .returned v ∧ ∃ u' : Since B w, w'' = u'.val :=
  h.mono fun _ w' ⟨he, hb⟩ => ⟨he, ⟨u, hb.symm⟩⟩
end Go.Proofs.Ytambdhoeakddhaa
