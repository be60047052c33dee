/-
  No cell of these rows narrows 'for every input' (looked for: loops, veiled, ifaces, maps, wideKeys, modest, calm, conditions, laid).
  DERIVED. THE GIVEN ROWS OF THIS SEAT. 4 by the template 'for every input the law returns true; each argument reads behind the call as it read before'; 0 by the template 'total and deterministic' (their statements: YtcnggabjejkdbaaTotals.lean).
  GIVEN WITH THE SEED: the statements are not yours to turn. If you find one false, say at which input.
  Laid BY PROGRAM, IN A SANDBOX (cutbox-rows.mjs): the forced cells as the released guide's own fill.sh prints them over the translation 20fcf16fbef7236b… (all of the seat's roots in one cut). By AI agents, Wed Nov 11 2026. No macro, syntax, notation, axiom, sorry.
-/
import Derived.Test.YtcnggabjejkdbaaChecked
import GoSem.Claim
import GoSem.ClaimJoined
import GoSem.ClaimMapViews
import Derived.JoinedTies
import Derived.KernelRfl
namespace Go.Proofs.Ytcnggabjejkdbaa
/- THE CELL 'sum', in the pinned program and in every row, IS THE sha256 OF THE DUMP (.gsa) THAT YtcnggabjejkdbaaProg.lean LOADS. Nothing in Lean hashes anything: it is a label: what it is worth is what the hold of that sum in a sandbox is worth. -/
noncomputable def Try.pinned : Pinned := { name := "ytcnggabjejkdbaa", sum := "20fcf16fbef7236be54aba81838f7c903c89d2c772f3ac12621a346f8d4358d3", checked := Try.checked }
namespace Rows
def none {H : Type} : Left H := { results := [], args := [] }

/-- 'treadwheellaw07.RankGive': WHATEVER THE INPUT: true; the input reads as it did. -/
def rankGiveSpec : ChangeSpec := { name := "rankGive", fn := fun _ => fun
  | [d1, d2] => { results := [.lit (.bool true)], args := [d1, d2] }
  | _ => none }
def rankGiveRow : OpenClaim := { program := "ytcnggabjejkdbaa", sum := "20fcf16fbef7236be54aba81838f7c903c89d2c772f3ac12621a346f8d4358d3", func := "treadwheel/treadwheellaw07.RankGive", spec := "rankGive", apart := false }
def RankGiveSaid : Prop := rankGiveRow.holds Try.pinned (OpenSpec.ofChange rankGiveSpec)

/-- ITS FALSE NEIGHBOUR: 'it returns false'. Refute it at one input. -/
def rankGiveWrong : ChangeSpec := { name := "rankGive", fn := fun _ => fun
  | [d1, d2] => { results := [.lit (.bool false)], args := [d1, d2] }
  | _ => none }
def RankGiveWrongFalsely : Prop := rankGiveRow.holds Try.pinned (OpenSpec.ofChange rankGiveWrong)

/-- 'treadwheellaw07.RankTake': WHATEVER THE INPUT: true; the input reads as it did. -/
def rankTakeSpec : ChangeSpec := { name := "rankTake", fn := fun _ => fun
  | [d1, d2, d3, d4] => { results := [.lit (.bool true)], args := [d1, d2, d3, d4] }
  | _ => none }
def rankTakeRow : OpenClaim := { program := "ytcnggabjejkdbaa", sum := "20fcf16fbef7236be54aba81838f7c903c89d2c772f3ac12621a346f8d4358d3", func := "treadwheel/treadwheellaw07.RankTake", spec := "rankTake", apart := false }
def RankTakeSaid : Prop := rankTakeRow.holds Try.pinned (OpenSpec.ofChange rankTakeSpec)

/-- ITS FALSE NEIGHBOUR: 'it returns false'. Refute it at one input. -/
def rankTakeWrong : ChangeSpec := { name := "rankTake", fn := fun _ => fun
  | [d1, d2, d3, d4] => { results := [.lit (.bool false)], args := [d1, d2, d3, d4] }
  | _ => none }
def RankTakeWrongFalsely : Prop := rankTakeRow.holds Try.pinned (OpenSpec.ofChange rankTakeWrong)

/-- 'treadwheellaw07.RankTotal': WHATEVER THE INPUT: true; the input reads as it did. -/
def rankTotalSpec : ChangeSpec := { name := "rankTotal", fn := fun _ => fun
  | [d1, d2, d3] => { results := [.lit (.bool true)], args := [d1, d2, d3] }
  | _ => none }
def rankTotalRow : OpenClaim := { program := "ytcnggabjejkdbaa", sum := "20fcf16fbef7236be54aba81838f7c903c89d2c772f3ac12621a346f8d4358d3", func := "treadwheel/treadwheellaw07.RankTotal", spec := "rankTotal", apart := false }
def RankTotalSaid : Prop := rankTotalRow.holds Try.pinned (OpenSpec.ofChange rankTotalSpec)

/-- ITS FALSE NEIGHBOUR: 'it returns false'. Refute it at one input. -/
def rankTotalWrong : ChangeSpec := { name := "rankTotal", fn := fun _ => fun
  | [d1, d2, d3] => { results := [.lit (.bool false)], args := [d1, d2, d3] }
  | _ => none }
def RankTotalWrongFalsely : Prop := rankTotalRow.holds Try.pinned (OpenSpec.ofChange rankTotalWrong)

/-- 'treadwheellaw07.RankKnown': WHATEVER THE INPUT: true; the input reads as it did. -/
def rankKnownSpec : ChangeSpec := { name := "rankKnown", fn := fun _ => fun
  | [] => { results := [.lit (.bool true)], args := [] }
  | _ => none }
def rankKnownRow : OpenClaim := { program := "ytcnggabjejkdbaa", sum := "20fcf16fbef7236be54aba81838f7c903c89d2c772f3ac12621a346f8d4358d3", func := "treadwheel/treadwheellaw07.RankKnown", spec := "rankKnown", apart := false }
def RankKnownSaid : Prop := rankKnownRow.holds Try.pinned (OpenSpec.ofChange rankKnownSpec)

/-- ITS FALSE NEIGHBOUR: 'it returns false'. Refute it at one input. -/
def rankKnownWrong : ChangeSpec := { name := "rankKnown", fn := fun _ => fun
  | [] => { results := [.lit (.bool false)], args := [] }
  | _ => none }
def RankKnownWrongFalsely : Prop := rankKnownRow.holds Try.pinned (OpenSpec.ofChange rankKnownWrong)

/- THE SECOND FORM. 'bulk': how many values and letters a reading holds, each counted each time it is reached (what is shared counts as often as it is met; a slice's spare places count too). A statement '..UptoSaid' is the law's where the arguments, and the package variables that the reading takes, are together of bulk at most 1048576: NARROWER than '..Said'. Prove '..Said' where nothing that the law and all that it calls make is longer than what came in: it says more and counts as full. Else prove '..UptoSaid'. A law counts once. -/
mutual
def uptoBulk {H : Type} : DataW H → Nat
  | .lit (.string bytes) => bytes.length + 1
  | .lit _ => 1
  | .nil => 1
  | .ptr d => uptoBulk d + 1
  | .slice elems spare => uptoBulkAll elems + uptoBulkAll spare + 1
  | .agg parts => uptoBulkAll parts + 1
  | .iface _ d => uptoBulk d + 1
  | .map entries => uptoBulkEntries entries + 1
  | .held _ => 1
def uptoBulkAll {H : Type} : List (DataW H) → Nat
  | [] => 0
  | d :: r => uptoBulk d + uptoBulkAll r
def uptoBulkEntries {H : Type} : List (Lit × DataW H) → Nat
  | [] => 0
  | x :: r => uptoBulkEntry x + uptoBulkEntries r
def uptoBulkEntry {H : Type} : Lit × DataW H → Nat
  | (.string bytes, d) => bytes.length + uptoBulk d + 1
  | (_, d) => uptoBulk d + 1
 end
def uptoSmall : (H : Type) → List (DataW H) → Bool := fun _ ds => decide (uptoBulkAll ds ≤ 1048576)
def OpenSpec.upto (s : _root_.Go.ChangeSpec) : _root_.Go.OpenSpec := { _root_.Go.OpenSpec.ofChange s with cond := some uptoSmall }

/-- 'treadwheellaw07.RankGive', WHERE WHAT IT READS IS OF BULK AT MOST 1048576: true; the input reads as it did. -/
def rankGiveUptoRow : OpenClaim := { program := "ytcnggabjejkdbaa", sum := "20fcf16fbef7236be54aba81838f7c903c89d2c772f3ac12621a346f8d4358d3", func := "treadwheel/treadwheellaw07.RankGive", spec := "rankGive", apart := false, narrowed := true }
def RankGiveUptoSaid : Prop := rankGiveUptoRow.holds Try.pinned (OpenSpec.upto rankGiveSpec)

/-- 'treadwheellaw07.RankTake', WHERE WHAT IT READS IS OF BULK AT MOST 1048576: true; the input reads as it did. -/
def rankTakeUptoRow : OpenClaim := { program := "ytcnggabjejkdbaa", sum := "20fcf16fbef7236be54aba81838f7c903c89d2c772f3ac12621a346f8d4358d3", func := "treadwheel/treadwheellaw07.RankTake", spec := "rankTake", apart := false, narrowed := true }
def RankTakeUptoSaid : Prop := rankTakeUptoRow.holds Try.pinned (OpenSpec.upto rankTakeSpec)

/-- 'treadwheellaw07.RankTotal', WHERE WHAT IT READS IS OF BULK AT MOST 1048576: true; the input reads as it did. -/
def rankTotalUptoRow : OpenClaim := { program := "ytcnggabjejkdbaa", sum := "20fcf16fbef7236be54aba81838f7c903c89d2c772f3ac12621a346f8d4358d3", func := "treadwheel/treadwheellaw07.RankTotal", spec := "rankTotal", apart := false, narrowed := true }
def RankTotalUptoSaid : Prop := rankTotalUptoRow.holds Try.pinned (OpenSpec.upto rankTotalSpec)

/-- 'treadwheellaw07.RankKnown', WHERE WHAT IT READS IS OF BULK AT MOST 1048576: true; the input reads as it did. -/
def rankKnownUptoRow : OpenClaim := { program := "ytcnggabjejkdbaa", sum := "20fcf16fbef7236be54aba81838f7c903c89d2c772f3ac12621a346f8d4358d3", func := "treadwheel/treadwheellaw07.RankKnown", spec := "rankKnown", apart := false, narrowed := true }
def RankKnownUptoSaid : Prop := rankKnownUptoRow.holds Try.pinned (OpenSpec.upto rankKnownSpec)

end Rows
end Go.Proofs.Ytcnggabjejkdbaa
