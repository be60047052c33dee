/-
  No cell of these rows narrows 'for every input' (looked for: loops, veiled, ifaces, maps, wideKeys, modest, calm, conditions, laid).
  DERIVED. THE GIVEN ROWS OF THIS SEAT. 5 by the template 'for every input the law returns true; each argument reads behind the call as it read before'; 0 by the template 'total and deterministic' (their statements: YtpiolgpfhplhcaaTotals.lean).
  GIVEN WITH THE SEED: the statements are not yours to turn. If you find one false, say at which input.
  Laid BY PROGRAM, IN A SANDBOX (cutbox-rows.mjs): the forced cells as the released guide's own fill.sh prints them over the translation c2a0d0348dd741a4… (all of the seat's roots in one cut). By AI agents, Wed Nov 11 2026. No macro, syntax, notation, axiom, sorry.
-/
import Derived.Test.YtpiolgpfhplhcaaChecked
import GoSem.Claim
import GoSem.ClaimJoined
import GoSem.ClaimMapViews
import Derived.JoinedTies
import Derived.KernelRfl
namespace Go.Proofs.Ytpiolgpfhplhcaa
/- THE CELL 'sum', in the pinned program and in every row, IS THE sha256 OF THE DUMP (.gsa) THAT YtpiolgpfhplhcaaProg.lean LOADS. Nothing in Lean hashes anything: it is a label: what it is worth is what the hold of that sum in a sandbox is worth. -/
noncomputable def Try.pinned : Pinned := { name := "ytpiolgpfhplhcaa", sum := "c2a0d0348dd741a40ef0a8086e850dc26a212840c77a11043d54165e31662de1", checked := Try.checked }
namespace Rows
def none {H : Type} : Left H := { results := [], args := [] }

/-- 'treadwheellaw22.HeartsPlays': WHATEVER THE INPUT: true; the input reads as it did. -/
def heartsPlaysSpec : ChangeSpec := { name := "heartsPlays", fn := fun _ => fun
  | [d1, d2, d3] => { results := [.lit (.bool true)], args := [d1, d2, d3] }
  | _ => none }
def heartsPlaysRow : OpenClaim := { program := "ytpiolgpfhplhcaa", sum := "c2a0d0348dd741a40ef0a8086e850dc26a212840c77a11043d54165e31662de1", func := "treadwheel/treadwheellaw22.HeartsPlays", spec := "heartsPlays", unfollowed := true, recurses := true, apart := false }
def HeartsPlaysSaid : Prop := heartsPlaysRow.holds Try.pinned (OpenSpec.ofChange heartsPlaysSpec)

/-- ITS FALSE NEIGHBOUR: 'it returns false'. Refute it at one input. -/
def heartsPlaysWrong : ChangeSpec := { name := "heartsPlays", fn := fun _ => fun
  | [d1, d2, d3] => { results := [.lit (.bool false)], args := [d1, d2, d3] }
  | _ => none }
def HeartsPlaysWrongFalsely : Prop := heartsPlaysRow.holds Try.pinned (OpenSpec.ofChange heartsPlaysWrong)

/-- 'treadwheellaw22.HeartsGone': WHATEVER THE INPUT: true; the input reads as it did. -/
def heartsGoneSpec : ChangeSpec := { name := "heartsGone", fn := fun _ => fun
  | [d1, d2, d3, d4] => { results := [.lit (.bool true)], args := [d1, d2, d3, d4] }
  | _ => none }
def heartsGoneRow : OpenClaim := { program := "ytpiolgpfhplhcaa", sum := "c2a0d0348dd741a40ef0a8086e850dc26a212840c77a11043d54165e31662de1", func := "treadwheel/treadwheellaw22.HeartsGone", spec := "heartsGone", unfollowed := true, recurses := true, apart := false }
def HeartsGoneSaid : Prop := heartsGoneRow.holds Try.pinned (OpenSpec.ofChange heartsGoneSpec)

/-- ITS FALSE NEIGHBOUR: 'it returns false'. Refute it at one input. -/
def heartsGoneWrong : ChangeSpec := { name := "heartsGone", fn := fun _ => fun
  | [d1, d2, d3, d4] => { results := [.lit (.bool false)], args := [d1, d2, d3, d4] }
  | _ => none }
def HeartsGoneWrongFalsely : Prop := heartsGoneRow.holds Try.pinned (OpenSpec.ofChange heartsGoneWrong)

/-- 'treadwheellaw22.HeartsKnown': WHATEVER THE INPUT: true; the input reads as it did. -/
def heartsKnownSpec : ChangeSpec := { name := "heartsKnown", fn := fun _ => fun
  | [] => { results := [.lit (.bool true)], args := [] }
  | _ => none }
def heartsKnownRow : OpenClaim := { program := "ytpiolgpfhplhcaa", sum := "c2a0d0348dd741a40ef0a8086e850dc26a212840c77a11043d54165e31662de1", func := "treadwheel/treadwheellaw22.HeartsKnown", spec := "heartsKnown", unfollowed := true, recurses := true, apart := false }
def HeartsKnownSaid : Prop := heartsKnownRow.holds Try.pinned (OpenSpec.ofChange heartsKnownSpec)

/-- ITS FALSE NEIGHBOUR: 'it returns false'. Refute it at one input. -/
def heartsKnownWrong : ChangeSpec := { name := "heartsKnown", fn := fun _ => fun
  | [] => { results := [.lit (.bool false)], args := [] }
  | _ => none }
def HeartsKnownWrongFalsely : Prop := heartsKnownRow.holds Try.pinned (OpenSpec.ofChange heartsKnownWrong)

/-- 'treadwheellaw22.HeartsApart': WHATEVER THE INPUT: true; the input reads as it did. -/
def heartsApartSpec : ChangeSpec := { name := "heartsApart", fn := fun _ => fun
  | [d1, d2, d3] => { results := [.lit (.bool true)], args := [d1, d2, d3] }
  | _ => none }
def heartsApartRow : OpenClaim := { program := "ytpiolgpfhplhcaa", sum := "c2a0d0348dd741a40ef0a8086e850dc26a212840c77a11043d54165e31662de1", func := "treadwheel/treadwheellaw22.HeartsApart", spec := "heartsApart", unfollowed := true, recurses := true, apart := false }
def HeartsApartSaid : Prop := heartsApartRow.holds Try.pinned (OpenSpec.ofChange heartsApartSpec)

/-- ITS FALSE NEIGHBOUR: 'it returns false'. Refute it at one input. -/
def heartsApartWrong : ChangeSpec := { name := "heartsApart", fn := fun _ => fun
  | [d1, d2, d3] => { results := [.lit (.bool false)], args := [d1, d2, d3] }
  | _ => none }
def HeartsApartWrongFalsely : Prop := heartsApartRow.holds Try.pinned (OpenSpec.ofChange heartsApartWrong)

/-- 'treadwheellaw22.HeartsRise': WHATEVER THE INPUT: true; the input reads as it did. -/
def heartsRiseSpec : ChangeSpec := { name := "heartsRise", fn := fun _ => fun
  | [d1, d2, d3] => { results := [.lit (.bool true)], args := [d1, d2, d3] }
  | _ => none }
def heartsRiseRow : OpenClaim := { program := "ytpiolgpfhplhcaa", sum := "c2a0d0348dd741a40ef0a8086e850dc26a212840c77a11043d54165e31662de1", func := "treadwheel/treadwheellaw22.HeartsRise", spec := "heartsRise", unfollowed := true, recurses := true, apart := false }
def HeartsRiseSaid : Prop := heartsRiseRow.holds Try.pinned (OpenSpec.ofChange heartsRiseSpec)

/-- ITS FALSE NEIGHBOUR: 'it returns false'. Refute it at one input. -/
def heartsRiseWrong : ChangeSpec := { name := "heartsRise", fn := fun _ => fun
  | [d1, d2, d3] => { results := [.lit (.bool false)], args := [d1, d2, d3] }
  | _ => none }
def HeartsRiseWrongFalsely : Prop := heartsRiseRow.holds Try.pinned (OpenSpec.ofChange heartsRiseWrong)

/- THE SECOND FORM. 'bulk': how many values and letters a reading holds, each counted each time it is reached (what is shared counts as often as it is met; a slice's spare places count too). A statement '..UptoSaid' is the law's where the arguments, and the package variables that the reading takes, are together of bulk at most 1048576: NARROWER than '..Said'. Prove '..Said' where nothing that the law and all that it calls make is longer than what came in: it says more and counts as full. Else prove '..UptoSaid'. A law counts once. -/
mutual
def uptoBulk {H : Type} : DataW H → Nat
  | .lit (.string bytes) => bytes.length + 1
  | .lit _ => 1
  | .nil => 1
  | .ptr d => uptoBulk d + 1
  | .slice elems spare => uptoBulkAll elems + uptoBulkAll spare + 1
  | .agg parts => uptoBulkAll parts + 1
  | .iface _ d => uptoBulk d + 1
  | .map entries => uptoBulkEntries entries + 1
  | .held _ => 1
def uptoBulkAll {H : Type} : List (DataW H) → Nat
  | [] => 0
  | d :: r => uptoBulk d + uptoBulkAll r
def uptoBulkEntries {H : Type} : List (Lit × DataW H) → Nat
  | [] => 0
  | x :: r => uptoBulkEntry x + uptoBulkEntries r
def uptoBulkEntry {H : Type} : Lit × DataW H → Nat
  | (.string bytes, d) => bytes.length + uptoBulk d + 1
  | (_, d) => uptoBulk d + 1
 end
def uptoSmall : (H : Type) → List (DataW H) → Bool := fun _ ds => decide (uptoBulkAll ds ≤ 1048576)
def OpenSpec.upto (s : _root_.Go.ChangeSpec) : _root_.Go.OpenSpec := { _root_.Go.OpenSpec.ofChange s with cond := some uptoSmall }

/-- 'treadwheellaw22.HeartsPlays', WHERE WHAT IT READS IS OF BULK AT MOST 1048576: true; the input reads as it did. -/
def heartsPlaysUptoRow : OpenClaim := { program := "ytpiolgpfhplhcaa", sum := "c2a0d0348dd741a40ef0a8086e850dc26a212840c77a11043d54165e31662de1", func := "treadwheel/treadwheellaw22.HeartsPlays", spec := "heartsPlays", unfollowed := true, recurses := true, apart := false, narrowed := true }
def HeartsPlaysUptoSaid : Prop := heartsPlaysUptoRow.holds Try.pinned (OpenSpec.upto heartsPlaysSpec)

/-- 'treadwheellaw22.HeartsGone', WHERE WHAT IT READS IS OF BULK AT MOST 1048576: true; the input reads as it did. -/
def heartsGoneUptoRow : OpenClaim := { program := "ytpiolgpfhplhcaa", sum := "c2a0d0348dd741a40ef0a8086e850dc26a212840c77a11043d54165e31662de1", func := "treadwheel/treadwheellaw22.HeartsGone", spec := "heartsGone", unfollowed := true, recurses := true, apart := false, narrowed := true }
def HeartsGoneUptoSaid : Prop := heartsGoneUptoRow.holds Try.pinned (OpenSpec.upto heartsGoneSpec)

/-- 'treadwheellaw22.HeartsKnown', WHERE WHAT IT READS IS OF BULK AT MOST 1048576: true; the input reads as it did. -/
def heartsKnownUptoRow : OpenClaim := { program := "ytpiolgpfhplhcaa", sum := "c2a0d0348dd741a40ef0a8086e850dc26a212840c77a11043d54165e31662de1", func := "treadwheel/treadwheellaw22.HeartsKnown", spec := "heartsKnown", unfollowed := true, recurses := true, apart := false, narrowed := true }
def HeartsKnownUptoSaid : Prop := heartsKnownUptoRow.holds Try.pinned (OpenSpec.upto heartsKnownSpec)

/-- 'treadwheellaw22.HeartsApart', WHERE WHAT IT READS IS OF BULK AT MOST 1048576: true; the input reads as it did. -/
def heartsApartUptoRow : OpenClaim := { program := "ytpiolgpfhplhcaa", sum := "c2a0d0348dd741a40ef0a8086e850dc26a212840c77a11043d54165e31662de1", func := "treadwheel/treadwheellaw22.HeartsApart", spec := "heartsApart", unfollowed := true, recurses := true, apart := false, narrowed := true }
def HeartsApartUptoSaid : Prop := heartsApartUptoRow.holds Try.pinned (OpenSpec.upto heartsApartSpec)

/-- 'treadwheellaw22.HeartsRise', WHERE WHAT IT READS IS OF BULK AT MOST 1048576: true; the input reads as it did. -/
def heartsRiseUptoRow : OpenClaim := { program := "ytpiolgpfhplhcaa", sum := "c2a0d0348dd741a40ef0a8086e850dc26a212840c77a11043d54165e31662de1", func := "treadwheel/treadwheellaw22.HeartsRise", spec := "heartsRise", unfollowed := true, recurses := true, apart := false, narrowed := true }
def HeartsRiseUptoSaid : Prop := heartsRiseUptoRow.holds Try.pinned (OpenSpec.upto heartsRiseSpec)

end Rows
end Go.Proofs.Ytpiolgpfhplhcaa
