/-
  No cell of these rows narrows 'for every input' (looked for: loops, veiled, ifaces, maps, wideKeys, modest, calm, conditions, laid).
  DERIVED. THE GIVEN ROWS OF THIS SEAT. 4 by the template 'for every input the law returns true; each argument reads behind the call as it read before'; 0 by the template 'total and deterministic' (their statements: YtmndgaibdcllgaaTotals.lean).
  GIVEN WITH THE SEED: the statements are not yours to turn. If you find one false, say at which input.
  Laid BY PROGRAM, IN A SANDBOX (cutbox-rows.mjs): the forced cells as the released guide's own fill.sh prints them over the translation c9c046586741d410… (all of the seat's roots in one cut). By AI agents, Wed Nov 11 2026. No macro, syntax, notation, axiom, sorry.
-/
import Derived.Test.YtmndgaibdcllgaaChecked
import GoSem.Claim
import GoSem.ClaimJoined
import GoSem.ClaimMapViews
import Derived.JoinedTies
import Derived.KernelRfl
namespace Go.Proofs.Ytmndgaibdcllgaa
/- THE CELL 'sum', in the pinned program and in every row, IS THE sha256 OF THE DUMP (.gsa) THAT YtmndgaibdcllgaaProg.lean LOADS. Nothing in Lean hashes anything: it is a label: what it is worth is what the hold of that sum in a sandbox is worth. -/
noncomputable def Try.pinned : Pinned := { name := "ytmndgaibdcllgaa", sum := "c9c046586741d4102355076b26662d3e0c8ae89d421eeff58bd15f9babf42851", checked := Try.checked }
namespace Rows
def none {H : Type} : Left H := { results := [], args := [] }

/-- 'tidewalklaw23.ReportKnown': WHATEVER THE INPUT: true; the input reads as it did. -/
def reportKnownSpec : ChangeSpec := { name := "reportKnown", fn := fun _ => fun
  | [] => { results := [.lit (.bool true)], args := [] }
  | _ => none }
def reportKnownRow : OpenClaim := { program := "ytmndgaibdcllgaa", sum := "c9c046586741d4102355076b26662d3e0c8ae89d421eeff58bd15f9babf42851", func := "tidewalk/tidewalklaw23.ReportKnown", spec := "reportKnown", apart := false }
def ReportKnownSaid : Prop := reportKnownRow.holds Try.pinned (OpenSpec.ofChange reportKnownSpec)

/-- ITS FALSE NEIGHBOUR: 'it returns false'. Refute it at one input. -/
def reportKnownWrong : ChangeSpec := { name := "reportKnown", fn := fun _ => fun
  | [] => { results := [.lit (.bool false)], args := [] }
  | _ => none }
def ReportKnownWrongFalsely : Prop := reportKnownRow.holds Try.pinned (OpenSpec.ofChange reportKnownWrong)

/-- 'tidewalklaw23.ReportTells': WHATEVER THE INPUT: true; the input reads as it did. -/
def reportTellsSpec : ChangeSpec := { name := "reportTells", fn := fun _ => fun
  | [d1, d2] => { results := [.lit (.bool true)], args := [d1, d2] }
  | _ => none }
def reportTellsRow : OpenClaim := { program := "ytmndgaibdcllgaa", sum := "c9c046586741d4102355076b26662d3e0c8ae89d421eeff58bd15f9babf42851", func := "tidewalk/tidewalklaw23.ReportTells", spec := "reportTells", apart := false }
def ReportTellsSaid : Prop := reportTellsRow.holds Try.pinned (OpenSpec.ofChange reportTellsSpec)

/-- ITS FALSE NEIGHBOUR: 'it returns false'. Refute it at one input. -/
def reportTellsWrong : ChangeSpec := { name := "reportTells", fn := fun _ => fun
  | [d1, d2] => { results := [.lit (.bool false)], args := [d1, d2] }
  | _ => none }
def ReportTellsWrongFalsely : Prop := reportTellsRow.holds Try.pinned (OpenSpec.ofChange reportTellsWrong)

/-- 'tidewalklaw23.ReportTwice': WHATEVER THE INPUT: true; the input reads as it did. -/
def reportTwiceSpec : ChangeSpec := { name := "reportTwice", fn := fun _ => fun
  | [d1, d2, d3] => { results := [.lit (.bool true)], args := [d1, d2, d3] }
  | _ => none }
def reportTwiceRow : OpenClaim := { program := "ytmndgaibdcllgaa", sum := "c9c046586741d4102355076b26662d3e0c8ae89d421eeff58bd15f9babf42851", func := "tidewalk/tidewalklaw23.ReportTwice", spec := "reportTwice", apart := false }
def ReportTwiceSaid : Prop := reportTwiceRow.holds Try.pinned (OpenSpec.ofChange reportTwiceSpec)

/-- ITS FALSE NEIGHBOUR: 'it returns false'. Refute it at one input. -/
def reportTwiceWrong : ChangeSpec := { name := "reportTwice", fn := fun _ => fun
  | [d1, d2, d3] => { results := [.lit (.bool false)], args := [d1, d2, d3] }
  | _ => none }
def ReportTwiceWrongFalsely : Prop := reportTwiceRow.holds Try.pinned (OpenSpec.ofChange reportTwiceWrong)

/-- 'tidewalklaw23.ReportNumbers': WHATEVER THE INPUT: true; the input reads as it did. -/
def reportNumbersSpec : ChangeSpec := { name := "reportNumbers", fn := fun _ => fun
  | [d1, d2] => { results := [.lit (.bool true)], args := [d1, d2] }
  | _ => none }
def reportNumbersRow : OpenClaim := { program := "ytmndgaibdcllgaa", sum := "c9c046586741d4102355076b26662d3e0c8ae89d421eeff58bd15f9babf42851", func := "tidewalk/tidewalklaw23.ReportNumbers", spec := "reportNumbers", apart := false }
def ReportNumbersSaid : Prop := reportNumbersRow.holds Try.pinned (OpenSpec.ofChange reportNumbersSpec)

/-- ITS FALSE NEIGHBOUR: 'it returns false'. Refute it at one input. -/
def reportNumbersWrong : ChangeSpec := { name := "reportNumbers", fn := fun _ => fun
  | [d1, d2] => { results := [.lit (.bool false)], args := [d1, d2] }
  | _ => none }
def ReportNumbersWrongFalsely : Prop := reportNumbersRow.holds Try.pinned (OpenSpec.ofChange reportNumbersWrong)

/- THE SECOND FORM. 'bulk': how many values and letters a reading holds, each counted each time it is reached (what is shared counts as often as it is met; a slice's spare places count too). A statement '..UptoSaid' is the law's where the arguments, and the package variables that the reading takes, are together of bulk at most 1048576: NARROWER than '..Said'. Prove '..Said' where nothing that the law and all that it calls make is longer than what came in: it says more and counts as full. Else prove '..UptoSaid'. A law counts once. -/
mutual
def uptoBulk {H : Type} : DataW H → Nat
  | .lit (.string bytes) => bytes.length + 1
  | .lit _ => 1
  | .nil => 1
  | .ptr d => uptoBulk d + 1
  | .slice elems spare => uptoBulkAll elems + uptoBulkAll spare + 1
  | .agg parts => uptoBulkAll parts + 1
  | .iface _ d => uptoBulk d + 1
  | .map entries => uptoBulkEntries entries + 1
  | .held _ => 1
def uptoBulkAll {H : Type} : List (DataW H) → Nat
  | [] => 0
  | d :: r => uptoBulk d + uptoBulkAll r
def uptoBulkEntries {H : Type} : List (Lit × DataW H) → Nat
  | [] => 0
  | x :: r => uptoBulkEntry x + uptoBulkEntries r
def uptoBulkEntry {H : Type} : Lit × DataW H → Nat
  | (.string bytes, d) => bytes.length + uptoBulk d + 1
  | (_, d) => uptoBulk d + 1
 end
def uptoSmall : (H : Type) → List (DataW H) → Bool := fun _ ds => decide (uptoBulkAll ds ≤ 1048576)
def OpenSpec.upto (s : _root_.Go.ChangeSpec) : _root_.Go.OpenSpec := { _root_.Go.OpenSpec.ofChange s with cond := some uptoSmall }

/-- 'tidewalklaw23.ReportKnown', WHERE WHAT IT READS IS OF BULK AT MOST 1048576: true; the input reads as it did. -/
def reportKnownUptoRow : OpenClaim := { program := "ytmndgaibdcllgaa", sum := "c9c046586741d4102355076b26662d3e0c8ae89d421eeff58bd15f9babf42851", func := "tidewalk/tidewalklaw23.ReportKnown", spec := "reportKnown", apart := false, narrowed := true }
def ReportKnownUptoSaid : Prop := reportKnownUptoRow.holds Try.pinned (OpenSpec.upto reportKnownSpec)

/-- 'tidewalklaw23.ReportTells', WHERE WHAT IT READS IS OF BULK AT MOST 1048576: true; the input reads as it did. -/
def reportTellsUptoRow : OpenClaim := { program := "ytmndgaibdcllgaa", sum := "c9c046586741d4102355076b26662d3e0c8ae89d421eeff58bd15f9babf42851", func := "tidewalk/tidewalklaw23.ReportTells", spec := "reportTells", apart := false, narrowed := true }
def ReportTellsUptoSaid : Prop := reportTellsUptoRow.holds Try.pinned (OpenSpec.upto reportTellsSpec)

/-- 'tidewalklaw23.ReportTwice', WHERE WHAT IT READS IS OF BULK AT MOST 1048576: true; the input reads as it did. -/
def reportTwiceUptoRow : OpenClaim := { program := "ytmndgaibdcllgaa", sum := "c9c046586741d4102355076b26662d3e0c8ae89d421eeff58bd15f9babf42851", func := "tidewalk/tidewalklaw23.ReportTwice", spec := "reportTwice", apart := false, narrowed := true }
def ReportTwiceUptoSaid : Prop := reportTwiceUptoRow.holds Try.pinned (OpenSpec.upto reportTwiceSpec)

/-- 'tidewalklaw23.ReportNumbers', WHERE WHAT IT READS IS OF BULK AT MOST 1048576: true; the input reads as it did. -/
def reportNumbersUptoRow : OpenClaim := { program := "ytmndgaibdcllgaa", sum := "c9c046586741d4102355076b26662d3e0c8ae89d421eeff58bd15f9babf42851", func := "tidewalk/tidewalklaw23.ReportNumbers", spec := "reportNumbers", apart := false, narrowed := true }
def ReportNumbersUptoSaid : Prop := reportNumbersUptoRow.holds Try.pinned (OpenSpec.upto reportNumbersSpec)

end Rows
end Go.Proofs.Ytmndgaibdcllgaa
