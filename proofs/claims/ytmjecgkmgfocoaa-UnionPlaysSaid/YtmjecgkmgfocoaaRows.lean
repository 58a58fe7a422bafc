/-
  No cell of these rows narrows 'for every input' (looked for: loops, veiled, ifaces, maps, wideKeys, modest, calm, conditions, laid).
  DERIVED. THE GIVEN ROWS OF THIS SEAT. 6 by the template 'for every input the law returns true; each argument reads behind the call as it read before'; 0 by the template 'total and deterministic' (their statements: YtmjecgkmgfocoaaTotals.lean).
  GIVEN WITH THE SEED: the statements are not yours to turn. If you find one false, say at which input.
  Laid BY PROGRAM, IN A SANDBOX (cutbox-rows.mjs): the forced cells as the released guide's own fill.sh prints them over the translation 8f27e7b5d5a9187d… (all of the seat's roots in one cut). By AI agents, Wed Nov 11 2026. No macro, syntax, notation, axiom, sorry.
-/
import Derived.Test.YtmjecgkmgfocoaaChecked
import GoSem.Claim
import GoSem.ClaimJoined
import GoSem.ClaimMapViews
import Derived.JoinedTies
import Derived.KernelRfl
namespace Go.Proofs.Ytmjecgkmgfocoaa
/- THE CELL 'sum', in the pinned program and in every row, IS THE sha256 OF THE DUMP (.gsa) THAT YtmjecgkmgfocoaaProg.lean LOADS. Nothing in Lean hashes anything: it is a label: what it is worth is what the hold of that sum in a sandbox is worth. -/
noncomputable def Try.pinned : Pinned := { name := "ytmjecgkmgfocoaa", sum := "8f27e7b5d5a9187d542c3b335f0e0b5ae14e8d3a19aed911998816a1511804f2", checked := Try.checked }
namespace Rows
def none {H : Type} : Left H := { results := [], args := [] }

/-- 'tidewalklaw11.UnionKnown': WHATEVER THE INPUT: true; the input reads as it did. -/
def unionKnownSpec : ChangeSpec := { name := "unionKnown", fn := fun _ => fun
  | [] => { results := [.lit (.bool true)], args := [] }
  | _ => none }
def unionKnownRow : OpenClaim := { program := "ytmjecgkmgfocoaa", sum := "8f27e7b5d5a9187d542c3b335f0e0b5ae14e8d3a19aed911998816a1511804f2", func := "tidewalk/tidewalklaw11.UnionKnown", spec := "unionKnown", apart := false }
def UnionKnownSaid : Prop := unionKnownRow.holds Try.pinned (OpenSpec.ofChange unionKnownSpec)

/-- ITS FALSE NEIGHBOUR: 'it returns false'. Refute it at one input. -/
def unionKnownWrong : ChangeSpec := { name := "unionKnown", fn := fun _ => fun
  | [] => { results := [.lit (.bool false)], args := [] }
  | _ => none }
def UnionKnownWrongFalsely : Prop := unionKnownRow.holds Try.pinned (OpenSpec.ofChange unionKnownWrong)

/-- 'tidewalklaw11.UnionPlays': WHATEVER THE INPUT: true; the input reads as it did. -/
def unionPlaysSpec : ChangeSpec := { name := "unionPlays", fn := fun _ => fun
  | [d1, d2, d3] => { results := [.lit (.bool true)], args := [d1, d2, d3] }
  | _ => none }
def unionPlaysRow : OpenClaim := { program := "ytmjecgkmgfocoaa", sum := "8f27e7b5d5a9187d542c3b335f0e0b5ae14e8d3a19aed911998816a1511804f2", func := "tidewalk/tidewalklaw11.UnionPlays", spec := "unionPlays", apart := false }
def UnionPlaysSaid : Prop := unionPlaysRow.holds Try.pinned (OpenSpec.ofChange unionPlaysSpec)

/-- ITS FALSE NEIGHBOUR: 'it returns false'. Refute it at one input. -/
def unionPlaysWrong : ChangeSpec := { name := "unionPlays", fn := fun _ => fun
  | [d1, d2, d3] => { results := [.lit (.bool false)], args := [d1, d2, d3] }
  | _ => none }
def UnionPlaysWrongFalsely : Prop := unionPlaysRow.holds Try.pinned (OpenSpec.ofChange unionPlaysWrong)

/-- 'tidewalklaw11.UnionNobody': WHATEVER THE INPUT: true; the input reads as it did. -/
def unionNobodySpec : ChangeSpec := { name := "unionNobody", fn := fun _ => fun
  | [d1, d2] => { results := [.lit (.bool true)], args := [d1, d2] }
  | _ => none }
def unionNobodyRow : OpenClaim := { program := "ytmjecgkmgfocoaa", sum := "8f27e7b5d5a9187d542c3b335f0e0b5ae14e8d3a19aed911998816a1511804f2", func := "tidewalk/tidewalklaw11.UnionNobody", spec := "unionNobody", apart := false }
def UnionNobodySaid : Prop := unionNobodyRow.holds Try.pinned (OpenSpec.ofChange unionNobodySpec)

/-- ITS FALSE NEIGHBOUR: 'it returns false'. Refute it at one input. -/
def unionNobodyWrong : ChangeSpec := { name := "unionNobody", fn := fun _ => fun
  | [d1, d2] => { results := [.lit (.bool false)], args := [d1, d2] }
  | _ => none }
def UnionNobodyWrongFalsely : Prop := unionNobodyRow.holds Try.pinned (OpenSpec.ofChange unionNobodyWrong)

/-- 'tidewalklaw11.UnionOrder': WHATEVER THE INPUT: true; the input reads as it did. -/
def unionOrderSpec : ChangeSpec := { name := "unionOrder", fn := fun _ => fun
  | [d1, d2] => { results := [.lit (.bool true)], args := [d1, d2] }
  | _ => none }
def unionOrderRow : OpenClaim := { program := "ytmjecgkmgfocoaa", sum := "8f27e7b5d5a9187d542c3b335f0e0b5ae14e8d3a19aed911998816a1511804f2", func := "tidewalk/tidewalklaw11.UnionOrder", spec := "unionOrder", apart := false }
def UnionOrderSaid : Prop := unionOrderRow.holds Try.pinned (OpenSpec.ofChange unionOrderSpec)

/-- ITS FALSE NEIGHBOUR: 'it returns false'. Refute it at one input. -/
def unionOrderWrong : ChangeSpec := { name := "unionOrder", fn := fun _ => fun
  | [d1, d2] => { results := [.lit (.bool false)], args := [d1, d2] }
  | _ => none }
def UnionOrderWrongFalsely : Prop := unionOrderRow.holds Try.pinned (OpenSpec.ofChange unionOrderWrong)

/-- 'tidewalklaw11.UnionLeads': WHATEVER THE INPUT: true; the input reads as it did. -/
def unionLeadsSpec : ChangeSpec := { name := "unionLeads", fn := fun _ => fun
  | [d1, d2] => { results := [.lit (.bool true)], args := [d1, d2] }
  | _ => none }
def unionLeadsRow : OpenClaim := { program := "ytmjecgkmgfocoaa", sum := "8f27e7b5d5a9187d542c3b335f0e0b5ae14e8d3a19aed911998816a1511804f2", func := "tidewalk/tidewalklaw11.UnionLeads", spec := "unionLeads", unfollowed := true, recurses := true, apart := false }
def UnionLeadsSaid : Prop := unionLeadsRow.holds Try.pinned (OpenSpec.ofChange unionLeadsSpec)

/-- ITS FALSE NEIGHBOUR: 'it returns false'. Refute it at one input. -/
def unionLeadsWrong : ChangeSpec := { name := "unionLeads", fn := fun _ => fun
  | [d1, d2] => { results := [.lit (.bool false)], args := [d1, d2] }
  | _ => none }
def UnionLeadsWrongFalsely : Prop := unionLeadsRow.holds Try.pinned (OpenSpec.ofChange unionLeadsWrong)

/-- 'tidewalklaw11.UnionGrows': WHATEVER THE INPUT: true; the input reads as it did. -/
def unionGrowsSpec : ChangeSpec := { name := "unionGrows", fn := fun _ => fun
  | [d1, d2, d3] => { results := [.lit (.bool true)], args := [d1, d2, d3] }
  | _ => none }
def unionGrowsRow : OpenClaim := { program := "ytmjecgkmgfocoaa", sum := "8f27e7b5d5a9187d542c3b335f0e0b5ae14e8d3a19aed911998816a1511804f2", func := "tidewalk/tidewalklaw11.UnionGrows", spec := "unionGrows", apart := false }
def UnionGrowsSaid : Prop := unionGrowsRow.holds Try.pinned (OpenSpec.ofChange unionGrowsSpec)

/-- ITS FALSE NEIGHBOUR: 'it returns false'. Refute it at one input. -/
def unionGrowsWrong : ChangeSpec := { name := "unionGrows", fn := fun _ => fun
  | [d1, d2, d3] => { results := [.lit (.bool false)], args := [d1, d2, d3] }
  | _ => none }
def UnionGrowsWrongFalsely : Prop := unionGrowsRow.holds Try.pinned (OpenSpec.ofChange unionGrowsWrong)

/- THE SECOND FORM. 'bulk': how many values and letters a reading holds, each counted each time it is reached (what is shared counts as often as it is met; a slice's spare places count too). A statement '..UptoSaid' is the law's where the arguments, and the package variables that the reading takes, are together of bulk at most 1048576: NARROWER than '..Said'. Prove '..Said' where nothing that the law and all that it calls make is longer than what came in: it says more and counts as full. Else prove '..UptoSaid'. A law counts once. -/
mutual
def uptoBulk {H : Type} : DataW H → Nat
  | .lit (.string bytes) => bytes.length + 1
  | .lit _ => 1
  | .nil => 1
  | .ptr d => uptoBulk d + 1
  | .slice elems spare => uptoBulkAll elems + uptoBulkAll spare + 1
  | .agg parts => uptoBulkAll parts + 1
  | .iface _ d => uptoBulk d + 1
  | .map entries => uptoBulkEntries entries + 1
  | .held _ => 1
def uptoBulkAll {H : Type} : List (DataW H) → Nat
  | [] => 0
  | d :: r => uptoBulk d + uptoBulkAll r
def uptoBulkEntries {H : Type} : List (Lit × DataW H) → Nat
  | [] => 0
  | x :: r => uptoBulkEntry x + uptoBulkEntries r
def uptoBulkEntry {H : Type} : Lit × DataW H → Nat
  | (.string bytes, d) => bytes.length + uptoBulk d + 1
  | (_, d) => uptoBulk d + 1
 end
def uptoSmall : (H : Type) → List (DataW H) → Bool := fun _ ds => decide (uptoBulkAll ds ≤ 1048576)
def OpenSpec.upto (s : _root_.Go.ChangeSpec) : _root_.Go.OpenSpec := { _root_.Go.OpenSpec.ofChange s with cond := some uptoSmall }

/-- 'tidewalklaw11.UnionKnown', WHERE WHAT IT READS IS OF BULK AT MOST 1048576: true; the input reads as it did. -/
def unionKnownUptoRow : OpenClaim := { program := "ytmjecgkmgfocoaa", sum := "8f27e7b5d5a9187d542c3b335f0e0b5ae14e8d3a19aed911998816a1511804f2", func := "tidewalk/tidewalklaw11.UnionKnown", spec := "unionKnown", apart := false, narrowed := true }
def UnionKnownUptoSaid : Prop := unionKnownUptoRow.holds Try.pinned (OpenSpec.upto unionKnownSpec)

/-- 'tidewalklaw11.UnionPlays', WHERE WHAT IT READS IS OF BULK AT MOST 1048576: true; the input reads as it did. -/
def unionPlaysUptoRow : OpenClaim := { program := "ytmjecgkmgfocoaa", sum := "8f27e7b5d5a9187d542c3b335f0e0b5ae14e8d3a19aed911998816a1511804f2", func := "tidewalk/tidewalklaw11.UnionPlays", spec := "unionPlays", apart := false, narrowed := true }
def UnionPlaysUptoSaid : Prop := unionPlaysUptoRow.holds Try.pinned (OpenSpec.upto unionPlaysSpec)

/-- 'tidewalklaw11.UnionNobody', WHERE WHAT IT READS IS OF BULK AT MOST 1048576: true; the input reads as it did. -/
def unionNobodyUptoRow : OpenClaim := { program := "ytmjecgkmgfocoaa", sum := "8f27e7b5d5a9187d542c3b335f0e0b5ae14e8d3a19aed911998816a1511804f2", func := "tidewalk/tidewalklaw11.UnionNobody", spec := "unionNobody", apart := false, narrowed := true }
def UnionNobodyUptoSaid : Prop := unionNobodyUptoRow.holds Try.pinned (OpenSpec.upto unionNobodySpec)

/-- 'tidewalklaw11.UnionOrder', WHERE WHAT IT READS IS OF BULK AT MOST 1048576: true; the input reads as it did. -/
def unionOrderUptoRow : OpenClaim := { program := "ytmjecgkmgfocoaa", sum := "8f27e7b5d5a9187d542c3b335f0e0b5ae14e8d3a19aed911998816a1511804f2", func := "tidewalk/tidewalklaw11.UnionOrder", spec := "unionOrder", apart := false, narrowed := true }
def UnionOrderUptoSaid : Prop := unionOrderUptoRow.holds Try.pinned (OpenSpec.upto unionOrderSpec)

/-- 'tidewalklaw11.UnionLeads', WHERE WHAT IT READS IS OF BULK AT MOST 1048576: true; the input reads as it did. -/
def unionLeadsUptoRow : OpenClaim := { program := "ytmjecgkmgfocoaa", sum := "8f27e7b5d5a9187d542c3b335f0e0b5ae14e8d3a19aed911998816a1511804f2", func := "tidewalk/tidewalklaw11.UnionLeads", spec := "unionLeads", unfollowed := true, recurses := true, apart := false, narrowed := true }
def UnionLeadsUptoSaid : Prop := unionLeadsUptoRow.holds Try.pinned (OpenSpec.upto unionLeadsSpec)

/-- 'tidewalklaw11.UnionGrows', WHERE WHAT IT READS IS OF BULK AT MOST 1048576: true; the input reads as it did. -/
def unionGrowsUptoRow : OpenClaim := { program := "ytmjecgkmgfocoaa", sum := "8f27e7b5d5a9187d542c3b335f0e0b5ae14e8d3a19aed911998816a1511804f2", func := "tidewalk/tidewalklaw11.UnionGrows", spec := "unionGrows", apart := false, narrowed := true }
def UnionGrowsUptoSaid : Prop := unionGrowsUptoRow.holds Try.pinned (OpenSpec.upto unionGrowsSpec)

end Rows
end Go.Proofs.Ytmjecgkmgfocoaa
