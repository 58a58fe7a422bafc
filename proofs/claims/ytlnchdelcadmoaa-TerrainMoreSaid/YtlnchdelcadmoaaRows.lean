/-
  No cell of these rows narrows 'for every input' (looked for: loops, veiled, ifaces, maps, wideKeys, modest, calm, conditions, laid).
  DERIVED. THE GIVEN ROWS OF THIS SEAT. 7 by the template 'for every input the law returns true; each argument reads behind the call as it read before'; 0 by the template 'total and deterministic' (their statements: YtlnchdelcadmoaaTotals.lean).
  GIVEN WITH THE SEED: the statements are not yours to turn. If you find one false, say at which input.
  Laid BY PROGRAM, IN A SANDBOX (cutbox-rows.mjs): the forced cells as the released guide's own fill.sh prints them over the translation 88f46518e3e4f8d7… (all of the seat's roots in one cut). By AI agents, Wed Nov 11 2026. No macro, syntax, notation, axiom, sorry.
-/
import Derived.Test.YtlnchdelcadmoaaChecked
import GoSem.Claim
import GoSem.ClaimJoined
import GoSem.ClaimMapViews
import Derived.JoinedTies
import Derived.KernelRfl
namespace Go.Proofs.Ytlnchdelcadmoaa
/- THE CELL 'sum', in the pinned program and in every row, IS THE sha256 OF THE DUMP (.gsa) THAT YtlnchdelcadmoaaProg.lean LOADS. Nothing in Lean hashes anything: it is a label: what it is worth is what the hold of that sum in a sandbox is worth. -/
noncomputable def Try.pinned : Pinned := { name := "ytlnchdelcadmoaa", sum := "88f46518e3e4f8d73e2f9507a012471f88266539652556bd10fb7c50bc21419b", checked := Try.checked }
namespace Rows
def none {H : Type} : Left H := { results := [], args := [] }

/-- 'tidewalklaw02.TerrainKnown': WHATEVER THE INPUT: true; the input reads as it did. -/
def terrainKnownSpec : ChangeSpec := { name := "terrainKnown", fn := fun _ => fun
  | [] => { results := [.lit (.bool true)], args := [] }
  | _ => none }
def terrainKnownRow : OpenClaim := { program := "ytlnchdelcadmoaa", sum := "88f46518e3e4f8d73e2f9507a012471f88266539652556bd10fb7c50bc21419b", func := "tidewalk/tidewalklaw02.TerrainKnown", spec := "terrainKnown", apart := false }
def TerrainKnownSaid : Prop := terrainKnownRow.holds Try.pinned (OpenSpec.ofChange terrainKnownSpec)

/-- ITS FALSE NEIGHBOUR: 'it returns false'. Refute it at one input. -/
def terrainKnownWrong : ChangeSpec := { name := "terrainKnown", fn := fun _ => fun
  | [] => { results := [.lit (.bool false)], args := [] }
  | _ => none }
def TerrainKnownWrongFalsely : Prop := terrainKnownRow.holds Try.pinned (OpenSpec.ofChange terrainKnownWrong)

/-- 'tidewalklaw02.TerrainTells': WHATEVER THE INPUT: true; the input reads as it did. -/
def terrainTellsSpec : ChangeSpec := { name := "terrainTells", fn := fun _ => fun
  | [d1, d2, d3, d4] => { results := [.lit (.bool true)], args := [d1, d2, d3, d4] }
  | _ => none }
def terrainTellsRow : OpenClaim := { program := "ytlnchdelcadmoaa", sum := "88f46518e3e4f8d73e2f9507a012471f88266539652556bd10fb7c50bc21419b", func := "tidewalk/tidewalklaw02.TerrainTells", spec := "terrainTells", apart := false }
def TerrainTellsSaid : Prop := terrainTellsRow.holds Try.pinned (OpenSpec.ofChange terrainTellsSpec)

/-- ITS FALSE NEIGHBOUR: 'it returns false'. Refute it at one input. -/
def terrainTellsWrong : ChangeSpec := { name := "terrainTells", fn := fun _ => fun
  | [d1, d2, d3, d4] => { results := [.lit (.bool false)], args := [d1, d2, d3, d4] }
  | _ => none }
def TerrainTellsWrongFalsely : Prop := terrainTellsRow.holds Try.pinned (OpenSpec.ofChange terrainTellsWrong)

/-- 'tidewalklaw02.TerrainNobody': WHATEVER THE INPUT: true; the input reads as it did. -/
def terrainNobodySpec : ChangeSpec := { name := "terrainNobody", fn := fun _ => fun
  | [d1, d2] => { results := [.lit (.bool true)], args := [d1, d2] }
  | _ => none }
def terrainNobodyRow : OpenClaim := { program := "ytlnchdelcadmoaa", sum := "88f46518e3e4f8d73e2f9507a012471f88266539652556bd10fb7c50bc21419b", func := "tidewalk/tidewalklaw02.TerrainNobody", spec := "terrainNobody", apart := false }
def TerrainNobodySaid : Prop := terrainNobodyRow.holds Try.pinned (OpenSpec.ofChange terrainNobodySpec)

/-- ITS FALSE NEIGHBOUR: 'it returns false'. Refute it at one input. -/
def terrainNobodyWrong : ChangeSpec := { name := "terrainNobody", fn := fun _ => fun
  | [d1, d2] => { results := [.lit (.bool false)], args := [d1, d2] }
  | _ => none }
def TerrainNobodyWrongFalsely : Prop := terrainNobodyRow.holds Try.pinned (OpenSpec.ofChange terrainNobodyWrong)

/-- 'tidewalklaw02.TerrainAgain': WHATEVER THE INPUT: true; the input reads as it did. -/
def terrainAgainSpec : ChangeSpec := { name := "terrainAgain", fn := fun _ => fun
  | [d1, d2] => { results := [.lit (.bool true)], args := [d1, d2] }
  | _ => none }
def terrainAgainRow : OpenClaim := { program := "ytlnchdelcadmoaa", sum := "88f46518e3e4f8d73e2f9507a012471f88266539652556bd10fb7c50bc21419b", func := "tidewalk/tidewalklaw02.TerrainAgain", spec := "terrainAgain", apart := false }
def TerrainAgainSaid : Prop := terrainAgainRow.holds Try.pinned (OpenSpec.ofChange terrainAgainSpec)

/-- ITS FALSE NEIGHBOUR: 'it returns false'. Refute it at one input. -/
def terrainAgainWrong : ChangeSpec := { name := "terrainAgain", fn := fun _ => fun
  | [d1, d2] => { results := [.lit (.bool false)], args := [d1, d2] }
  | _ => none }
def TerrainAgainWrongFalsely : Prop := terrainAgainRow.holds Try.pinned (OpenSpec.ofChange terrainAgainWrong)

/-- 'tidewalklaw02.TerrainMore': WHATEVER THE INPUT: true; the input reads as it did. -/
def terrainMoreSpec : ChangeSpec := { name := "terrainMore", fn := fun _ => fun
  | [d1, d2, d3, d4] => { results := [.lit (.bool true)], args := [d1, d2, d3, d4] }
  | _ => none }
def terrainMoreRow : OpenClaim := { program := "ytlnchdelcadmoaa", sum := "88f46518e3e4f8d73e2f9507a012471f88266539652556bd10fb7c50bc21419b", func := "tidewalk/tidewalklaw02.TerrainMore", spec := "terrainMore", apart := false }
def TerrainMoreSaid : Prop := terrainMoreRow.holds Try.pinned (OpenSpec.ofChange terrainMoreSpec)

/-- ITS FALSE NEIGHBOUR: 'it returns false'. Refute it at one input. -/
def terrainMoreWrong : ChangeSpec := { name := "terrainMore", fn := fun _ => fun
  | [d1, d2, d3, d4] => { results := [.lit (.bool false)], args := [d1, d2, d3, d4] }
  | _ => none }
def TerrainMoreWrongFalsely : Prop := terrainMoreRow.holds Try.pinned (OpenSpec.ofChange terrainMoreWrong)

/-- 'tidewalklaw02.TerrainBits': WHATEVER THE INPUT: true; the input reads as it did. -/
def terrainBitsSpec : ChangeSpec := { name := "terrainBits", fn := fun _ => fun
  | [d1, d2] => { results := [.lit (.bool true)], args := [d1, d2] }
  | _ => none }
def terrainBitsRow : OpenClaim := { program := "ytlnchdelcadmoaa", sum := "88f46518e3e4f8d73e2f9507a012471f88266539652556bd10fb7c50bc21419b", func := "tidewalk/tidewalklaw02.TerrainBits", spec := "terrainBits", apart := false }
def TerrainBitsSaid : Prop := terrainBitsRow.holds Try.pinned (OpenSpec.ofChange terrainBitsSpec)

/-- ITS FALSE NEIGHBOUR: 'it returns false'. Refute it at one input. -/
def terrainBitsWrong : ChangeSpec := { name := "terrainBits", fn := fun _ => fun
  | [d1, d2] => { results := [.lit (.bool false)], args := [d1, d2] }
  | _ => none }
def TerrainBitsWrongFalsely : Prop := terrainBitsRow.holds Try.pinned (OpenSpec.ofChange terrainBitsWrong)

/-- 'tidewalklaw02.TerrainSwaps': WHATEVER THE INPUT: true; the input reads as it did. -/
def terrainSwapsSpec : ChangeSpec := { name := "terrainSwaps", fn := fun _ => fun
  | [d1, d2] => { results := [.lit (.bool true)], args := [d1, d2] }
  | _ => none }
def terrainSwapsRow : OpenClaim := { program := "ytlnchdelcadmoaa", sum := "88f46518e3e4f8d73e2f9507a012471f88266539652556bd10fb7c50bc21419b", func := "tidewalk/tidewalklaw02.TerrainSwaps", spec := "terrainSwaps", apart := false }
def TerrainSwapsSaid : Prop := terrainSwapsRow.holds Try.pinned (OpenSpec.ofChange terrainSwapsSpec)

/-- ITS FALSE NEIGHBOUR: 'it returns false'. Refute it at one input. -/
def terrainSwapsWrong : ChangeSpec := { name := "terrainSwaps", fn := fun _ => fun
  | [d1, d2] => { results := [.lit (.bool false)], args := [d1, d2] }
  | _ => none }
def TerrainSwapsWrongFalsely : Prop := terrainSwapsRow.holds Try.pinned (OpenSpec.ofChange terrainSwapsWrong)

/- THE SECOND FORM. 'bulk': how many values and letters a reading holds, each counted each time it is reached (what is shared counts as often as it is met; a slice's spare places count too). A statement '..UptoSaid' is the law's where the arguments, and the package variables that the reading takes, are together of bulk at most 1048576: NARROWER than '..Said'. Prove '..Said' where nothing that the law and all that it calls make is longer than what came in: it says more and counts as full. Else prove '..UptoSaid'. A law counts once. -/
mutual
def uptoBulk {H : Type} : DataW H → Nat
  | .lit (.string bytes) => bytes.length + 1
  | .lit _ => 1
  | .nil => 1
  | .ptr d => uptoBulk d + 1
  | .slice elems spare => uptoBulkAll elems + uptoBulkAll spare + 1
  | .agg parts => uptoBulkAll parts + 1
  | .iface _ d => uptoBulk d + 1
  | .map entries => uptoBulkEntries entries + 1
  | .held _ => 1
def uptoBulkAll {H : Type} : List (DataW H) → Nat
  | [] => 0
  | d :: r => uptoBulk d + uptoBulkAll r
def uptoBulkEntries {H : Type} : List (Lit × DataW H) → Nat
  | [] => 0
  | x :: r => uptoBulkEntry x + uptoBulkEntries r
def uptoBulkEntry {H : Type} : Lit × DataW H → Nat
  | (.string bytes, d) => bytes.length + uptoBulk d + 1
  | (_, d) => uptoBulk d + 1
 end
def uptoSmall : (H : Type) → List (DataW H) → Bool := fun _ ds => decide (uptoBulkAll ds ≤ 1048576)
def OpenSpec.upto (s : _root_.Go.ChangeSpec) : _root_.Go.OpenSpec := { _root_.Go.OpenSpec.ofChange s with cond := some uptoSmall }

/-- 'tidewalklaw02.TerrainKnown', WHERE WHAT IT READS IS OF BULK AT MOST 1048576: true; the input reads as it did. -/
def terrainKnownUptoRow : OpenClaim := { program := "ytlnchdelcadmoaa", sum := "88f46518e3e4f8d73e2f9507a012471f88266539652556bd10fb7c50bc21419b", func := "tidewalk/tidewalklaw02.TerrainKnown", spec := "terrainKnown", apart := false, narrowed := true }
def TerrainKnownUptoSaid : Prop := terrainKnownUptoRow.holds Try.pinned (OpenSpec.upto terrainKnownSpec)

/-- 'tidewalklaw02.TerrainTells', WHERE WHAT IT READS IS OF BULK AT MOST 1048576: true; the input reads as it did. -/
def terrainTellsUptoRow : OpenClaim := { program := "ytlnchdelcadmoaa", sum := "88f46518e3e4f8d73e2f9507a012471f88266539652556bd10fb7c50bc21419b", func := "tidewalk/tidewalklaw02.TerrainTells", spec := "terrainTells", apart := false, narrowed := true }
def TerrainTellsUptoSaid : Prop := terrainTellsUptoRow.holds Try.pinned (OpenSpec.upto terrainTellsSpec)

/-- 'tidewalklaw02.TerrainNobody', WHERE WHAT IT READS IS OF BULK AT MOST 1048576: true; the input reads as it did. -/
def terrainNobodyUptoRow : OpenClaim := { program := "ytlnchdelcadmoaa", sum := "88f46518e3e4f8d73e2f9507a012471f88266539652556bd10fb7c50bc21419b", func := "tidewalk/tidewalklaw02.TerrainNobody", spec := "terrainNobody", apart := false, narrowed := true }
def TerrainNobodyUptoSaid : Prop := terrainNobodyUptoRow.holds Try.pinned (OpenSpec.upto terrainNobodySpec)

/-- 'tidewalklaw02.TerrainAgain', WHERE WHAT IT READS IS OF BULK AT MOST 1048576: true; the input reads as it did. -/
def terrainAgainUptoRow : OpenClaim := { program := "ytlnchdelcadmoaa", sum := "88f46518e3e4f8d73e2f9507a012471f88266539652556bd10fb7c50bc21419b", func := "tidewalk/tidewalklaw02.TerrainAgain", spec := "terrainAgain", apart := false, narrowed := true }
def TerrainAgainUptoSaid : Prop := terrainAgainUptoRow.holds Try.pinned (OpenSpec.upto terrainAgainSpec)

/-- 'tidewalklaw02.TerrainMore', WHERE WHAT IT READS IS OF BULK AT MOST 1048576: true; the input reads as it did. -/
def terrainMoreUptoRow : OpenClaim := { program := "ytlnchdelcadmoaa", sum := "88f46518e3e4f8d73e2f9507a012471f88266539652556bd10fb7c50bc21419b", func := "tidewalk/tidewalklaw02.TerrainMore", spec := "terrainMore", apart := false, narrowed := true }
def TerrainMoreUptoSaid : Prop := terrainMoreUptoRow.holds Try.pinned (OpenSpec.upto terrainMoreSpec)

/-- 'tidewalklaw02.TerrainBits', WHERE WHAT IT READS IS OF BULK AT MOST 1048576: true; the input reads as it did. -/
def terrainBitsUptoRow : OpenClaim := { program := "ytlnchdelcadmoaa", sum := "88f46518e3e4f8d73e2f9507a012471f88266539652556bd10fb7c50bc21419b", func := "tidewalk/tidewalklaw02.TerrainBits", spec := "terrainBits", apart := false, narrowed := true }
def TerrainBitsUptoSaid : Prop := terrainBitsUptoRow.holds Try.pinned (OpenSpec.upto terrainBitsSpec)

/-- 'tidewalklaw02.TerrainSwaps', WHERE WHAT IT READS IS OF BULK AT MOST 1048576: true; the input reads as it did. -/
def terrainSwapsUptoRow : OpenClaim := { program := "ytlnchdelcadmoaa", sum := "88f46518e3e4f8d73e2f9507a012471f88266539652556bd10fb7c50bc21419b", func := "tidewalk/tidewalklaw02.TerrainSwaps", spec := "terrainSwaps", apart := false, narrowed := true }
def TerrainSwapsUptoSaid : Prop := terrainSwapsUptoRow.holds Try.pinned (OpenSpec.upto terrainSwapsSpec)

end Rows
end Go.Proofs.Ytlnchdelcadmoaa
