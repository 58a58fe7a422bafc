/-
  No cell of these rows narrows 'for every input' (looked for: loops, veiled, ifaces, maps, wideKeys, modest, calm, conditions, laid).
  DERIVED. THE GIVEN ROWS OF THIS SEAT. 5 by the template 'for every input the law returns true; each argument reads behind the call as it read before'; 0 by the template 'total and deterministic' (their statements: YtoofnjoipgkfbaaTotals.lean).
  GIVEN WITH THE SEED: the statements are not yours to turn. If you find one false, say at which input.
  Laid BY PROGRAM, IN A SANDBOX (cutbox-rows.mjs): the forced cells as the released guide's own fill.sh prints them over the translation fdd72948804a45a8… (all of the seat's roots in one cut). By AI agents, Wed Nov 11 2026. No macro, syntax, notation, axiom, sorry.
-/
import Derived.Test.YtoofnjoipgkfbaaChecked
import GoSem.Claim
import GoSem.ClaimJoined
import GoSem.ClaimMapViews
import Derived.JoinedTies
import Derived.KernelRfl
namespace Go.Proofs.Ytoofnjoipgkfbaa
/- THE CELL 'sum', in the pinned program and in every row, IS THE sha256 OF THE DUMP (.gsa) THAT YtoofnjoipgkfbaaProg.lean LOADS. Nothing in Lean hashes anything: it is a label: what it is worth is what the hold of that sum in a sandbox is worth. -/
noncomputable def Try.pinned : Pinned := { name := "ytoofnjoipgkfbaa", sum := "fdd72948804a45a8da8236253dd196c5f0a8bc4b59a7e20229e112f8e46f8731", checked := Try.checked }
namespace Rows
def none {H : Type} : Left H := { results := [], args := [] }

/-- 'tidewalklaw04.DrawsKnown': WHATEVER THE INPUT: true; the input reads as it did. -/
def drawsKnownSpec : ChangeSpec := { name := "drawsKnown", fn := fun _ => fun
  | [] => { results := [.lit (.bool true)], args := [] }
  | _ => none }
def drawsKnownRow : OpenClaim := { program := "ytoofnjoipgkfbaa", sum := "fdd72948804a45a8da8236253dd196c5f0a8bc4b59a7e20229e112f8e46f8731", func := "tidewalk/tidewalklaw04.DrawsKnown", spec := "drawsKnown", apart := false }
def DrawsKnownSaid : Prop := drawsKnownRow.holds Try.pinned (OpenSpec.ofChange drawsKnownSpec)

/-- ITS FALSE NEIGHBOUR: 'it returns false'. Refute it at one input. -/
def drawsKnownWrong : ChangeSpec := { name := "drawsKnown", fn := fun _ => fun
  | [] => { results := [.lit (.bool false)], args := [] }
  | _ => none }
def DrawsKnownWrongFalsely : Prop := drawsKnownRow.holds Try.pinned (OpenSpec.ofChange drawsKnownWrong)

/-- 'tidewalklaw04.DrawsTell': WHATEVER THE INPUT: true; the input reads as it did. -/
def drawsTellSpec : ChangeSpec := { name := "drawsTell", fn := fun _ => fun
  | [d1, d2] => { results := [.lit (.bool true)], args := [d1, d2] }
  | _ => none }
def drawsTellRow : OpenClaim := { program := "ytoofnjoipgkfbaa", sum := "fdd72948804a45a8da8236253dd196c5f0a8bc4b59a7e20229e112f8e46f8731", func := "tidewalk/tidewalklaw04.DrawsTell", spec := "drawsTell", apart := false }
def DrawsTellSaid : Prop := drawsTellRow.holds Try.pinned (OpenSpec.ofChange drawsTellSpec)

/-- ITS FALSE NEIGHBOUR: 'it returns false'. Refute it at one input. -/
def drawsTellWrong : ChangeSpec := { name := "drawsTell", fn := fun _ => fun
  | [d1, d2] => { results := [.lit (.bool false)], args := [d1, d2] }
  | _ => none }
def DrawsTellWrongFalsely : Prop := drawsTellRow.holds Try.pinned (OpenSpec.ofChange drawsTellWrong)

/-- 'tidewalklaw04.DrawsNobody': WHATEVER THE INPUT: true; the input reads as it did. -/
def drawsNobodySpec : ChangeSpec := { name := "drawsNobody", fn := fun _ => fun
  | [d] => { results := [.lit (.bool true)], args := [d] }
  | _ => none }
def drawsNobodyRow : OpenClaim := { program := "ytoofnjoipgkfbaa", sum := "fdd72948804a45a8da8236253dd196c5f0a8bc4b59a7e20229e112f8e46f8731", func := "tidewalk/tidewalklaw04.DrawsNobody", spec := "drawsNobody", apart := false }
def DrawsNobodySaid : Prop := drawsNobodyRow.holds Try.pinned (OpenSpec.ofChange drawsNobodySpec)

/-- ITS FALSE NEIGHBOUR: 'it returns false'. Refute it at one input. -/
def drawsNobodyWrong : ChangeSpec := { name := "drawsNobody", fn := fun _ => fun
  | [d] => { results := [.lit (.bool false)], args := [d] }
  | _ => none }
def DrawsNobodyWrongFalsely : Prop := drawsNobodyRow.holds Try.pinned (OpenSpec.ofChange drawsNobodyWrong)

/-- 'tidewalklaw04.DrawsBehind': WHATEVER THE INPUT: true; the input reads as it did. -/
def drawsBehindSpec : ChangeSpec := { name := "drawsBehind", fn := fun _ => fun
  | [d1, d2] => { results := [.lit (.bool true)], args := [d1, d2] }
  | _ => none }
def drawsBehindRow : OpenClaim := { program := "ytoofnjoipgkfbaa", sum := "fdd72948804a45a8da8236253dd196c5f0a8bc4b59a7e20229e112f8e46f8731", func := "tidewalk/tidewalklaw04.DrawsBehind", spec := "drawsBehind", apart := false }
def DrawsBehindSaid : Prop := drawsBehindRow.holds Try.pinned (OpenSpec.ofChange drawsBehindSpec)

/-- ITS FALSE NEIGHBOUR: 'it returns false'. Refute it at one input. -/
def drawsBehindWrong : ChangeSpec := { name := "drawsBehind", fn := fun _ => fun
  | [d1, d2] => { results := [.lit (.bool false)], args := [d1, d2] }
  | _ => none }
def DrawsBehindWrongFalsely : Prop := drawsBehindRow.holds Try.pinned (OpenSpec.ofChange drawsBehindWrong)

/-- 'tidewalklaw04.DrawsTwo': WHATEVER THE INPUT: true; the input reads as it did. -/
def drawsTwoSpec : ChangeSpec := { name := "drawsTwo", fn := fun _ => fun
  | [d1, d2] => { results := [.lit (.bool true)], args := [d1, d2] }
  | _ => none }
def drawsTwoRow : OpenClaim := { program := "ytoofnjoipgkfbaa", sum := "fdd72948804a45a8da8236253dd196c5f0a8bc4b59a7e20229e112f8e46f8731", func := "tidewalk/tidewalklaw04.DrawsTwo", spec := "drawsTwo", apart := false }
def DrawsTwoSaid : Prop := drawsTwoRow.holds Try.pinned (OpenSpec.ofChange drawsTwoSpec)

/-- ITS FALSE NEIGHBOUR: 'it returns false'. Refute it at one input. -/
def drawsTwoWrong : ChangeSpec := { name := "drawsTwo", fn := fun _ => fun
  | [d1, d2] => { results := [.lit (.bool false)], args := [d1, d2] }
  | _ => none }
def DrawsTwoWrongFalsely : Prop := drawsTwoRow.holds Try.pinned (OpenSpec.ofChange drawsTwoWrong)

/- THE SECOND FORM. 'bulk': how many values and letters a reading holds, each counted each time it is reached (what is shared counts as often as it is met; a slice's spare places count too). A statement '..UptoSaid' is the law's where the arguments, and the package variables that the reading takes, are together of bulk at most 1048576: NARROWER than '..Said'. Prove '..Said' where nothing that the law and all that it calls make is longer than what came in: it says more and counts as full. Else prove '..UptoSaid'. A law counts once. -/
mutual
def uptoBulk {H : Type} : DataW H → Nat
  | .lit (.string bytes) => bytes.length + 1
  | .lit _ => 1
  | .nil => 1
  | .ptr d => uptoBulk d + 1
  | .slice elems spare => uptoBulkAll elems + uptoBulkAll spare + 1
  | .agg parts => uptoBulkAll parts + 1
  | .iface _ d => uptoBulk d + 1
  | .map entries => uptoBulkEntries entries + 1
  | .held _ => 1
def uptoBulkAll {H : Type} : List (DataW H) → Nat
  | [] => 0
  | d :: r => uptoBulk d + uptoBulkAll r
def uptoBulkEntries {H : Type} : List (Lit × DataW H) → Nat
  | [] => 0
  | x :: r => uptoBulkEntry x + uptoBulkEntries r
def uptoBulkEntry {H : Type} : Lit × DataW H → Nat
  | (.string bytes, d) => bytes.length + uptoBulk d + 1
  | (_, d) => uptoBulk d + 1
 end
def uptoSmall : (H : Type) → List (DataW H) → Bool := fun _ ds => decide (uptoBulkAll ds ≤ 1048576)
def OpenSpec.upto (s : _root_.Go.ChangeSpec) : _root_.Go.OpenSpec := { _root_.Go.OpenSpec.ofChange s with cond := some uptoSmall }

/-- 'tidewalklaw04.DrawsKnown', WHERE WHAT IT READS IS OF BULK AT MOST 1048576: true; the input reads as it did. -/
def drawsKnownUptoRow : OpenClaim := { program := "ytoofnjoipgkfbaa", sum := "fdd72948804a45a8da8236253dd196c5f0a8bc4b59a7e20229e112f8e46f8731", func := "tidewalk/tidewalklaw04.DrawsKnown", spec := "drawsKnown", apart := false, narrowed := true }
def DrawsKnownUptoSaid : Prop := drawsKnownUptoRow.holds Try.pinned (OpenSpec.upto drawsKnownSpec)

/-- 'tidewalklaw04.DrawsTell', WHERE WHAT IT READS IS OF BULK AT MOST 1048576: true; the input reads as it did. -/
def drawsTellUptoRow : OpenClaim := { program := "ytoofnjoipgkfbaa", sum := "fdd72948804a45a8da8236253dd196c5f0a8bc4b59a7e20229e112f8e46f8731", func := "tidewalk/tidewalklaw04.DrawsTell", spec := "drawsTell", apart := false, narrowed := true }
def DrawsTellUptoSaid : Prop := drawsTellUptoRow.holds Try.pinned (OpenSpec.upto drawsTellSpec)

/-- 'tidewalklaw04.DrawsNobody', WHERE WHAT IT READS IS OF BULK AT MOST 1048576: true; the input reads as it did. -/
def drawsNobodyUptoRow : OpenClaim := { program := "ytoofnjoipgkfbaa", sum := "fdd72948804a45a8da8236253dd196c5f0a8bc4b59a7e20229e112f8e46f8731", func := "tidewalk/tidewalklaw04.DrawsNobody", spec := "drawsNobody", apart := false, narrowed := true }
def DrawsNobodyUptoSaid : Prop := drawsNobodyUptoRow.holds Try.pinned (OpenSpec.upto drawsNobodySpec)

/-- 'tidewalklaw04.DrawsBehind', WHERE WHAT IT READS IS OF BULK AT MOST 1048576: true; the input reads as it did. -/
def drawsBehindUptoRow : OpenClaim := { program := "ytoofnjoipgkfbaa", sum := "fdd72948804a45a8da8236253dd196c5f0a8bc4b59a7e20229e112f8e46f8731", func := "tidewalk/tidewalklaw04.DrawsBehind", spec := "drawsBehind", apart := false, narrowed := true }
def DrawsBehindUptoSaid : Prop := drawsBehindUptoRow.holds Try.pinned (OpenSpec.upto drawsBehindSpec)

/-- 'tidewalklaw04.DrawsTwo', WHERE WHAT IT READS IS OF BULK AT MOST 1048576: true; the input reads as it did. -/
def drawsTwoUptoRow : OpenClaim := { program := "ytoofnjoipgkfbaa", sum := "fdd72948804a45a8da8236253dd196c5f0a8bc4b59a7e20229e112f8e46f8731", func := "tidewalk/tidewalklaw04.DrawsTwo", spec := "drawsTwo", apart := false, narrowed := true }
def DrawsTwoUptoSaid : Prop := drawsTwoUptoRow.holds Try.pinned (OpenSpec.upto drawsTwoSpec)

end Rows
end Go.Proofs.Ytoofnjoipgkfbaa
