/-
  No cell of these rows narrows 'for every input' (looked for: loops, veiled, ifaces, maps, wideKeys, modest, calm, conditions, laid).
  DERIVED. THE GIVEN ROWS OF THIS SEAT. 5 by the template 'for every input the law returns true; each argument reads behind the call as it read before'; 0 by the template 'total and deterministic' (their statements: YtckimhfbbfpddaaTotals.lean).
  GIVEN WITH THE SEED: the statements are not yours to turn. If you find one false, say at which input.
  Laid BY PROGRAM, IN A SANDBOX (cutbox-rows.mjs): the forced cells as the released guide's own fill.sh prints them over the translation 1fd5aa4850796366… (all of the seat's roots in one cut). By AI agents, Wed Nov 11 2026. No macro, syntax, notation, axiom, sorry.
-/
import Derived.Test.YtckimhfbbfpddaaChecked
import GoSem.Claim
import GoSem.ClaimJoined
import GoSem.ClaimMapViews
import Derived.JoinedTies
import Derived.KernelRfl
namespace Go.Proofs.Ytckimhfbbfpddaa
/- THE CELL 'sum', in the pinned program and in every row, IS THE sha256 OF THE DUMP (.gsa) THAT YtckimhfbbfpddaaProg.lean LOADS. Nothing in Lean hashes anything: it is a label: what it is worth is what the hold of that sum in a sandbox is worth. -/
noncomputable def Try.pinned : Pinned := { name := "ytckimhfbbfpddaa", sum := "1fd5aa485079636694adc9a1354afe0c5e45cedb6f996ff61a82c5a8a744a4af", checked := Try.checked }
namespace Rows
def none {H : Type} : Left H := { results := [], args := [] }

/-- 'tidewalklaw05.ArenaKnown': WHATEVER THE INPUT: true; the input reads as it did. -/
def arenaKnownSpec : ChangeSpec := { name := "arenaKnown", fn := fun _ => fun
  | [] => { results := [.lit (.bool true)], args := [] }
  | _ => none }
def arenaKnownRow : OpenClaim := { program := "ytckimhfbbfpddaa", sum := "1fd5aa485079636694adc9a1354afe0c5e45cedb6f996ff61a82c5a8a744a4af", func := "tidewalk/tidewalklaw05.ArenaKnown", spec := "arenaKnown", apart := false }
def ArenaKnownSaid : Prop := arenaKnownRow.holds Try.pinned (OpenSpec.ofChange arenaKnownSpec)

/-- ITS FALSE NEIGHBOUR: 'it returns false'. Refute it at one input. -/
def arenaKnownWrong : ChangeSpec := { name := "arenaKnown", fn := fun _ => fun
  | [] => { results := [.lit (.bool false)], args := [] }
  | _ => none }
def ArenaKnownWrongFalsely : Prop := arenaKnownRow.holds Try.pinned (OpenSpec.ofChange arenaKnownWrong)

/-- 'tidewalklaw05.ArenaPlays': WHATEVER THE INPUT: true; the input reads as it did. -/
def arenaPlaysSpec : ChangeSpec := { name := "arenaPlays", fn := fun _ => fun
  | [d] => { results := [.lit (.bool true)], args := [d] }
  | _ => none }
def arenaPlaysRow : OpenClaim := { program := "ytckimhfbbfpddaa", sum := "1fd5aa485079636694adc9a1354afe0c5e45cedb6f996ff61a82c5a8a744a4af", func := "tidewalk/tidewalklaw05.ArenaPlays", spec := "arenaPlays", apart := false }
def ArenaPlaysSaid : Prop := arenaPlaysRow.holds Try.pinned (OpenSpec.ofChange arenaPlaysSpec)

/-- ITS FALSE NEIGHBOUR: 'it returns false'. Refute it at one input. -/
def arenaPlaysWrong : ChangeSpec := { name := "arenaPlays", fn := fun _ => fun
  | [d] => { results := [.lit (.bool false)], args := [d] }
  | _ => none }
def ArenaPlaysWrongFalsely : Prop := arenaPlaysRow.holds Try.pinned (OpenSpec.ofChange arenaPlaysWrong)

/-- 'tidewalklaw05.ArenaNobody': WHATEVER THE INPUT: true; the input reads as it did. -/
def arenaNobodySpec : ChangeSpec := { name := "arenaNobody", fn := fun _ => fun
  | [d] => { results := [.lit (.bool true)], args := [d] }
  | _ => none }
def arenaNobodyRow : OpenClaim := { program := "ytckimhfbbfpddaa", sum := "1fd5aa485079636694adc9a1354afe0c5e45cedb6f996ff61a82c5a8a744a4af", func := "tidewalk/tidewalklaw05.ArenaNobody", spec := "arenaNobody", apart := false }
def ArenaNobodySaid : Prop := arenaNobodyRow.holds Try.pinned (OpenSpec.ofChange arenaNobodySpec)

/-- ITS FALSE NEIGHBOUR: 'it returns false'. Refute it at one input. -/
def arenaNobodyWrong : ChangeSpec := { name := "arenaNobody", fn := fun _ => fun
  | [d] => { results := [.lit (.bool false)], args := [d] }
  | _ => none }
def ArenaNobodyWrongFalsely : Prop := arenaNobodyRow.holds Try.pinned (OpenSpec.ofChange arenaNobodyWrong)

/-- 'tidewalklaw05.ArenaKeeps': WHATEVER THE INPUT: true; the input reads as it did. -/
def arenaKeepsSpec : ChangeSpec := { name := "arenaKeeps", fn := fun _ => fun
  | [d] => { results := [.lit (.bool true)], args := [d] }
  | _ => none }
def arenaKeepsRow : OpenClaim := { program := "ytckimhfbbfpddaa", sum := "1fd5aa485079636694adc9a1354afe0c5e45cedb6f996ff61a82c5a8a744a4af", func := "tidewalk/tidewalklaw05.ArenaKeeps", spec := "arenaKeeps", apart := false }
def ArenaKeepsSaid : Prop := arenaKeepsRow.holds Try.pinned (OpenSpec.ofChange arenaKeepsSpec)

/-- ITS FALSE NEIGHBOUR: 'it returns false'. Refute it at one input. -/
def arenaKeepsWrong : ChangeSpec := { name := "arenaKeeps", fn := fun _ => fun
  | [d] => { results := [.lit (.bool false)], args := [d] }
  | _ => none }
def ArenaKeepsWrongFalsely : Prop := arenaKeepsRow.holds Try.pinned (OpenSpec.ofChange arenaKeepsWrong)

/-- 'tidewalklaw05.ArenaTwo': WHATEVER THE INPUT: true; the input reads as it did. -/
def arenaTwoSpec : ChangeSpec := { name := "arenaTwo", fn := fun _ => fun
  | [d1, d2] => { results := [.lit (.bool true)], args := [d1, d2] }
  | _ => none }
def arenaTwoRow : OpenClaim := { program := "ytckimhfbbfpddaa", sum := "1fd5aa485079636694adc9a1354afe0c5e45cedb6f996ff61a82c5a8a744a4af", func := "tidewalk/tidewalklaw05.ArenaTwo", spec := "arenaTwo", apart := false }
def ArenaTwoSaid : Prop := arenaTwoRow.holds Try.pinned (OpenSpec.ofChange arenaTwoSpec)

/-- ITS FALSE NEIGHBOUR: 'it returns false'. Refute it at one input. -/
def arenaTwoWrong : ChangeSpec := { name := "arenaTwo", fn := fun _ => fun
  | [d1, d2] => { results := [.lit (.bool false)], args := [d1, d2] }
  | _ => none }
def ArenaTwoWrongFalsely : Prop := arenaTwoRow.holds Try.pinned (OpenSpec.ofChange arenaTwoWrong)

/- THE SECOND FORM. 'bulk': how many values and letters a reading holds, each counted each time it is reached (what is shared counts as often as it is met; a slice's spare places count too). A statement '..UptoSaid' is the law's where the arguments, and the package variables that the reading takes, are together of bulk at most 1048576: NARROWER than '..Said'. Prove '..Said' where nothing that the law and all that it calls make is longer than what came in: it says more and counts as full. Else prove '..UptoSaid'. A law counts once. -/
mutual
def uptoBulk {H : Type} : DataW H → Nat
  | .lit (.string bytes) => bytes.length + 1
  | .lit _ => 1
  | .nil => 1
  | .ptr d => uptoBulk d + 1
  | .slice elems spare => uptoBulkAll elems + uptoBulkAll spare + 1
  | .agg parts => uptoBulkAll parts + 1
  | .iface _ d => uptoBulk d + 1
  | .map entries => uptoBulkEntries entries + 1
  | .held _ => 1
def uptoBulkAll {H : Type} : List (DataW H) → Nat
  | [] => 0
  | d :: r => uptoBulk d + uptoBulkAll r
def uptoBulkEntries {H : Type} : List (Lit × DataW H) → Nat
  | [] => 0
  | x :: r => uptoBulkEntry x + uptoBulkEntries r
def uptoBulkEntry {H : Type} : Lit × DataW H → Nat
  | (.string bytes, d) => bytes.length + uptoBulk d + 1
  | (_, d) => uptoBulk d + 1
 end
def uptoSmall : (H : Type) → List (DataW H) → Bool := fun _ ds => decide (uptoBulkAll ds ≤ 1048576)
def OpenSpec.upto (s : _root_.Go.ChangeSpec) : _root_.Go.OpenSpec := { _root_.Go.OpenSpec.ofChange s with cond := some uptoSmall }

/-- 'tidewalklaw05.ArenaKnown', WHERE WHAT IT READS IS OF BULK AT MOST 1048576: true; the input reads as it did. -/
def arenaKnownUptoRow : OpenClaim := { program := "ytckimhfbbfpddaa", sum := "1fd5aa485079636694adc9a1354afe0c5e45cedb6f996ff61a82c5a8a744a4af", func := "tidewalk/tidewalklaw05.ArenaKnown", spec := "arenaKnown", apart := false, narrowed := true }
def ArenaKnownUptoSaid : Prop := arenaKnownUptoRow.holds Try.pinned (OpenSpec.upto arenaKnownSpec)

/-- 'tidewalklaw05.ArenaPlays', WHERE WHAT IT READS IS OF BULK AT MOST 1048576: true; the input reads as it did. -/
def arenaPlaysUptoRow : OpenClaim := { program := "ytckimhfbbfpddaa", sum := "1fd5aa485079636694adc9a1354afe0c5e45cedb6f996ff61a82c5a8a744a4af", func := "tidewalk/tidewalklaw05.ArenaPlays", spec := "arenaPlays", apart := false, narrowed := true }
def ArenaPlaysUptoSaid : Prop := arenaPlaysUptoRow.holds Try.pinned (OpenSpec.upto arenaPlaysSpec)

/-- 'tidewalklaw05.ArenaNobody', WHERE WHAT IT READS IS OF BULK AT MOST 1048576: true; the input reads as it did. -/
def arenaNobodyUptoRow : OpenClaim := { program := "ytckimhfbbfpddaa", sum := "1fd5aa485079636694adc9a1354afe0c5e45cedb6f996ff61a82c5a8a744a4af", func := "tidewalk/tidewalklaw05.ArenaNobody", spec := "arenaNobody", apart := false, narrowed := true }
def ArenaNobodyUptoSaid : Prop := arenaNobodyUptoRow.holds Try.pinned (OpenSpec.upto arenaNobodySpec)

/-- 'tidewalklaw05.ArenaKeeps', WHERE WHAT IT READS IS OF BULK AT MOST 1048576: true; the input reads as it did. -/
def arenaKeepsUptoRow : OpenClaim := { program := "ytckimhfbbfpddaa", sum := "1fd5aa485079636694adc9a1354afe0c5e45cedb6f996ff61a82c5a8a744a4af", func := "tidewalk/tidewalklaw05.ArenaKeeps", spec := "arenaKeeps", apart := false, narrowed := true }
def ArenaKeepsUptoSaid : Prop := arenaKeepsUptoRow.holds Try.pinned (OpenSpec.upto arenaKeepsSpec)

/-- 'tidewalklaw05.ArenaTwo', WHERE WHAT IT READS IS OF BULK AT MOST 1048576: true; the input reads as it did. -/
def arenaTwoUptoRow : OpenClaim := { program := "ytckimhfbbfpddaa", sum := "1fd5aa485079636694adc9a1354afe0c5e45cedb6f996ff61a82c5a8a744a4af", func := "tidewalk/tidewalklaw05.ArenaTwo", spec := "arenaTwo", apart := false, narrowed := true }
def ArenaTwoUptoSaid : Prop := arenaTwoUptoRow.holds Try.pinned (OpenSpec.upto arenaTwoSpec)

end Rows
end Go.Proofs.Ytckimhfbbfpddaa
