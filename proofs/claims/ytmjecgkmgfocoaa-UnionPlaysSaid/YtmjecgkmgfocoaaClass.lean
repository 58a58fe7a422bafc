/- A region that draws, its callees keep a condition on the world and answer the same in every such world: ONE walk in the order of the text. Conditions: none. -/
import Derived.Test.YtmjecgkmgfocoaaStep
import Derived.BigQuiet
import Derived.Deep.QuietTactic
namespace Go.Proofs.Ytmjecgkmgfocoaa.Lb
open Go.RowKit

/-- A world that meets a condition. -/
structure Wd (C : World → Prop) where
  w : World
  h : C w
theorem wp_region_class {P : Program} {id : Nat} {Q : Exit → Act → World → Prop} {a : Act} {w : World} {l : List Oper} (C : World → Prop) (hC : C w.drew) (hm : P.follows .mixedOrders = true) (hB : Region.lexB .any l.toArray = true)
    (h : wpQuiet P l.toArray (fun w' => ∃ q : Wd C, w' = q.w) (fun a' => ∀ w', (∃ q : Wd C, w' = q.w) → Q .normal a' w') l a) : (Code.region id l.toArray true).wp P Q a w :=
  wp_region_quiet (C := fun w' => ∃ q : Wd C, w' = q.w) hm hB ⟨⟨_, hC⟩, rfl⟩ (by simpa using h)
/-- A callee that keeps the condition. -/
theorem in_class {P : Program} {f : FuncId} {args : Array Value} {C : World → Prop} {q : Wd C} {v : Value}
    (h : ∀ w, C w → Calls P f args w fun e w' => e = .returned v ∧ C w') : Calls P f args q.w fun e w'' => e = .returned v ∧ ∃ q' : Wd C, w'' = q'.w :=
  (h q.w q.h).mono fun _ w' ⟨he, hc⟩ => ⟨he, ⟨w', hc⟩, rfl⟩
/-- A callee that leaves the world alone. -/
theorem in_class_same {P : Program} {f : FuncId} {args : Array Value} {C : World → Prop} {q : Wd C} {v : Value}
    (h : ∀ w, C w → Calls P f args w fun e w' => e = .returned v ∧ w = w') : Calls P f args q.w fun e w'' => e = .returned v ∧ ∃ q' : Wd C, w'' = q'.w :=
  (h q.w q.h).mono fun _ _ ⟨he, hc⟩ => ⟨he, q, hc.symm⟩
end Go.Proofs.Ytmjecgkmgfocoaa.Lb
