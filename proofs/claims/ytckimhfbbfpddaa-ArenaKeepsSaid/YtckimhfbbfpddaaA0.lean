/- Plain: an arena's slots, the last one freed, how many are taken. Conditions: none. -/
import Derived.Test.YtckimhfbbfpddaaFlat
namespace Go.Proofs.Ytckimhfbbfpddaa
open Go.RowKit

structure Slot (α : Type) where
  x : α
  taken : Bool
  next : Int
structure Ar (α : Type) where
  slots : List (Slot α)
  free : Int
  n : Int

section
variable {α : Type}
/-- Is slot i taken? -/
def isS (s : Ar α) (i : Int) : Bool := decide (1 ≤ i) && match s.slots[(i - 1).toNat]? with | some x => x.taken | none => false
theorem is_out {s : Ar α} {k : Nat} {x : Slot α} {b : Bool} (h : isS s ((k : Int) + 1) = b) (hx : s.slots[k]? = some x) : x.taken = b := by
  unfold isS at h
  rw [show ((k : Int) + 1 - 1).toNat = k by omega, hx] at h
  simpa [show (1 : Int) ≤ (k : Int) + 1 by omega] using h
end
end Go.Proofs.Ytckimhfbbfpddaa
