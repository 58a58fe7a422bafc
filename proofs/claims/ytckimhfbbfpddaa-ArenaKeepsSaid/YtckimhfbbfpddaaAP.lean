/- Plain: what Take and Free make of an arena; its free slots lie in it. Conditions: none. -/
import Derived.Test.YtckimhfbbfpddaaA0
namespace Go.Proofs.Ytckimhfbbfpddaa
open Go.RowKit

section
variable {α : Type}
/-- The last one freed, and what each slot says comes next, lie in the arena. -/
def V (s : Ar α) : Prop := (0 ≤ s.free ∧ s.free ≤ s.slots.length) ∧ ∀ x ∈ s.slots, 0 ≤ x.next ∧ x.next ≤ s.slots.length
def takeP (y : α) (s : Ar α) : Ar α := if s.free = 0 then ⟨s.slots ++ [⟨y, true, 0⟩], 0, s.n + 1⟩ else
  match s.slots[(s.free - 1).toNat]? with
  | some x => ⟨s.slots.set (s.free - 1).toNat ⟨y, true, 0⟩, x.next, s.n + 1⟩
  | none => s
def takeN (s : Ar α) : Int := if s.free = 0 then (s.slots.length : Int) + 1 else s.free
def freeP (z : α) (i : Int) (s : Ar α) : Ar α := if isS s i then ⟨s.slots.set (i - 1).toNat ⟨z, false, s.free⟩, i, s.n - 1⟩ else s
theorem V_new : V (⟨[], 0, 0⟩ : Ar α) := ⟨by simp, by simp⟩
theorem isS_some {s : Ar α} {i : Int} (h : isS s i = true) : ∃ (k : Nat) (x : Slot α), i = (k : Int) + 1 ∧ s.slots[k]? = some x ∧ x.taken = true := by
  unfold isS at h
  rw [Bool.and_eq_true, decide_eq_true_eq] at h
  obtain ⟨h1, h2⟩ := h
  split at h2
  · next x hx => exact ⟨(i - 1).toNat, x, by omega, hx, h2⟩
  · cases h2
theorem V_some {s : Ar α} (h : V s) (h0 : ¬ s.free = 0) : ∃ (k : Nat) (x : Slot α), s.free = (k : Int) + 1 ∧ s.slots[k]? = some x := by
  have := h.1
  exact ⟨(s.free - 1).toNat, _, by omega, List.getElem?_eq_getElem (by omega)⟩
theorem take_old {s : Ar α} {k : Nat} {x : Slot α} (y : α) (h : s.free = (k : Int) + 1) (hx : s.slots[k]? = some x) : takeP y s = ⟨s.slots.set k ⟨y, true, 0⟩, x.next, s.n + 1⟩ := by
  unfold takeP
  rw [if_neg (by omega), show (s.free - 1).toNat = k by omega, hx]
theorem take_new {s : Ar α} (y : α) (h : s.free = 0) : takeP y s = ⟨s.slots ++ [⟨y, true, 0⟩], 0, s.n + 1⟩ := by
  unfold takeP
  rw [if_pos h]
theorem free_yes {s : Ar α} {k : Nat} {x : Slot α} (z : α) (hx : s.slots[k]? = some x) (ht : x.taken = true) : freeP z ((k : Int) + 1) s = ⟨s.slots.set k ⟨z, false, s.free⟩, (k : Int) + 1, s.n - 1⟩ ∧ isS s ((k : Int) + 1) = true := by
  have h : isS s ((k : Int) + 1) = true := by
    unfold isS
    rw [show ((k : Int) + 1 - 1).toNat = k by omega, hx]
    simp [ht]
    omega
  refine ⟨?_, h⟩
  unfold freeP
  rw [if_pos h, show ((k : Int) + 1 - 1).toNat = k by omega]
theorem V_take {s : Ar α} (h : V s) (y : α) : V (takeP y s) := by
  by_cases h0 : s.free = 0
  · rw [take_new y h0]
    refine ⟨by simp; omega, fun x hx => ?_⟩
    rcases List.mem_append.1 hx with hx | hx
    · have := h.2 x hx; simp; omega
    · obtain rfl := List.mem_singleton.1 hx; simp; omega
  · obtain ⟨k, x, hk, hx⟩ := V_some h h0
    rw [take_old y hk hx]
    have hm := h.2 x (List.mem_of_getElem? hx)
    refine ⟨by simpa using hm, fun u hu => ?_⟩
    rw [List.length_set]
    rcases List.mem_or_eq_of_mem_set hu with hu | rfl
    · exact h.2 u hu
    · simp
theorem V_free {s : Ar α} (h : V s) (z : α) (i : Int) : V (freeP z i s) := by
  by_cases hi : isS s i = true
  · obtain ⟨k, x, rfl, hx, ht⟩ := isS_some hi
    rw [(free_yes z hx ht).1]
    have hk := (List.getElem?_eq_some_iff.1 hx).1
    refine ⟨by simp; omega, fun u hu => ?_⟩
    rw [List.length_set]
    rcases List.mem_or_eq_of_mem_set hu with hu | rfl
    · exact h.2 u hu
    · exact h.1
  · unfold freeP
    rw [if_neg hi]
    exact h
theorem take_n {s : Ar α} (h : V s) (y : α) : (takeP y s).n = s.n + 1 := by
  by_cases h0 : s.free = 0
  · rw [take_new y h0]
  · obtain ⟨k, x, hk, hx⟩ := V_some h h0
    rw [take_old y hk hx]
theorem take_len {s : Ar α} (h : V s) (y : α) : (takeP y s).slots.length ≤ s.slots.length + 1 := by
  by_cases h0 : s.free = 0
  · rw [take_new y h0]; simp
  · obtain ⟨k, x, hk, hx⟩ := V_some h h0
    rw [take_old y hk hx]; simp
theorem free_len (s : Ar α) (z : α) (i : Int) : (freeP z i s).slots.length = s.slots.length := by
  unfold freeP
  split <;> simp
theorem free_n (s : Ar α) (z : α) (i : Int) : (freeP z i s).n = if isS s i then s.n - 1 else s.n := by
  unfold freeP
  split <;> simp
end
end Go.Proofs.Ytckimhfbbfpddaa
