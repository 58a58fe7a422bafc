/- Plain: the first ones of lists. Conditions: none. -/
import Derived.Test.YtmndgaibdcllgaaLib
namespace Go.Proofs.Ytmndgaibdcllgaa
open Go.RowKit Go.Proofs.YtmndgaibdcllgaaW.PrintWords Lb

/-- The first n of a list, n no less than 0; is one missing? -/
def firstP {α : Type} (l : List α) (lim : Int) : List α × Bool := (l.take lim.toNat, decide (lim < (l.length : Int) ∧ 0 < l.length))

theorem drop_cons {α : Type} (l : List α) (d : α) (i : Nat) (h : i < l.length) : l.drop i = l.getD i d :: l.drop (i + 1) := by
  rw [List.drop_eq_getElem_cons h, List.getD_eq_getElem?_getD, List.getElem?_eq_getElem h]
  rfl
theorem take_snoc {α : Type} (l : List α) (d : α) (i : Nat) (h : i < l.length) : l.take (i + 1) = l.take i ++ [l.getD i d] := by
  rw [List.take_succ_eq_append_getElem h, List.getD_eq_getElem?_getD, List.getElem?_eq_getElem h]
  rfl

section
variable {α : Type} {M : Int} {ps : List (List α)} {i left : Nat} {tr : Bool}
theorem pre_succ (h : i < ps.length) : (ps.take (i + 1)).flatten = (ps.take i).flatten ++ ps.getD i [] := by
  rw [take_snoc ps [] i h]
  simp
def Joined (M : Int) (ps : List (List α)) (i left : Nat) (tr : Bool) : Prop :=
  tr = decide (M < ((ps.take i).flatten.length : Int)) ∧ (left : Int) = if M < ((ps.take i).flatten.length : Int) then 0 else M - ((ps.take i).flatten.length : Int)
theorem joined_start (h0 : 0 ≤ M) : Joined M ps 0 M.toNat false := by
  constructor
  · symm
    apply decide_eq_false
    simp
    omega
  · rw [if_neg (by simp; omega)]
    simp
    omega
theorem joined_left (h : Joined M ps i left tr) (h0 : 0 ≤ M) : (left : Int) ≤ M := by
  rw [h.2]
  split <;> omega
theorem joined_a (h : Joined M ps i left tr) (h0 : 0 ≤ M) (hi : i < ps.length) (hl : left < (ps.getD i []).length) :
    (ps.take i).flatten.take M.toNat ++ (ps.getD i []).take left = (ps.take (i + 1)).flatten.take M.toNat ∧ Joined M ps (i + 1) 0 true := by
  obtain ⟨h1, h2⟩ := h
  rw [Joined, pre_succ hi]
  generalize (ps.take i).flatten = p at *
  generalize ps.getD i [] = x at *
  have hL : ((p ++ x).length : Int) = (p.length : Int) + x.length := by simp
  refine ⟨?_, ?_, ?_⟩
  · rw [List.take_append]
    congr 2
    split at h2 <;> omega
  · rw [hL]
    symm
    apply decide_eq_true
    split at h2 <;> omega
  · rw [hL]
    split at h2 <;> (rw [if_pos (by omega)]; rfl)
theorem joined_b (h : Joined M ps i left tr) (h0 : 0 ≤ M) (hi : i < ps.length) (hl : ¬ left < (ps.getD i []).length) :
    (ps.take i).flatten.take M.toNat ++ ps.getD i [] = (ps.take (i + 1)).flatten.take M.toNat ∧ Joined M ps (i + 1) (left - (ps.getD i []).length) tr := by
  obtain ⟨h1, h2⟩ := h
  rw [Joined, pre_succ hi]
  generalize (ps.take i).flatten = p at *
  generalize ps.getD i [] = x at *
  have hL : ((p ++ x).length : Int) = (p.length : Int) + x.length := by simp
  refine ⟨?_, ?_, ?_⟩
  · rw [List.take_append]
    congr 1
    symm
    by_cases hp : M < (p.length : Int)
    · rw [if_pos hp] at h2
      obtain rfl : x = [] := List.eq_nil_of_length_eq_zero (by omega)
      simp
    · rw [if_neg hp] at h2
      exact List.take_of_length_le (by omega)
  · rw [h1, hL]
    by_cases hp : M < (p.length : Int)
    · rw [decide_eq_true hp, decide_eq_true (show M < (p.length : Int) + x.length by omega)]
    · rw [if_neg hp] at h2
      rw [decide_eq_false hp, decide_eq_false (show ¬ M < (p.length : Int) + x.length by omega)]
  · rw [hL]
    by_cases hp : M < (p.length : Int)
    · rw [if_pos hp] at h2
      rw [if_pos (by omega)]
      omega
    · rw [if_neg hp] at h2
      rw [if_neg (by omega)]
      omega
theorem flat_bound {N : Nat} (hi : i < ps.length) (h : ps.flatten.length ≤ N) : (ps.take i).flatten.length + (ps.getD i []).length ≤ N := by
  have h1 : ps.flatten = (ps.take (i + 1)).flatten ++ (ps.drop (i + 1)).flatten := by rw [← List.flatten_append, List.take_append_drop]
  rw [pre_succ hi] at h1
  have := congrArg List.length h1
  simp only [List.length_append] at this
  omega
theorem joined_end (h : Joined M ps i left tr) (hi : ¬ i < ps.length) (lim : Int) (hM : M = if lim < 0 then 0 else lim) :
    (ps.take i).flatten.take M.toNat = (firstP ps.flatten lim).1 ∧ tr = (firstP ps.flatten lim).2 := by
  obtain ⟨h1, _⟩ := h
  have ht : ps.take i = ps := List.take_of_length_le (by omega)
  rw [ht] at h1 ⊢
  unfold firstP
  constructor
  · rw [hM]
    split
    · congr 1
      omega
    · rfl
  · rw [h1, hM]
    rw [Bool.eq_iff_iff]
    simp only [decide_eq_true_eq]
    split <;> omega
end
end Go.Proofs.Ytmndgaibdcllgaa
