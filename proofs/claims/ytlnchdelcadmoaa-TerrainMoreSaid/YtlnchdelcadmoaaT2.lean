/- Tables in plain Lean: what New makes. Conditions: none. -/
import Derived.Test.YtlnchdelcadmoaaT1
namespace Go.Proofs.Ytlnchdelcadmoaa
open Go.RowKit Go.Proofs.YtlnchdelcadmoaaW.PrintWords Lb

/-- One kind more: the least cost of class c. -/
def lstep (c : Nat) (n : Int) (k : Kind) : Int := if bit k.mask c = true ∧ (n = 0 ∨ k.cost < n) then k.cost else n
def leastC (l : List Kind) (c : Nat) : Int := l.foldl (lstep c) 0
theorem leastC_snoc (l : List Kind) (k : Kind) (c : Nat) : leastC (l ++ [k]) c = lstep c (leastC l c) k := by simp [leastC]
theorem leastC_take {l : List Kind} {i : Nat} (h : i < l.length) (c : Nat) : leastC (l.take (i + 1)) c = lstep c (leastC (l.take i) c) (kAt l i) := by
  rw [List.take_succ_eq_append_getElem h, leastC_snoc]
  simp [kAt, h]
def okK (cl : Int) (k : Kind) : Bool := decide (1 ≤ k.cost) && decide (k.cost ≤ 255) && decide (k.mask / 2 ^ cl.toNat = 0)
def rightP (l : List Kind) (cl : Int) : Bool := decide (1 ≤ l.length) && decide (l.length ≤ 16) && decide (1 ≤ cl) && decide (cl ≤ 8) && l.all (okK cl)
/-- The row of least costs, kind i done up to class m. -/
def lsAt (l : List Kind) (cl : Int) (i m : Nat) : List Int := (List.range 8).map (fun (c : Nat) => if (c : Int) < cl then leastC (l.take (if c < m then i + 1 else i)) c else 0)
def leasts (l : List Kind) (cl : Int) : List Int := lsAt l cl l.length 0
theorem lsAt_len (l : List Kind) (cl : Int) (i m : Nat) : (lsAt l cl i m).length = 8 := by simp [lsAt]
theorem lsAt_get (l : List Kind) (cl : Int) (i m c : Nat) (h : c < 8) : (lsAt l cl i m).getD c 0 = if (c : Int) < cl then leastC (l.take (if c < m then i + 1 else i)) c else 0 := by
  simp [lsAt, h]
theorem lsAt_zero (l : List Kind) (cl : Int) : lsAt l cl 0 0 = [0, 0, 0, 0, 0, 0, 0, 0] := by
  simp [lsAt, leastC, List.range, List.range.loop]
theorem lsAt_set {l : List Kind} {cl : Int} {i m : Nat} (hi : i < l.length) (hm : (m : Int) < cl) (v : Int) (hv : v = lstep m (leastC (l.take i) m) (kAt l i)) : (lsAt l cl i m).set m v = lsAt l cl i (m + 1) := by
  apply List.ext_getElem
  · simp [lsAt]
  · intro c h1 h2
    have hc : c < 8 := by simpa [lsAt] using h2
    rw [List.getElem_set]
    by_cases e : m = c
    · subst e
      rw [if_pos rfl]
      simp only [lsAt, List.getElem_map, List.getElem_range]
      rw [if_pos hm, if_pos (by omega), leastC_take hi]
      exact hv
    · rw [if_neg e]
      simp only [lsAt, List.getElem_map, List.getElem_range]
      by_cases h3 : c < m
      · rw [if_pos h3, if_pos (show c < m + 1 by omega)]
      · rw [if_neg h3, if_neg (show ¬ c < m + 1 by omega)]
theorem lsAt_same {l : List Kind} {cl : Int} {i m : Nat} (hi : i < l.length) (h : leastC (l.take i) m = lstep m (leastC (l.take i) m) (kAt l i)) : lsAt l cl i m = lsAt l cl i (m + 1) := by
  apply List.ext_getElem
  · simp [lsAt]
  · intro c h1 h2
    simp only [lsAt, List.getElem_map, List.getElem_range]
    by_cases e : c = m
    · subst e
      rw [if_neg (show ¬ c < c by omega), if_pos (show c < c + 1 by omega), leastC_take hi, ← h]
    · by_cases h3 : c < m
      · rw [if_pos h3, if_pos (show c < m + 1 by omega)]
      · rw [if_neg h3, if_neg (show ¬ c < m + 1 by omega)]
theorem lsAt_next (l : List Kind) (cl : Int) (i m : Nat) (h : cl = (m : Int)) : lsAt l cl i m = lsAt l cl (i + 1) 0 := by
  apply List.ext_getElem
  · simp [lsAt]
  · intro c h1 h2
    simp only [lsAt, List.getElem_map, List.getElem_range]
    by_cases h3 : (c : Int) < cl
    · rw [if_pos h3, if_pos h3, if_pos (show c < m by omega), if_neg (show ¬ c < 0 by omega)]
    · rw [if_neg h3, if_neg h3]
theorem Tb.set {w : World} {F : Nat → Prop} {b : Nat} {l : List Kind} {cl : Int} {ls : List Int} {A : Option Addr} {c : Nat} (h : Tb w F b l cl ls A c) (i : Nat) (v : Int) : Tb (w.setCell ⟨b, 2 + i, none⟩ (.int .i64 v)) F b l cl (ls.set i v) A c := by
  refine ⟨fun k hk => by simpa [World.setCell] using h.lt k hk, h.hb, ?_, Kd.R_set h.row h.blk (by simp [flatK]) _ _ |> fun r => Kd.R_mono r (fun k hk => hk)⟩
  have := blk_set h.blk (2 + i) (.int .i64 v)
  have e : (tabCells A l.length c cl ls).toArray.setIfInBounds (2 + i) (.int .i64 v) = (tabCells A l.length c cl (ls.set i v)).toArray := by
    simp [tabCells, show 2 + i = i + 1 + 1 by omega, List.map_set]
  rwa [e] at this
/-- A table that New made of l and cl. -/
structure TabO (w : World) (F : Nat → Prop) (b : Nat) (l : List Kind) (cl : Int) : Prop where
  tb : ∃ A c, Tb w F b l cl (leasts l cl) A c
  ok : rightP l cl = true
theorem TabO.keep {w w1 : World} {F G : Nat → Prop} {b : Nat} {l : List Kind} {cl : Int} (h : TabO w F b l cl) (hc : Chg G w w1) (hd : ∀ k, F k → ¬ G k) : TabO w1 F b l cl := by
  obtain ⟨A, c, t⟩ := h.tb
  exact ⟨⟨A, c, t.keep hc hd⟩, h.ok⟩
theorem TabO.below {w w1 : World} {F : Nat → Prop} {b : Nat} {l : List Kind} {cl : Int} (h : TabO w F b l cl) (hb : Below w.heap.size w w1) : TabO w1 F b l cl :=
  h.keep (Chg.of_below (F := Non) hb) (fun _ _ e => e)
theorem right_parts {l : List Kind} {cl : Int} (h : rightP l cl = true) : 1 ≤ l.length ∧ l.length ≤ 16 ∧ 1 ≤ cl ∧ cl ≤ 8 ∧ ∀ k ∈ l, okK cl k = true := by
  simp only [rightP, Bool.and_eq_true, decide_eq_true_eq, List.all_eq_true] at h
  exact ⟨h.1.1.1.1, h.1.1.1.2, h.1.1.2, h.1.2, h.2⟩
theorem okK_parts {cl : Int} {k : Kind} (h : okK cl k = true) : 1 ≤ k.cost ∧ k.cost ≤ 255 ∧ k.mask / 2 ^ cl.toNat = 0 := by
  simp only [okK, Bool.and_eq_true, decide_eq_true_eq] at h
  exact ⟨h.1.1, h.1.2, h.2⟩
theorem okK_mask {cl : Int} {k : Kind} (h : okK cl k = true) (h8 : cl ≤ 8) : k.mask < 256 := by
  have h1 := (okK_parts h).2.2
  have h2 : k.mask < 2 ^ cl.toNat := by
    rcases Nat.lt_or_ge k.mask (2 ^ cl.toNat) with e | e
    · exact e
    · have := Nat.div_pos e (Nat.two_pow_pos _)
      omega
  have h3 : 2 ^ cl.toNat ≤ 2 ^ 8 := Nat.pow_le_pow_right (by omega) (by omega)
  omega
end Go.Proofs.Ytlnchdelcadmoaa
