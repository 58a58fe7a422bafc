/- Joining two sets, plainly; what any number of joins does. Conditions: none. -/
import Derived.Test.YtmjecgkmgfocoaaU0
namespace Go.Proofs.Ytmjecgkmgfocoaa

theorem Inv.at_root {up sz le : List Nat} {sets : Int} {L : List Nat} (h : Inv up sz le sets L) {x k r : Nat} (hr : Rt up k x r) : at0 L x = at0 L r :=
  (h.same _ _ _ _ _ _ hr (.root r hr.top.1 hr.top.2)).2 rfl
theorem ren_cases (a b z : Nat) : ren (min a b) (max a b) z = if z = a ∨ z = b then min a b else z := by
  unfold ren
  by_cases h1 : a ≤ b
  · rw [Nat.min_eq_left h1, Nat.max_eq_right h1]
    by_cases e : z = b
    · rw [if_pos e, if_pos (.inr e)]
    · rw [if_neg e]
      by_cases e2 : z = a
      · rw [if_pos (.inl e2), e2]
      · rw [if_neg (by rintro (h | h); exact e2 h; exact e h)]
  · rw [Nat.min_eq_right (by omega), Nat.max_eq_left (by omega)]
    by_cases e : z = a
    · rw [if_pos e, if_pos (.inl e)]
    · rw [if_neg e]
      by_cases e2 : z = b
      · rw [if_pos (.inr e2), e2]
      · rw [if_neg (by rintro (h | h); exact e h; exact e2 h)]
/-- The names of two sets joined. -/
def joinN (L : List Nat) (a b : Nat) : List Nat := L.map (ren (min (at0 L a) (at0 L b)) (max (at0 L a) (at0 L b)))
theorem joinN_at {L : List Nat} {a b : Nat} {z : Nat} (hz : z < L.length) : at0 (joinN L a b) z = if at0 L z = at0 L a ∨ at0 L z = at0 L b then min (at0 L a) (at0 L b) else at0 L z := by
  rw [joinN, at0_map _ hz, ren_cases]
theorem joinN_len (L : List Nat) (a b : Nat) : (joinN L a b).length = L.length := by simp [joinN]
theorem joinN_comm (L : List Nat) (a b : Nat) : joinN L b a = joinN L a b := by rw [joinN, joinN, Nat.min_comm, Nat.max_comm]
theorem joinN_nm {L : List Nat} (h : Nm L) {a b : Nat} (ha : a < L.length) (hb : b < L.length) (hne : at0 L a ≠ at0 L b) : Nm (joinN L a b) ∧ setsOf L = setsOf (joinN L a b) + 1 := by
  rcases Nat.lt_or_ge (at0 L a) (at0 L b) with h1 | h1
  · have := h.ren ha hb h1
    rw [joinN, Nat.min_eq_left (by omega), Nat.max_eq_right (by omega)]
    exact this
  · have := h.ren hb ha (by omega)
    rw [joinN, Nat.min_eq_right (by omega), Nat.max_eq_left (by omega)]
    exact this
theorem Inv.joined {up sz le : List Nat} {sets : Int} {L : List Nat} (h : Inv up sz le sets L) {p c : Nat} (hp : p < L.length) (hc : c < L.length) (rp : at0 up p = p) (rc : at0 up c = c) (hne : p ≠ c) :
    at0 L p ≠ at0 L c ∧ Inv (up.set c p) (sz.set p (at0 sz p + at0 sz c)) (le.set p (min (at0 le p) (at0 le c))) (sets - 1) (joinN L p c) := by
  have RP : Rt up 0 p p := .root _ (by rw [h.lu]; exact hp) rp
  have RC : Rt up 0 c c := .root _ (by rw [h.lu]; exact hc) rc
  have hL : at0 L p ≠ at0 L c := fun e => hne ((h.same _ _ _ _ _ _ RP RC).1 e)
  have np := h.name _ _ _ RP
  have nc := h.name _ _ _ RC
  have sp := h.size _ _ _ RP
  have sc := h.size _ _ _ RC
  have key : ∀ z k r, Rt (up.set c p) k z r → ∃ k0 r0, Rt up k0 z r0 ∧ z < L.length ∧ r = (if r0 = c then p else r0) ∧ (r0 = c ↔ at0 L z = at0 L c) ∧ (r0 = p ↔ at0 L z = at0 L p) := fun z k r hr => by
    have hz : z < L.length := by have := hr.lt; rw [List.length_set, h.lu] at this; exact this
    obtain ⟨k0, r0, h0⟩ := h.root z hz
    obtain ⟨k1, h1⟩ := link (by rw [h.lu]; exact hp) rp (by rw [h.lu]; exact hc) rc hne h0
    exact ⟨k0, r0, h0, hz, (hr.det h1).2, (h.same _ _ _ _ _ _ h0 RC).symm, (h.same _ _ _ _ _ _ h0 RP).symm⟩
  have hmin : min (at0 L p) (at0 L c) = at0 L p ∨ min (at0 L p) (at0 L c) = at0 L c := by omega
  refine ⟨hL, by rw [List.length_set, joinN_len]; exact h.lu, by rw [List.length_set, joinN_len]; exact h.ls, by rw [List.length_set, joinN_len]; exact h.ll, fun z hz => ?_, fun x y k m r s hr hs => ?_, fun z k r hr => ?_, fun z k r hr => ?_, ?_, (joinN_nm h.nm hp hc hL).1⟩
  · rw [joinN_len] at hz
    obtain ⟨k0, r0, h0⟩ := h.root z hz
    obtain ⟨k1, h1⟩ := link (by rw [h.lu]; exact hp) rp (by rw [h.lu]; exact hc) rc hne h0
    exact ⟨k1, _, h1⟩
  · obtain ⟨k1, r1, h1, z1, e1, c1, p1⟩ := key _ _ _ hr
    obtain ⟨k2, r2, h2, z2, e2, c2, p2⟩ := key _ _ _ hs
    have h12 := h.same _ _ _ _ _ _ h1 h2
    rw [joinN_at z1, joinN_at z2, e1, e2]
    grind
  · obtain ⟨k1, r1, h1, z1, e1, c1, p1⟩ := key _ _ _ hr
    have n1 := h.name _ _ _ h1
    rw [joinN_at z1, e1, at0_set (by rw [h.ll]; exact hp)]
    grind
  · obtain ⟨k1, r1, h1, z1, e1, c1, p1⟩ := key _ _ _ hr
    have n1 := h.size _ _ _ h1
    rw [joinN_at z1, e1, at0_set (by rw [h.ls]; exact hp)]
    have hlo : (joinN L p c).count (min (at0 L p) (at0 L c)) = L.count (at0 L p) + L.count (at0 L c) := by
      rw [joinN, count_ren _ _ (by omega)]
      rcases Nat.lt_or_ge (at0 L p) (at0 L c) with h1 | h1
      · rw [Nat.min_eq_left (by omega), Nat.max_eq_right (by omega)]
      · rw [Nat.min_eq_right (by omega), Nat.max_eq_left (by omega)]; omega
    by_cases hz : at0 L z = at0 L p ∨ at0 L z = at0 L c
    · rw [if_pos hz, hlo, ← sp, ← sc]
      have : (if r1 = c then p else r1) = p := by grind
      rw [if_pos this]
    · have h3 : (joinN L p c).count (at0 L z) = L.count (at0 L z) := by
        rw [joinN, count_ren_other _ _ _ (by omega) (by omega)]
      rw [if_neg hz, h3, ← n1]
      have h4 : ¬ (if r1 = c then p else r1) = p := by grind
      rw [if_neg h4]
      have h5 : r1 ≠ c := by grind
      rw [if_neg h5]
  · have := (joinN_nm h.nm hp hc hL).2
    rw [h.sets, this]
    omega

/-- What Name, Size and Join answer of names L. -/
def nameP (L : List Nat) (a : Int) : Int := if 0 ≤ a ∧ a < (L.length : Int) then (at0 L a.toNat : Int) else -1
def sizeP (L : List Nat) (a : Int) : Int := if 0 ≤ a ∧ a < (L.length : Int) then (L.count (at0 L a.toNat) : Int) else 0
def isM (L : List Nat) (a : Int) : Bool := decide (0 ≤ a) && decide (a < (L.length : Int))
def sameP (L : List Nat) (a b : Int) : Bool := isM L a && isM L b && (at0 L a.toNat == at0 L b.toNat)
def canP (L : List Nat) (a b : Int) : Bool := isM L a && isM L b && !(at0 L a.toNat == at0 L b.toNat)
def joinP (L : List Nat) (a b : Int) : List Nat := if canP L a b = true then joinN L a.toNat b.toNat else L
theorem joinP_len (L : List Nat) (a b : Int) : (joinP L a b).length = L.length := by
  unfold joinP
  split
  · exact joinN_len _ _ _
  · rfl
theorem isM_iff (L : List Nat) (a : Int) : isM L a = true ↔ 0 ≤ a ∧ a < (L.length : Int) := by simp [isM]
theorem canP_iff (L : List Nat) (a b : Int) : canP L a b = true ↔ (0 ≤ a ∧ a < (L.length : Int)) ∧ (0 ≤ b ∧ b < (L.length : Int)) ∧ at0 L a.toNat ≠ at0 L b.toNat := by
  simp [canP, isM, and_assoc]
theorem joinP_nm {L : List Nat} (h : Nm L) (a b : Int) : Nm (joinP L a b) ∧ setsOf L = setsOf (joinP L a b) + if canP L a b = true then 1 else 0 := by
  unfold joinP
  by_cases e : canP L a b = true
  · rw [if_pos e, if_pos e]
    obtain ⟨ha, hb, hne⟩ := (canP_iff _ _ _).1 e
    exact joinN_nm h (by omega) (by omega) hne
  · rw [if_neg e, if_neg e]
    exact ⟨h, rfl⟩
/-- Each alone. -/
def alone (n : Nat) : List Nat := List.range n
theorem at0_alone {n i : Nat} (h : i < n) : at0 (alone n) i = i := by simp [at0, alone, h]
theorem count_range (n r : Nat) : (List.range n).count r = if r < n then 1 else 0 := by
  induction n with
  | zero => simp
  | succ n ih =>
    rw [List.range_succ, List.count_append, ih, List.count_singleton]
    by_cases e : n = r
    · subst e; simp
    · simp only [beq_iff_eq, e, if_false]
      by_cases h : r < n
      · rw [if_pos h, if_pos (by omega)]
      · rw [if_neg h, if_neg (by omega)]
theorem alone_inv (n : Nat) : Inv (List.range n) (List.replicate n 1) (List.range n) (n : Int) (alone n) := by
  have hr : ∀ k a r, Rt (List.range n) k a r → a < n ∧ r = a := fun k a r h => by
    have hl : a < n := by have := h.lt; simpa using this
    have e : at0 (List.range n) a = a := at0_alone hl
    cases h with
    | root _ _ _ => exact ⟨hl, rfl⟩
    | step _ _ _ _ h2 _ => exact absurd e h2
  refine ⟨by simp [alone], by simp [alone], by simp [alone], fun a ha => ?_, fun a b k m r s h1 h2 => ?_, fun a k r h => ?_, fun a k r h => ?_, ?_, ⟨fun i hi => ?_, fun i hi => ?_⟩⟩
  · have ha' : a < n := by simpa [alone] using ha
    exact ⟨0, a, .root a (by simpa using ha') (at0_alone ha')⟩
  · obtain ⟨l1, rfl⟩ := hr _ _ _ h1
    obtain ⟨l2, rfl⟩ := hr _ _ _ h2
    rw [at0_alone l1, at0_alone l2]
  · obtain ⟨l1, rfl⟩ := hr _ _ _ h
    rfl
  · obtain ⟨l1, rfl⟩ := hr _ _ _ h
    rw [at0_alone l1]
    have : (alone n).count r = 1 := by
      unfold alone
      rw [count_range, if_pos l1]
    rw [this]
    simp [at0, l1]
  · unfold setsOf
    congr 1
    have : (List.range (alone n).length).countP (fun i => at0 (alone n) i == i) = (List.range (alone n).length).length := by
      rw [List.countP_eq_length]
      intro i hi
      have hi' : i < n := by simpa [alone] using hi
      rw [at0_alone hi']
      simp
    rw [this]
    simp [alone]
  · rw [at0_alone (by simpa [alone] using hi)]
    exact Nat.le_refl _
  · have hi' : i < n := by simpa [alone] using hi
    rw [at0_alone hi', at0_alone hi']
end Go.Proofs.Ytmjecgkmgfocoaa
