/- Unions in plain Lean: who is above whom; halving a way; joining two sets. Conditions: none. -/
namespace Go.Proofs.Ytmjecgkmgfocoaa

def at0 (l : List Nat) (i : Nat) : Nat := l.getD i 0
theorem at0_set {l : List Nat} {i : Nat} (h : i < l.length) (y k : Nat) : at0 (l.set i y) k = if k = i then y else at0 l k := by
  unfold at0
  by_cases e : k = i
  · subst e; simp [h]
  · simp [e, Ne.symm e]
theorem at0_map (f : Nat → Nat) {l : List Nat} {i : Nat} (h : i < l.length) : at0 (l.map f) i = f (at0 l i) := by
  simp [at0, h]
theorem at0_mem {l : List Nat} {i : Nat} (h : i < l.length) : at0 l i ∈ l := by
  unfold at0; simp [h]

/-- a leads to r in k steps; all within n. -/
inductive Rt (up : List Nat) : Nat → Nat → Nat → Prop
  | root (a : Nat) : a < up.length → at0 up a = a → Rt up 0 a a
  | step (k a r : Nat) : a < up.length → at0 up a ≠ a → Rt up k (at0 up a) r → Rt up (k + 1) a r
theorem Rt.lt {up : List Nat} {k a r : Nat} (h : Rt up k a r) : a < up.length := by cases h <;> assumption
theorem Rt.top {up : List Nat} {k a r : Nat} (h : Rt up k a r) : r < up.length ∧ at0 up r = r := by
  induction h with
  | root a h1 h2 => exact ⟨h1, h2⟩
  | step k a r h1 h2 h3 ih => exact ih
theorem Rt.det {up : List Nat} {k a r : Nat} (h : Rt up k a r) : ∀ {k' r' : Nat}, Rt up k' a r' → k = k' ∧ r = r' := by
  induction h with
  | root a h1 h2 =>
    intro k' r' h'
    cases h' with
    | root _ _ _ => exact ⟨rfl, rfl⟩
    | step k _ _ _ h4 _ => exact absurd h2 h4
  | step k a r h1 h2 h3 ih =>
    intro k' r' h'
    cases h' with
    | root _ _ h4 => exact absurd h4 h2
    | step k2 _ _ _ _ h5 =>
      obtain ⟨e1, e2⟩ := ih h5
      exact ⟨by rw [e1], e2⟩
theorem Rt.parts {up : List Nat} {k a r : Nat} (h : Rt up k a r) (hp : at0 up a ≠ a) : ∃ m, k = m + 1 ∧ Rt up m (at0 up a) r := by
  cases h with
  | root _ _ h4 => exact absurd h4 hp
  | step m _ _ _ _ h5 => exact ⟨m, rfl, h5⟩
/-- The way from a halved: who leads where stays. -/
theorem halve {up : List Nat} {a : Nat} (ha : at0 up a ≠ a) (hal : a < up.length) : ∀ (k x r : Nat), Rt up k x r → ∃ k', k' ≤ k ∧ Rt (up.set a (at0 up (at0 up a))) k' x r := by
  intro k
  induction k using Nat.strongRecOn with
  | _ k ih =>
    intro x r h
    by_cases hx : x = a
    · subst hx
      obtain ⟨m, rfl, h1⟩ := h.parts ha
      have hset : at0 (up.set x (at0 up (at0 up x))) x = at0 up (at0 up x) := by rw [at0_set hal, if_pos rfl]
      by_cases hp : at0 up (at0 up x) = at0 up x
      · have e : r = at0 up x := by
          cases h1 with
          | root _ _ _ => rfl
          | step _ _ _ _ h4 _ => exact absurd hp h4
        refine ⟨1, by omega, ?_⟩
        have hq : Rt (up.set x (at0 up (at0 up x))) 0 (at0 up x) (at0 up x) := .root _ (by rw [List.length_set]; exact h1.lt) (by rw [at0_set hal, if_neg ha, hp])
        rw [e]
        refine .step 0 x _ (by rw [List.length_set]; exact hal) (by rw [hset, hp]; exact ha) ?_
        rw [hset]
        rw [hp] at hq ⊢
        exact hq
      · obtain ⟨m2, rfl, h2⟩ := h1.parts hp
        have hne : at0 up (at0 up x) ≠ x := fun e => by
          rw [e] at h2
          have := (h.det h2).1
          omega
        obtain ⟨k', hk', h3⟩ := ih m2 (by omega) _ _ h2
        refine ⟨k' + 1, by omega, .step k' x r (by rw [List.length_set]; exact hal) (by rw [hset]; exact hne) ?_⟩
        rw [hset]
        exact h3
    · have hset : at0 (up.set a (at0 up (at0 up a))) x = at0 up x := by rw [at0_set hal, if_neg hx]
      cases h with
      | root _ h1 h2 => exact ⟨0, Nat.le_refl _, .root _ (by rw [List.length_set]; exact h1) (by rw [hset]; exact h2)⟩
      | step m _ _ h1 h2 h3 =>
        obtain ⟨k', hk', h4⟩ := ih m (by omega) _ _ h3
        exact ⟨k' + 1, by omega, .step k' x r (by rw [List.length_set]; exact h1) (by rw [hset]; exact h2) (by rw [hset]; exact h4)⟩
/-- A root laid under another one. -/
theorem link {up : List Nat} {a b : Nat} (hal : a < up.length) (ha : at0 up a = a) (hbl : b < up.length) (hb : at0 up b = b) (hab : a ≠ b) {k x r : Nat} (h : Rt up k x r) : ∃ k', Rt (up.set b a) k' x (if r = b then a else r) := by
  have hA : Rt (up.set b a) 0 a a := .root _ (by rw [List.length_set]; exact hal) (by rw [at0_set hbl, if_neg hab, ha])
  induction h with
  | root x h1 h2 =>
    by_cases e : x = b
    · subst e
      rw [if_pos rfl]
      refine ⟨1, .step 0 x a (by rw [List.length_set]; exact hbl) (by rw [at0_set hbl, if_pos rfl]; exact hab) ?_⟩
      rw [at0_set hbl, if_pos rfl]
      exact hA
    · rw [if_neg e]
      exact ⟨0, .root _ (by rw [List.length_set]; exact h1) (by rw [at0_set hbl, if_neg e, h2])⟩
  | step k x r h1 h2 h3 ih =>
    obtain ⟨k', hk⟩ := ih
    have e : x ≠ b := fun e => by subst e; exact h2 hb
    exact ⟨k' + 1, .step k' x _ (by rw [List.length_set]; exact h1) (by rw [at0_set hbl, if_neg e]; exact h2) (by rw [at0_set hbl, if_neg e]; exact hk)⟩

/-- How many are their own name. -/
def setsOf (L : List Nat) : Nat := (List.range L.length).countP (fun i => at0 L i == i)
/-- Names: each set's is its least member. -/
structure Nm (L : List Nat) : Prop where
  le : ∀ i, i < L.length → at0 L i ≤ i
  fix : ∀ i, i < L.length → at0 L (at0 L i) = at0 L i
/-- The program's rows, and the names that they stand for. -/
structure Inv (up sz le : List Nat) (sets : Int) (L : List Nat) : Prop where
  lu : up.length = L.length
  ls : sz.length = L.length
  ll : le.length = L.length
  root : ∀ a, a < L.length → ∃ k r, Rt up k a r
  same : ∀ a b k m r s, Rt up k a r → Rt up m b s → (at0 L a = at0 L b ↔ r = s)
  name : ∀ a k r, Rt up k a r → at0 le r = at0 L a
  size : ∀ a k r, Rt up k a r → at0 sz r = L.count (at0 L a)
  sets : sets = (setsOf L : Int)
  nm : Nm L
theorem Inv.halved {up sz le : List Nat} {sets : Int} {L : List Nat} (h : Inv up sz le sets L) {a : Nat} (ha : at0 up a ≠ a) (hal : a < L.length) : Inv (up.set a (at0 up (at0 up a))) sz le sets L := by
  have key : ∀ x k r, Rt (up.set a (at0 up (at0 up a))) k x r → ∃ k', Rt up k' x r := fun x k r hr => by
    obtain ⟨k0, r0, h0⟩ := h.root x (by have := hr.lt; rw [List.length_set, h.lu] at this; exact this)
    obtain ⟨k1, _, h1⟩ := halve ha (by rw [h.lu]; exact hal) _ _ _ h0
    have := (h1.det hr).2
    subst this
    exact ⟨k0, h0⟩
  refine ⟨by rw [List.length_set]; exact h.lu, h.ls, h.ll, fun x hx => ?_, fun x y k m r s hr hs => ?_, fun x k r hr => ?_, fun x k r hr => ?_, h.sets, h.nm⟩
  · obtain ⟨k, r, hr⟩ := h.root x hx
    obtain ⟨k', _, h'⟩ := halve ha (by rw [h.lu]; exact hal) _ _ _ hr
    exact ⟨k', r, h'⟩
  · obtain ⟨k1, h1⟩ := key _ _ _ hr
    obtain ⟨k2, h2⟩ := key _ _ _ hs
    exact h.same _ _ _ _ _ _ h1 h2
  · obtain ⟨k1, h1⟩ := key _ _ _ hr
    exact h.name _ _ _ h1
  · obtain ⟨k1, h1⟩ := key _ _ _ hr
    exact h.size _ _ _ h1

/-- hi's set is renamed to lo. -/
def ren (lo hi x : Nat) : Nat := if x = hi then lo else x
theorem count_ren (lo hi : Nat) (h : lo ≠ hi) (L : List Nat) : (L.map (ren lo hi)).count lo = L.count lo + L.count hi := by
  induction L with
  | nil => rfl
  | cons x L ih =>
    rw [List.map_cons, List.count_cons, List.count_cons, List.count_cons, ih]
    unfold ren
    by_cases e : x = hi
    · subst e
      simp [Ne.symm h]; omega
    · by_cases e2 : x = lo
      · subst e2
        simp [e]; omega
      · simp [e, e2]
theorem count_ren_other (lo hi z : Nat) (h1 : z ≠ lo) (h2 : z ≠ hi) (L : List Nat) : (L.map (ren lo hi)).count z = L.count z := by
  induction L with
  | nil => rfl
  | cons x L ih =>
    rw [List.map_cons, List.count_cons, List.count_cons, ih]
    unfold ren
    by_cases e : x = hi
    · subst e
      simp [Ne.symm h1, Ne.symm h2]
    · simp [e]
theorem countP_one (p q : Nat → Bool) (h : Nat) (hp : p h = true) (hq : q h = false) (he : ∀ i, i ≠ h → p i = q i) : ∀ n, (List.range n).countP p = (List.range n).countP q + if h < n then 1 else 0
  | 0 => by simp
  | n + 1 => by
    rw [List.range_succ, List.countP_append, List.countP_append, countP_one p q h hp hq he n]
    by_cases e : n = h
    · subst e
      simp [hp, hq]
    · have := he n e
      simp only [List.countP_cons, List.countP_nil, this]
      by_cases e2 : h < n
      · simp only [if_pos e2, if_pos (show h < n + 1 by omega)]; omega
      · simp only [if_neg e2, if_neg (show ¬ h < n + 1 by omega)]; omega
theorem Nm.ren {L : List Nat} (h : Nm L) {x y : Nat} (hx : x < L.length) (hy : y < L.length) (hlt : at0 L x < at0 L y) : Nm (L.map (ren (at0 L x) (at0 L y))) ∧ setsOf L = setsOf (L.map (Go.Proofs.Ytmjecgkmgfocoaa.ren (at0 L x) (at0 L y))) + 1 := by
  have hlx : at0 L x < L.length := by have := h.le x hx; omega
  have hly : at0 L y < L.length := by have := h.le y hy; omega
  have fx := h.fix x hx
  have fy := h.fix y hy
  refine ⟨⟨fun i hi => ?_, fun i hi => ?_⟩, ?_⟩
  · rw [List.length_map] at hi
    rw [at0_map _ hi]
    have := h.le i hi
    unfold Go.Proofs.Ytmjecgkmgfocoaa.ren
    split <;> omega
  · rw [List.length_map] at hi
    have hli : at0 L i < L.length := by have := h.le i hi; omega
    have fi := h.fix i hi
    rw [at0_map _ hi]
    unfold Go.Proofs.Ytmjecgkmgfocoaa.ren
    by_cases e : at0 L i = at0 L y
    · rw [if_pos e, at0_map _ hlx, fx, if_neg (by omega)]
    · rw [if_neg e, at0_map _ hli, fi, if_neg e]
  · unfold setsOf
    rw [List.length_map]
    have key := countP_one (fun i => at0 L i == i) (fun i => decide (i < L.length) && (at0 (L.map (Go.Proofs.Ytmjecgkmgfocoaa.ren (at0 L x) (at0 L y))) i == i) || decide (L.length ≤ i) && (at0 L i == i)) (at0 L y) (by simp [fy]) ?_ ?_ L.length
    · rw [key, if_pos hly]
      congr 1
      refine List.countP_congr fun i hi => ?_
      have hi' : i < L.length := List.mem_range.1 hi
      simp [hi', show ¬ L.length ≤ i by omega]
    · have : at0 (L.map (Go.Proofs.Ytmjecgkmgfocoaa.ren (at0 L x) (at0 L y))) (at0 L y) = at0 L x := by
        rw [at0_map _ hly, fy]
        unfold Go.Proofs.Ytmjecgkmgfocoaa.ren
        rw [if_pos rfl]
      simp [this, hly, show ¬ L.length ≤ at0 L y by omega]
      omega
    · intro i hne
      by_cases hi : i < L.length
      · rw [at0_map _ hi]
        unfold Go.Proofs.Ytmjecgkmgfocoaa.ren
        simp only [hi, show ¬ L.length ≤ i by omega, decide_true, decide_false, Bool.true_and, Bool.false_and, Bool.or_false]
        by_cases e : at0 L i = at0 L y
        · rw [if_pos e]
          have h1 : ¬ at0 L i = i := fun e2 => hne (by rw [← e2, e])
          have h2 : ¬ at0 L x = i := fun e2 => by
            rw [e2] at fx
            rw [fx] at e
            omega
          rw [beq_eq_false_iff_ne.2 h1, beq_eq_false_iff_ne.2 h2]
        · rw [if_neg e]
      · simp [hi, show L.length ≤ i by omega]
end Go.Proofs.Ytmjecgkmgfocoaa
