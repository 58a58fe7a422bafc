/- What any number of joins comes to, plainly: the least names that hold every pair together. Conditions: none. -/
import Derived.Test.YtmjecgkmgfocoaaUB
namespace Go.Proofs.Ytmjecgkmgfocoaa

theorem joinP_mono {L : List Nat} {x y : Int} {i j : Nat} (hi : i < L.length) (hj : j < L.length) (h : at0 L i = at0 L j) : at0 (joinP L x y) i = at0 (joinP L x y) j := by
  unfold joinP
  split
  · rw [joinN_at hi, joinN_at hj, h]
  · exact h
theorem joins_mono : ∀ (l : List Pr) {L : List Nat} {i j : Nat}, i < L.length → j < L.length → at0 L i = at0 L j → at0 (joins L l) i = at0 (joins L l) j
  | [], _, _, _, _, _, h => h
  | p :: l, L, i, j, hi, hj, h => joins_mono l (by rw [joinP_len]; exact hi) (by rw [joinP_len]; exact hj) (joinP_mono hi hj h)
theorem joinP_pair {L : List Nat} {x y : Int} (hx : isM L x = true) (hy : isM L y = true) : at0 (joinP L x y) x.toNat = at0 (joinP L x y) y.toNat := by
  have h1 := (isM_iff _ _).1 hx
  have h2 := (isM_iff _ _).1 hy
  unfold joinP
  split
  · rw [joinN_at (by omega), joinN_at (by omega), if_pos (.inl rfl), if_pos (.inr rfl)]
  · rename_i h
    simpa [canP, hx, hy] using h
theorem isM_joins (l : List Pr) (L : List Nat) (x : Int) : isM (joins L l) x = isM L x := by simp [isM, joins_len]
theorem isM_joinP (L : List Nat) (a b x : Int) : isM (joinP L a b) x = isM L x := by simp [isM, joinP_len]
theorem joins_pair : ∀ (l : List Pr) {L : List Nat} {p : Pr}, p ∈ l → isM L p.a = true → isM L p.b = true → at0 (joins L l) p.a.toNat = at0 (joins L l) p.b.toNat
  | [], _, _, h, _, _ => by cases h
  | q :: l, L, p, h, h1, h2 => by
    rcases List.mem_cons.1 h with rfl | h
    · have e := joinP_pair h1 h2
      have h3 := (isM_iff _ _).1 h1
      have h4 := (isM_iff _ _).1 h2
      exact joins_mono l (by rw [joinP_len]; omega) (by rw [joinP_len]; omega) e
    · exact joins_pair l h (by rw [isM_joinP]; exact h1) (by rw [isM_joinP]; exact h2)
/-- Whatever holds the names and the pairs together holds what joins bring together. -/
theorem joinP_least {L : List Nat} {x y : Int} {f : Nat → Nat} (hL : ∀ i j, i < L.length → j < L.length → at0 L i = at0 L j → f i = f j) (hp : isM L x = true → isM L y = true → f x.toNat = f y.toNat) :
    ∀ i j, i < L.length → j < L.length → at0 (joinP L x y) i = at0 (joinP L x y) j → f i = f j := by
  intro i j hi hj h
  unfold joinP at h
  split at h
  · rename_i hc
    obtain ⟨h1, h2, h3⟩ := (canP_iff _ _ _).1 hc
    have hf := hp ((isM_iff _ _).2 h1) ((isM_iff _ _).2 h2)
    have hx : x.toNat < L.length := by omega
    have hy : y.toNat < L.length := by omega
    rw [joinN_at hi, joinN_at hj] at h
    have key : ∀ z, z < L.length → at0 L z = at0 L x.toNat ∨ at0 L z = at0 L y.toNat → f z = f x.toNat := fun z hz e => e.elim (fun e => hL z _ hz hx e) (fun e => (hL z _ hz hy e).trans hf.symm)
    by_cases e1 : at0 L i = at0 L x.toNat ∨ at0 L i = at0 L y.toNat
    · rw [if_pos e1] at h
      by_cases e2 : at0 L j = at0 L x.toNat ∨ at0 L j = at0 L y.toNat
      · rw [key i hi e1, key j hj e2]
      · rw [if_neg e2] at h
        exact absurd (show at0 L j = at0 L x.toNat ∨ at0 L j = at0 L y.toNat by omega) e2
    · rw [if_neg e1] at h
      by_cases e2 : at0 L j = at0 L x.toNat ∨ at0 L j = at0 L y.toNat
      · rw [if_pos e2] at h
        exact absurd (show at0 L i = at0 L x.toNat ∨ at0 L i = at0 L y.toNat by omega) e1
      · rw [if_neg e2] at h
        exact hL i j hi hj h
  · exact hL i j hi hj h
theorem joins_least : ∀ (l : List Pr) {L : List Nat} {f : Nat → Nat}, (∀ i j, i < L.length → j < L.length → at0 L i = at0 L j → f i = f j) → (∀ p ∈ l, isM L p.a = true → isM L p.b = true → f p.a.toNat = f p.b.toNat) →
    ∀ i j, i < L.length → j < L.length → at0 (joins L l) i = at0 (joins L l) j → f i = f j
  | [], _, _, hL, _, i, j, hi, hj, h => hL i j hi hj h
  | q :: l, L, f, hL, hp, i, j, hi, hj, h => by
    refine joins_least l (L := joinP L q.a q.b) (f := f) ?_ ?_ i j (by rw [joinP_len]; exact hi) (by rw [joinP_len]; exact hj) h
    · intro i j hi hj
      rw [joinP_len] at hi hj
      exact joinP_least hL (hp q (List.mem_cons_self ..)) i j hi hj
    · intro p hp' h1 h2
      rw [isM_joinP] at h1 h2
      exact hp p (List.mem_cons_of_mem _ hp') h1 h2
theorem joins_nm : ∀ (l : List Pr) {L : List Nat}, Nm L → Nm (joins L l)
  | [], _, h => h
  | q :: l, _, h => joins_nm l (joinP_nm h q.a q.b).1
theorem alone_nm (n : Nat) : Nm (alone n) := (alone_inv n).nm
theorem alone_len (n : Nat) : (alone n).length = n := by simp [alone]
/-- Two namings that hold the same together are one. -/
theorem nm_eq {L M : List Nat} (hL : Nm L) (hM : Nm M) (hl : L.length = M.length) (h : ∀ i j, i < L.length → j < L.length → (at0 L i = at0 L j ↔ at0 M i = at0 M j)) : L = M := by
  refine List.ext_getElem hl fun i h1 h2 => ?_
  have a : ∀ (L : List Nat) (h : i < L.length), L[i] = at0 L i := fun L h => by simp [at0, h]
  rw [a L h1, a M h2]
  have l1 := hL.le i h1
  have l2 := hM.le i h2
  have f1 := hL.fix i h1
  have f2 := hM.fix i h2
  have e1 := (h (at0 L i) i (by omega) h1).1 f1
  have e2 := (h (at0 M i) i (by omega) h1).2 f2
  have m1 := hM.le (at0 L i) (by omega)
  have m2 := hL.le (at0 M i) (by omega)
  omega
/-- Joins in another order, and the other way about, come to the same. -/
theorem joins_same {l m : List Pr} (n : Nat) (h1 : ∀ p ∈ l, p ∈ m ∨ Pr.mk p.b p.a ∈ m) (h2 : ∀ p ∈ m, p ∈ l ∨ Pr.mk p.b p.a ∈ l) : joins (alone n) l = joins (alone n) m := by
  have one : ∀ (l m : List Pr), (∀ p ∈ l, p ∈ m ∨ Pr.mk p.b p.a ∈ m) → ∀ i j, i < n → j < n → at0 (joins (alone n) l) i = at0 (joins (alone n) l) j → at0 (joins (alone n) m) i = at0 (joins (alone n) m) j := by
    intro l m h i j hi hj
    refine joins_least l (L := alone n) (f := fun i => at0 (joins (alone n) m) i) ?_ ?_ i j (by rw [alone_len]; exact hi) (by rw [alone_len]; exact hj)
    · intro i j hi hj e
      exact joins_mono m hi hj e
    · intro p hp e1 e2
      rcases h p hp with h | h
      · exact joins_pair m h e1 e2
      · exact (joins_pair m h e2 e1).symm
  refine nm_eq (joins_nm l (alone_nm n)) (joins_nm m (alone_nm n)) (by rw [joins_len, joins_len]) fun i j hi hj => ?_
  rw [joins_len, alone_len] at hi hj
  exact ⟨one l m h1 i j hi hj, one m l h2 i j hi hj⟩
/-- The list from its end, each pair the other way about. -/
def backP (l : List Pr) : List Pr := (l.map fun p => Pr.mk p.b p.a).reverse
theorem back_same (n : Nat) (l : List Pr) : joins (alone n) (backP l) = joins (alone n) l := by
  refine (joins_same n (fun p hp => .inr ?_) (fun p hp => ?_)).symm
  · unfold backP
    rw [List.mem_reverse, List.mem_map]
    exact ⟨p, hp, rfl⟩
  · unfold backP at hp
    rw [List.mem_reverse, List.mem_map] at hp
    obtain ⟨q, hq, rfl⟩ := hp
    exact .inr hq
theorem back_drop {l : List Pr} {i : Nat} (h : i < l.length) : backP (l.drop i) = backP (l.drop (i + 1)) ++ [Pr.mk (prAt l i).b (prAt l i).a] := by
  have e : prAt l i = l[i] := by simp [prAt, h]
  rw [List.drop_eq_getElem_cons h, e]
  unfold backP
  rw [List.map_cons, List.reverse_cons]
theorem joins_back {l : List Pr} {i : Nat} (h : i < l.length) (L : List Nat) : joins L (backP (l.drop i)) = joinP (joins L (backP (l.drop (i + 1)))) (prAt l i).b (prAt l i).a := by
  rw [back_drop h, joins_app]; rfl
end Go.Proofs.Ytmjecgkmgfocoaa
