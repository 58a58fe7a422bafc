/- Entries and heaps in plain Lean: which one of two is first; what Push and Pop make of a list; that they sort. Conditions: none. -/
namespace Go.Proofs.Ytplimabdnpepjaa

structure Entry where
  f : Int
  g : Int
  c : Int
deriving DecidableEq
def lessE (a b : Entry) : Bool := if a.f ≠ b.f then decide (a.f < b.f) else if a.g ≠ b.g then decide (b.g < a.g) else decide (a.c < b.c)

theorem lessE_iff (a b : Entry) : lessE a b = true ↔ a.f < b.f ∨ (a.f = b.f ∧ (b.g < a.g ∨ (a.g = b.g ∧ a.c < b.c))) := by
  unfold lessE
  by_cases h1 : a.f = b.f
  · by_cases h2 : a.g = b.g
    · simp [h1, h2]
    · simp [h1, h2]
  · simp [h1]
theorem lessE_not (a b : Entry) : lessE a b = false ↔ ¬ (a.f < b.f ∨ (a.f = b.f ∧ (b.g < a.g ∨ (a.g = b.g ∧ a.c < b.c)))) := by
  rw [← lessE_iff]; simp
theorem lessE_irrefl (a : Entry) : lessE a a = false := by rw [lessE_not]; omega
/-- a is not behind b. -/
def leE (a b : Entry) : Prop := lessE b a = false
theorem leE_refl (a : Entry) : leE a a := lessE_irrefl a
theorem leE_trans {a b c : Entry} (h : leE a b) (k : leE b c) : leE a c := by
  unfold leE at *; rw [lessE_not] at *; omega
theorem leE_of_less {a b : Entry} (h : lessE a b = true) : leE a b := by
  unfold leE; rw [lessE_not]; rw [lessE_iff] at h; omega
theorem leE_antisymm {a b : Entry} (h : leE a b) (k : leE b a) : a = b := by
  unfold leE at *; rw [lessE_not] at *
  cases a; cases b
  simp only [Entry.mk.injEq] at *
  omega
theorem leE_total (a b : Entry) : leE a b ∨ leE b a := by
  unfold leE; rw [lessE_not, lessE_not]; omega

def entAt (l : List Entry) (i : Nat) : Entry := l.getD i ⟨0, 0, 0⟩
theorem entAt_get {l : List Entry} {i : Nat} (h : i < l.length) : entAt l i = l[i] := by simp [entAt, h]
theorem entAt_some {l : List Entry} {i : Nat} (h : i < l.length) : l[i]? = some (entAt l i) := by rw [entAt_get h]; exact List.getElem?_eq_getElem h
theorem entAt_set {l : List Entry} {i : Nat} (h : i < l.length) (y : Entry) (k : Nat) : entAt (l.set i y) k = if k = i then y else entAt l k := by
  unfold entAt
  by_cases e : k = i
  · subst e; simp [h]
  · simp [e, Ne.symm e]
def swapE (l : List Entry) (i j : Nat) : List Entry := (l.set i (entAt l j)).set j (entAt l i)
theorem swapE_len (l : List Entry) (i j : Nat) : (swapE l i j).length = l.length := by simp [swapE]
theorem swapE_at {l : List Entry} {i j : Nat} (hi : i < l.length) (hj : j < l.length) (k : Nat) : entAt (swapE l i j) k = if k = j then entAt l i else if k = i then entAt l j else entAt l k := by
  unfold swapE
  rw [entAt_set (by simpa using hj), entAt_set hi]
theorem set_perm (y : Entry) : ∀ (l : List Entry) (i : Nat), i < l.length → (entAt l i :: l.set i y).Perm (y :: l)
  | [], i, h => by simp at h
  | a :: l, 0, _ => List.Perm.swap _ _ _
  | a :: l, i + 1, h => by
    have := set_perm y l i (by simpa using h)
    exact (List.Perm.swap _ _ _).trans ((this.cons a).trans (List.Perm.swap _ _ _))
theorem swapE_perm {l : List Entry} {i j : Nat} (hi : i < l.length) (hj : j < l.length) : (swapE l i j).Perm l := by
  have h1 := set_perm (entAt l j) l i hi
  have h2 := set_perm (entAt l i) (l.set i (entAt l j)) j (by simpa using hj)
  have h3 : entAt (l.set i (entAt l j)) j = entAt l j := by
    rw [entAt_set hi]; split <;> rfl
  rw [h3] at h2
  exact (List.Perm.cons_inv (h2.trans h1))

/-- No one is ahead of the one above it. -/
def HI (l : List Entry) : Prop := ∀ j, 0 < j → j < l.length → leE (entAt l ((j - 1) / 2)) (entAt l j)
theorem HI.top {l : List Entry} (h : HI l) : ∀ n j, j ≤ n → j < l.length → leE (entAt l 0) (entAt l j)
  | 0, j, hj, _ => by
    have : j = 0 := by omega
    subst this; exact leE_refl _
  | n + 1, j, hj, hl => by
    by_cases e : j = 0
    · subst e; exact leE_refl _
    · exact leE_trans (HI.top h n ((j - 1) / 2) (by omega) (by omega)) (h j (by omega) hl)

def riseP : Nat → List Entry → Nat → List Entry
  | 0, l, _ => l
  | n + 1, l, i => if 0 < i ∧ lessE (entAt l i) (entAt l ((i - 1) / 2)) = true then riseP n (swapE l i ((i - 1) / 2)) ((i - 1) / 2) else l
def pushP (l : List Entry) (x : Entry) : List Entry := riseP (l.length + 1) (l ++ [x]) l.length

theorem rise_ok : ∀ n l i, i < n → i < l.length → (∀ j, 0 < j → j < l.length → j ≠ i → leE (entAt l ((j - 1) / 2)) (entAt l j)) →
    (∀ j, 0 < i → j < l.length → 0 < j → (j - 1) / 2 = i → leE (entAt l ((i - 1) / 2)) (entAt l j)) → HI (riseP n l i) ∧ (riseP n l i).Perm l
  | 0, _, _, h, _, _, _ => by omega
  | n + 1, l, i, hn, hi, h1, h2 => by
    unfold riseP
    by_cases hc : 0 < i ∧ lessE (entAt l i) (entAt l ((i - 1) / 2)) = true
    · rw [if_pos hc]
      obtain ⟨h0, hl⟩ := hc
      have hup : (i - 1) / 2 < l.length := by omega
      have hle := leE_of_less hl
      have key := rise_ok n (swapE l i ((i - 1) / 2)) ((i - 1) / 2) (by omega) (by rw [swapE_len]; exact hup) ?_ ?_
      · exact ⟨key.1, key.2.trans (swapE_perm hi hup)⟩
      · intro j j0 jl jn
        rw [swapE_len] at jl
        rw [swapE_at hi hup, swapE_at hi hup, if_neg jn]
        by_cases e1 : j = i
        · subst e1
          rw [if_pos rfl, if_pos rfl]
          exact hle
        · rw [if_neg e1]
          by_cases e2 : (j - 1) / 2 = (i - 1) / 2
          · rw [if_pos e2]
            have := h1 j j0 jl e1
            rw [e2] at this
            exact leE_trans hle this
          · rw [if_neg e2]
            by_cases e3 : (j - 1) / 2 = i
            · rw [if_pos e3]
              exact h2 j h0 jl j0 e3
            · rw [if_neg e3]
              exact h1 j j0 jl e1
      · intro j u0 jl j0 ju
        rw [swapE_len] at jl
        have hne : ¬ (j = (i - 1) / 2) := by omega
        have hne2 : ¬ (((i - 1) / 2 - 1) / 2 = (i - 1) / 2) := by omega
        have hne3 : ¬ (((i - 1) / 2 - 1) / 2 = i) := by omega
        rw [swapE_at hi hup, swapE_at hi hup, if_neg hne, if_neg hne2, if_neg hne3]
        have hpp := h1 ((i - 1) / 2) u0 hup (by omega)
        by_cases e1 : j = i
        · rw [if_pos e1]; exact hpp
        · rw [if_neg e1]
          have := h1 j j0 jl e1
          rw [ju] at this
          exact leE_trans hpp this
    · rw [if_neg hc]
      refine ⟨fun j j0 jl => ?_, List.Perm.refl _⟩
      by_cases e : j = i
      · subst e
        have : ¬ lessE (entAt l j) (entAt l ((j - 1) / 2)) = true := fun hh => hc ⟨j0, hh⟩
        unfold leE; simpa using this
      · exact h1 j j0 jl e
theorem push_ok {l : List Entry} (h : HI l) (x : Entry) : HI (pushP l x) ∧ (pushP l x).Perm (x :: l) := by
  have key := rise_ok (l.length + 1) (l ++ [x]) l.length (by omega) (by simp) ?_ ?_
  · exact ⟨key.1, key.2.trans (List.perm_append_comm (l₁ := l) (l₂ := [x]))⟩
  · intro j j0 jl jn
    have jl' : j < l.length := by simp at jl; omega
    have e1 : ∀ k, k < l.length → entAt (l ++ [x]) k = entAt l k := fun k hk => by unfold entAt; simp [List.getElem?_append_left hk]
    rw [e1 _ (by omega), e1 _ jl']
    exact h j j0 jl'
  · intro j h0 jl j0 ju
    simp at jl
    omega

/-- Who is first of i and the n at 2i+1 and behind. -/
def pickP (l : List Entry) (i : Nat) : Nat → Nat
  | 0 => i
  | n + 1 => if 2 * i + 1 + n < l.length ∧ lessE (entAt l (2 * i + 1 + n)) (entAt l (pickP l i n)) = true then 2 * i + 1 + n else pickP l i n
def sinkP : Nat → List Entry → Nat → List Entry
  | 0, l, _ => l
  | n + 1, l, i => if pickP l i 2 = i then l else sinkP n (swapE l i (pickP l i 2)) (pickP l i 2)
theorem pick_lt {l : List Entry} {i : Nat} (hi : i < l.length) : ∀ n, pickP l i n < l.length
  | 0 => hi
  | n + 1 => by
    unfold pickP; split
    · rename_i h; exact h.1
    · exact pick_lt hi n
theorem pick_or (l : List Entry) (i : Nat) : ∀ n, pickP l i n = i ∨ (2 * i + 1 ≤ pickP l i n ∧ pickP l i n < 2 * i + 1 + n)
  | 0 => .inl rfl
  | n + 1 => by
    unfold pickP; split
    · right; omega
    · rcases pick_or l i n with h | h
      · exact .inl h
      · right; omega
theorem pick_le (l : List Entry) (i : Nat) : ∀ n, leE (entAt l (pickP l i n)) (entAt l i) ∧ ∀ k, k < n → 2 * i + 1 + k < l.length → leE (entAt l (pickP l i n)) (entAt l (2 * i + 1 + k))
  | 0 => ⟨leE_refl _, fun k h => by omega⟩
  | n + 1 => by
    obtain ⟨a, b⟩ := pick_le l i n
    unfold pickP
    split
    · rename_i h
      have hl := leE_of_less h.2
      refine ⟨leE_trans hl a, fun k hk hk2 => ?_⟩
      by_cases e : k = n
      · subst e; exact leE_refl _
      · exact leE_trans hl (b k (by omega) hk2)
    · rename_i h
      refine ⟨a, fun k hk hk2 => ?_⟩
      by_cases e : k = n
      · subst e
        have : ¬ lessE (entAt l (2 * i + 1 + k)) (entAt l (pickP l i k)) = true := fun hh => h ⟨hk2, hh⟩
        unfold leE; simpa using this
      · exact b k (by omega) hk2
theorem pick_nil (l : List Entry) (h : l.length ≤ 1) (n : Nat) : pickP l 0 n = 0 := by
  induction n with
  | zero => rfl
  | succ n ih =>
    unfold pickP
    rw [if_neg (by omega)]
    exact ih

theorem sink_ok : ∀ n l i, l.length ≤ n + i → i < l.length → (∀ j, 0 < j → j < l.length → (j - 1) / 2 ≠ i → leE (entAt l ((j - 1) / 2)) (entAt l j)) →
    (∀ j, 0 < i → j < l.length → 0 < j → (j - 1) / 2 = i → leE (entAt l ((i - 1) / 2)) (entAt l j)) → HI (sinkP n l i) ∧ (sinkP n l i).Perm l
  | 0, _, _, h, _, _, _ => by omega
  | n + 1, l, i, hn, hi, h1, h2 => by
    have po := pick_or l i 2
    have pl := pick_lt hi 2
    have pe := pick_le l i 2
    unfold sinkP
    by_cases hc : pickP l i 2 = i
    · rw [if_pos hc]
      refine ⟨fun j j0 jl => ?_, List.Perm.refl _⟩
      by_cases e : (j - 1) / 2 = i
      · rw [hc] at pe
        obtain ⟨k, hk⟩ : ∃ k, j = 2 * i + 1 + k := ⟨j - (2 * i + 1), by omega⟩
        subst hk
        rw [e]
        exact pe.2 k (by omega) jl
      · exact h1 j j0 jl e
    · rw [if_neg hc]
      have po' : 2 * i + 1 ≤ pickP l i 2 ∧ pickP l i 2 < 2 * i + 1 + 2 := by rcases po with h | h; exact absurd h hc; exact h
      generalize pickP l i 2 = p at *
      have hpi : (p - 1) / 2 = i := by omega
      have key := sink_ok n (swapE l i p) p (by rw [swapE_len]; omega) (by rw [swapE_len]; exact pl) ?_ ?_
      · exact ⟨key.1, key.2.trans (swapE_perm hi pl)⟩
      · intro j j0 jl jn
        rw [swapE_len] at jl
        rw [swapE_at hi pl, swapE_at hi pl, if_neg jn]
        by_cases e1 : (j - 1) / 2 = i
        · rw [if_pos e1]
          obtain ⟨k, hk⟩ : ∃ k, j = 2 * i + 1 + k := ⟨j - (2 * i + 1), by omega⟩
          by_cases e2 : j = p
          · rw [if_pos e2]; exact pe.1
          · rw [if_neg e2, if_neg (by omega)]
            subst hk
            exact pe.2 k (by omega) jl
        · rw [if_neg e1]
          by_cases e2 : j = p
          · exfalso; subst e2; exact e1 hpi
          · rw [if_neg e2]
            by_cases e3 : j = i
            · rw [if_pos e3]
              subst e3
              exact h2 p j0 pl (by omega) hpi
            · rw [if_neg e3]
              exact h1 j j0 jl e1
      · intro j p0 jl j0 ju
        rw [swapE_len] at jl
        rw [swapE_at hi pl, swapE_at hi pl, hpi, if_neg (by omega), if_pos rfl, if_neg (by omega), if_neg (by omega)]
        have := h1 j j0 jl (by omega)
        rw [ju] at this
        exact this

/-- What Pop leaves of x :: l. -/
def cutP (l : List Entry) : List Entry := (l.set 0 (entAt l (l.length - 1))).take (l.length - 1)
def popP (l : List Entry) : List Entry := sinkP l.length (cutP l) 0
theorem cut_len (l : List Entry) : (cutP l).length = l.length - 1 := by simp [cutP]
theorem cut_at {l : List Entry} {k : Nat} (hk : k < l.length - 1) : entAt (cutP l) k = if k = 0 then entAt l (l.length - 1) else entAt l k := by
  rw [← entAt_set (by omega)]
  unfold cutP entAt
  simp only [List.getD_eq_getElem?_getD, List.getElem?_take, hk, if_true]
theorem cut_perm (x : Entry) (l : List Entry) : (x :: cutP (x :: l)).Perm (x :: l) := by
  unfold cutP
  rw [List.length_cons, Nat.add_sub_cancel, List.set_cons_zero]
  rcases List.eq_nil_or_concat l with h | ⟨m, y, h⟩
  · subst h; exact List.Perm.refl _
  · rw [List.concat_eq_append] at h
    subst h
    have : entAt (x :: (m ++ [y])) (m ++ [y]).length = y := by simp [entAt]
    rw [this]
    have e2 : (y :: (m ++ [y])).take (m ++ [y]).length = y :: m := by simp
    rw [e2]
    exact (List.perm_append_comm (l₁ := [y]) (l₂ := m)).cons x
theorem sink_nil (n : Nat) : sinkP n [] 0 = [] := by
  cases n with
  | zero => rfl
  | succ n => unfold sinkP; rw [if_pos (pick_nil [] (by simp) 2)]
theorem pop_ok {x : Entry} {l : List Entry} (h : HI (x :: l)) : HI (popP (x :: l)) ∧ (x :: popP (x :: l)).Perm (x :: l) ∧ ∀ y ∈ x :: l, leE x y := by
  have ht : ∀ y ∈ x :: l, leE x y := by
    intro y hy
    obtain ⟨i, hi, rfl⟩ := List.mem_iff_getElem.1 hy
    have := h.top i i (Nat.le_refl _) hi
    rw [entAt_get hi] at this
    exact this
  have hp := cut_perm x l
  have hl := cut_len (x :: l)
  simp only [List.length_cons, Nat.add_sub_cancel] at hl
  by_cases hn : l.length = 0
  · have hz : cutP (x :: l) = [] := List.eq_nil_of_length_eq_zero (by omega)
    unfold popP
    rw [hz] at hp ⊢
    rw [sink_nil]
    exact ⟨fun j j0 jl => by simp at jl, hp, ht⟩
  · have key := sink_ok (x :: l).length (cutP (x :: l)) 0 (by simp only [List.length_cons]; omega) (by omega) ?_ (fun j h0 => by omega)
    · exact ⟨key.1, (key.2.cons x).trans hp, ht⟩
    · intro j j0 jl jn
      rw [cut_at (by simp only [List.length_cons]; omega), cut_at (by simp only [List.length_cons]; omega), if_neg jn, if_neg (by omega)]
      exact h j j0 (by simp only [List.length_cons]; omega)

/-- In order. -/
def Srt (l : List Entry) : Prop := l.Pairwise leE
def ins (x : Entry) : List Entry → List Entry
  | [] => [x]
  | y :: l => if lessE y x = true then y :: ins x l else x :: y :: l
theorem ins_perm (x : Entry) : ∀ l, (ins x l).Perm (x :: l)
  | [] => List.Perm.refl _
  | y :: l => by
    unfold ins; split
    · exact ((ins_perm x l).cons y).trans (List.Perm.swap _ _ _)
    · exact List.Perm.refl _
theorem ins_srt (x : Entry) : ∀ l, Srt l → Srt (ins x l)
  | [], _ => List.pairwise_singleton _ _
  | y :: l, h => by
    have h' := List.pairwise_cons.1 h
    unfold ins; split
    · rename_i hl
      refine List.pairwise_cons.2 ⟨fun z hz => ?_, ins_srt x l h'.2⟩
      rcases List.mem_cons.1 ((ins_perm x l).mem_iff.1 hz) with e | e
      · subst e; exact leE_of_less hl
      · exact h'.1 z e
    · rename_i hl
      have hl' : leE x y := by unfold leE; simpa using hl
      refine List.pairwise_cons.2 ⟨fun z hz => ?_, h⟩
      rcases List.mem_cons.1 hz with e | e
      · subst e; exact hl'
      · exact leE_trans hl' (h'.1 z e)
theorem srt_uniq : ∀ {l m : List Entry}, Srt l → Srt m → l.Perm m → l = m
  | [], m, _, _, h => (List.Perm.nil_eq h)
  | x :: l, [], _, _, h => absurd (List.Perm.length_eq h) (by simp)
  | x :: l, y :: m, hl, hm, h => by
    have hl' := List.pairwise_cons.1 hl
    have hm' := List.pairwise_cons.1 hm
    have e : x = y := by
      refine leE_antisymm ?_ ?_
      · rcases List.mem_cons.1 (h.symm.mem_iff.1 (List.mem_cons_self)) with e | e
        · rw [e]; exact leE_refl _
        · exact hl'.1 y e
      · rcases List.mem_cons.1 (h.mem_iff.1 (List.mem_cons_self)) with e | e
        · rw [e]; exact leE_refl _
        · exact hm'.1 x e
    subst e
    rw [srt_uniq hl'.2 hm'.2 (List.Perm.cons_inv h)]
/-- A heap l that holds what S holds in order. -/
structure HS (l S : List Entry) : Prop where
  hi : HI l
  perm : l.Perm S
  srt : Srt S
theorem HS.nil : HS [] [] := ⟨fun j _ h => by simp at h, List.Perm.refl _, List.Pairwise.nil⟩
theorem HS.push {l S : List Entry} (h : HS l S) (x : Entry) : HS (pushP l x) (ins x S) :=
  ⟨(push_ok h.hi x).1, (push_ok h.hi x).2.trans ((h.perm.cons x).trans (ins_perm x S).symm), ins_srt x S h.srt⟩
theorem HS.len {l S : List Entry} (h : HS l S) : l.length = S.length := h.perm.length_eq
theorem HS.pop {x : Entry} {l S : List Entry} (h : HS (x :: l) S) : ∃ S', S = x :: S' ∧ HS (popP (x :: l)) S' := by
  obtain ⟨h1, h2, h3⟩ := pop_ok h.hi
  cases S with
  | nil => exact absurd h.len (by simp)
  | cons y S =>
    have hs := List.pairwise_cons.1 h.srt
    have e : x = y := by
      refine leE_antisymm (h3 y (h.perm.symm.mem_iff.1 List.mem_cons_self)) ?_
      rcases List.mem_cons.1 (h.perm.mem_iff.1 (List.mem_cons_self)) with e | e
      · rw [e]; exact leE_refl _
      · exact hs.1 x e
    subst e
    exact ⟨S, rfl, h1, List.Perm.cons_inv (h2.trans h.perm), hs.2⟩
end Go.Proofs.Ytplimabdnpepjaa
