/- Rows of structs whose fields are numbers, bools and texts: such a struct's cells, written out; an element read, a field or a whole element stored. Conditions: none. -/
import Derived.Test.YtmjecgkmgfocoaaLib
namespace Go.Proofs.Ytmjecgkmgfocoaa.Lb
open Go.RowKit Go.Proofs.YtmjecgkmgfocoaaW.PrintWords

/-- A kind whose things are told by their cells alone. -/
def flatK {α : Type} (sz : Nat) (enc : α → List Value) (hl : ∀ x, (enc x).length = sz) (h1 : ∀ x, ∀ u ∈ enc x, u.oneCell' = true) : Kd α where
  sz := sz
  E := []
  K := fun _ x cs => cs = enc x
  M := fun _ _ _ x cs => cs = enc x
  K_len := fun h => by rw [h]; exact hl _
  K_one := fun h u hu => by rw [h] at hu; exact h1 _ u hu
  K_below := fun _ h => h
  K_of_M := fun h => h
  M_mono := fun _ h => h
  M_bound := fun h => h
  M_move := fun _ h => h
  M_lower := fun _ h => h

section
variable {α : Type} {sz : Nat} {enc : α → List Value} {hl : ∀ x, (enc x).length = sz} {h1 : ∀ x, ∀ u ∈ enc x, u.oneCell' = true}

def flat (enc : α → List Value) (xs : List α) : List Value := xs.flatMap enc
theorem flat_len (hl : ∀ x, (enc x).length = sz) (xs : List α) : (flat enc xs).length = xs.length * sz := by
  induction xs with
  | nil => simp [flat]
  | cons x xs ih =>
    have : flat enc (x :: xs) = enc x ++ flat enc xs := by simp [flat]
    rw [this, List.length_append, ih, hl, List.length_cons, Nat.add_mul]
    omega
theorem flat_split (xs : List α) (i : Nat) (x : α) (h : xs[i]? = some x) : flat enc xs = flat enc (xs.take i) ++ (enc x ++ flat enc (xs.drop (i + 1))) := by
  obtain ⟨hi, hx⟩ := List.getElem?_eq_some_iff.1 h
  have : xs = xs.take i ++ (x :: xs.drop (i + 1)) := by
    rw [← hx, ← List.drop_eq_getElem_cons hi, List.take_append_drop]
  conv => lhs; rw [this]
  simp [flat]
theorem flat_take_len (hl : ∀ x, (enc x).length = sz) (xs : List α) (i : Nat) (h : i ≤ xs.length) : (flat enc (xs.take i)).length = i * sz := by
  rw [flat_len hl, List.length_take, Nat.min_eq_left h]
theorem flat_get (hl : ∀ x, (enc x).length = sz) (xs : List α) (i j : Nat) (x : α) (h : xs[i]? = some x) (hj : j < sz) : (flat enc xs)[i * sz + j]? = (enc x)[j]? := by
  have hi := (List.getElem?_eq_some_iff.1 h).1
  have ht := flat_take_len hl xs i (by omega)
  rw [flat_split xs i x h, List.getElem?_append_right (by omega), ht, List.getElem?_append_left (by rw [hl]; omega)]
  congr 1
  omega
theorem flat_set (hl : ∀ x, (enc x).length = sz) (xs : List α) (i j : Nat) (x x' : α) (u : Value) (h : xs[i]? = some x) (hj : j < sz) (he : enc x' = (enc x).set j u) : (flat enc xs).set (i * sz + j) u = flat enc (xs.set i x') := by
  have hi := (List.getElem?_eq_some_iff.1 h).1
  have ht := flat_take_len hl xs i (by omega)
  have hs : (xs.set i x')[i]? = some x' := by rw [List.getElem?_set_self hi]
  rw [flat_split xs i x h, flat_split (xs.set i x') i x' hs, List.set_append_right _ _ (by omega), ht, List.set_append_left _ _ (by rw [hl]; omega), he]
  rw [List.take_set_of_le (by omega), List.drop_set_of_lt (by omega)]
  congr 3
  omega
theorem flat_reps (_hl : ∀ x, (enc x).length = sz) (xs : List α) : ∀ (cs : List Value), Reps (fun (x : α) (c : List Value) => c = enc x) sz xs cs → cs = flat enc xs := by
  induction xs with
  | nil =>
    intro cs h
    exact List.eq_nil_of_length_eq_zero (by simpa using h.1)
  | cons x xs ih =>
    intro cs h
    have h0 := h.2 0 x rfl
    simp only [Nat.zero_mul, List.drop_zero] at h0
    have ht : Reps (fun (x : α) (c : List Value) => c = enc x) sz xs (cs.drop sz) := by
      refine ⟨?_, fun j p hj => ?_⟩
      · rw [List.length_drop, h.1, List.length_cons, Nat.add_mul]; omega
      · have := h.2 (j + 1) p (by simpa using hj)
        rw [List.drop_drop, show sz + j * sz = (j + 1) * sz by rw [Nat.add_mul]; omega]
        exact this
    rw [← List.take_append_drop sz cs, ih _ ht, h0]
    simp [flat]
theorem reps_flat (hl : ∀ x, (enc x).length = sz) (xs : List α) : Reps (fun (x : α) (c : List Value) => c = enc x) sz xs (flat enc xs) := by
  refine ⟨flat_len hl xs, fun j p hj => ?_⟩
  have hi := (List.getElem?_eq_some_iff.1 hj).1
  have ht := flat_take_len hl xs j (by omega)
  rw [flat_split xs j p hj, List.drop_append_of_le_length (by omega), List.drop_eq_nil_of_le (by omega), List.nil_append, List.take_append_of_le_length (by rw [hl]; omega), List.take_of_length_le (by rw [hl]; omega)]
theorem flat_R {e : Nat} {w : World} {base : Nat} {ok : Nat → Prop} {v : Value} {xs : List α} : (flatK sz enc hl h1).R e w base ok v xs ↔ (∀ k, v.ownBlock = some k → ok k) ∧ w.ownsRow base e sz v xs.length (flat enc xs) := by
  constructor
  · rintro ⟨h0, inner, ho, hr⟩
    have := flat_reps hl xs inner hr
    subst this
    exact ⟨h0, ho⟩
  · rintro ⟨h0, ho⟩
    exact ⟨h0, _, ho, reps_flat hl xs⟩

/-- Element i: its cells; what a store at one of them makes of the row. -/
theorem F_elem {e : Nat} {w : World} {base : Nat} {ok : Nat → Prop} {A : Option Addr} {n c : Nat} {xs : List α} (h : (flatK sz enc hl h1).R e w base ok (.slice A n c) xs) (i : Nat) (x : α) (hx : xs[i]? = some x) :
    ∃ g, A = some ⟨g, 0, none⟩ ∧ ok g ∧ g < w.heap.size ∧ (∀ j u, (enc x)[j]? = some u → w.cell? ⟨g, i * sz + j, none⟩ = some u) ∧ (∀ j, w.frozen? ⟨g, j, none⟩ = false) := by
  have hi := (List.getElem?_eq_some_iff.1 hx).1
  obtain ⟨h0, ho⟩ := flat_R.1 h
  rcases ho.2 with ⟨hv, hn⟩ | ⟨g, cap, cur, hv, hb, hh, hnc, hcm, hcs, htk⟩
  · omega
  · injection hv with hA hn hc
    subst hA
    refine ⟨g, rfl, h0 g (by simp [Value.ownBlock]), blk_lt hh, fun j u hu => ?_, fun j => blk_frozen hh j⟩
    have hj : j < sz := by have := (List.getElem?_eq_some_iff.1 hu).1; rw [hl] at this; exact this
    have hcell := ho.cells (g := g) (by simp [Value.ownBlock]) (i * sz + j) u (by rw [flat_get hl xs i j x hx hj]; exact hu)
    rwa [add_plain] at hcell
theorem F_store {e : Nat} {w : World} {base : Nat} {ok : Nat → Prop} {g n c : Nat} {xs : List α} (h : (flatK sz enc hl h1).R e w base ok (.slice (some ⟨g, 0, none⟩) n c) xs) (i j : Nat) (x x' : α) (u : Value) (hx : xs[i]? = some x) (hj : j < sz) (he : enc x' = (enc x).set j u) :
    (flatK sz enc hl h1).R e (w.setCell ⟨g, i * sz + j, none⟩ u) base ok (.slice (some ⟨g, 0, none⟩) n c) (xs.set i x') := by
  obtain ⟨h0, ho⟩ := flat_R.1 h
  obtain ⟨_, hn⟩ : ∃ c', (Value.slice (some ⟨g, 0, none⟩) n c) = .slice (some ⟨g, 0, none⟩) xs.length c' := by
    rcases ho.2 with ⟨hv, _⟩ | ⟨g', cap, cur, hv, _⟩
    · cases hv
    · injection hv with hA hn hc
      exact ⟨c, by rw [hn]⟩
  injection hn with _ hn _
  subst hn
  refine flat_R.2 ⟨h0, ?_⟩
  have hs := (ho.stored (i * sz + j) u).1
  rw [flat_set hl xs i j x x' u hx hj he] at hs
  rw [List.length_set]
  exact hs
end
end Go.Proofs.Ytmjecgkmgfocoaa.Lb
