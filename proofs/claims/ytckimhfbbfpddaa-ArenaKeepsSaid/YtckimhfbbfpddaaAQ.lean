/- Plain: the arena beside the document's. Conditions: none. -/
import Derived.Test.YtckimhfbbfpddaaAP
namespace Go.Proofs.Ytckimhfbbfpddaa
open Go.RowKit

/-- From f on, along what each slot says comes next: just these numbers, all free. -/
def Chain {α : Type} (slots : List (Slot α)) : Int → List Int → Prop
  | f, [] => f = 0
  | f, i :: r => f = i ∧ ∃ (k : Nat) (x : Slot α), i = (k : Int) + 1 ∧ slots[k]? = some x ∧ x.taken = false ∧ Chain slots x.next r
section
variable {α : Type} {slots : List (Slot α)}
theorem chain_set (y : Slot α) (k : Nat) : ∀ (r : List Int) (f : Int), Chain slots f r → ¬ ((k : Int) + 1) ∈ r → Chain (slots.set k y) f r
  | [], _, h, _ => h
  | i :: r, f, h, hn => by
    obtain ⟨rfl, m, x, rfl, hx, ht, h⟩ := h
    rw [List.mem_cons] at hn
    refine ⟨rfl, m, x, rfl, ?_, ht, chain_set y k r _ h (fun e => hn (.inr e))⟩
    rw [List.getElem?_set_ne (fun e => hn (.inl (by omega)))]
    exact hx
theorem chain_append (y : Slot α) : ∀ (r : List Int) (f : Int), Chain slots f r → Chain (slots ++ [y]) f r
  | [], _, h => h
  | i :: r, f, h => by
    obtain ⟨rfl, m, x, rfl, hx, ht, h⟩ := h
    refine ⟨rfl, m, x, rfl, ?_, ht, chain_append y r _ h⟩
    rw [List.getElem?_append_left (List.getElem?_eq_some_iff.1 hx).1]
    exact hx
theorem chain_un : ∀ (r : List Int) (f : Int), Chain slots f r → ∀ i ∈ r, ∃ (k : Nat) (x : Slot α), i = (k : Int) + 1 ∧ slots[k]? = some x ∧ x.taken = false
  | [], _, _, i, hi => by simp at hi
  | i :: r, f, h, j, hj => by
    obtain ⟨rfl, m, x, hi, hx, ht, h⟩ := h
    rcases List.mem_cons.1 hj with rfl | hj
    · exact ⟨m, x, hi, hx, ht⟩
    · exact chain_un r _ h j hj
theorem chain_taken {f : Int} {r : List Int} (h : Chain slots f r) {k : Nat} {x : Slot α} (hx : slots[k]? = some x) (ht : x.taken = true) : ¬ ((k : Int) + 1) ∈ r := by
  intro e
  obtain ⟨m, y, hm, hy, hu⟩ := chain_un r f h _ e
  obtain rfl : k = m := by omega
  rw [hx] at hy
  injection hy with hy
  subst hy
  rw [ht] at hu
  cases hu
end

structure Rel (s : Ar ByteArray) (L : List ByteArray) (T : List Bool) (Fr : List Int) : Prop where
  v : V s
  lT : T.length = L.length
  lS : s.slots.length = L.length
  ag : ∀ (k : Nat) (x : Slot ByteArray), s.slots[k]? = some x → T[k]? = some x.taken ∧ (x.taken = true → L[k]? = some x.x)
  ch : Chain s.slots s.free Fr.reverse
  nd : Fr.Nodup
theorem rel_new : Rel ⟨[], 0, 0⟩ [] [] [] := ⟨V_new, rfl, rfl, fun k x h => by simp at h, rfl, List.nodup_nil⟩

section
variable {s : Ar ByteArray} {L : List ByteArray} {T : List Bool} {Fr : List Int}
theorem Rel.at (h : Rel s L T Fr) (k : Nat) (hk : k < L.length) : ∃ x, s.slots[k]? = some x := ⟨_, List.getElem?_eq_getElem (by rw [h.lS]; exact hk)⟩
theorem Rel.is (h : Rel s L T Fr) (i : Int) : isS s i = (decide (1 ≤ i) && (T[(i - 1).toNat]? == some true)) := by
  unfold isS
  congr 1
  cases hx : s.slots[(i - 1).toNat]? with
  | none =>
    have h1 := List.getElem?_eq_none_iff.1 hx
    rw [List.getElem?_eq_none (by rw [h.lT, ← h.lS]; exact h1)]
    rfl
  | some x =>
    rw [(h.ag _ x hx).1]
    show x.taken = (some x.taken == some true)
    cases x.taken <;> rfl
theorem Rel.take_new (h : Rel s L T []) (y : ByteArray) : takeN s = (L.length : Int) + 1 ∧ Rel (takeP y s) (L ++ [y]) (T ++ [true]) [] := by
  have h0 : s.free = 0 := h.ch
  refine ⟨by rw [takeN, if_pos h0, h.lS], ?_⟩
  have hv := V_take h.v y
  rw [Ytckimhfbbfpddaa.take_new y h0] at hv ⊢
  refine ⟨hv, by simp [h.lT], by simp [h.lS], fun k x hx => ?_, rfl, List.nodup_nil⟩
  rcases Nat.lt_or_ge k s.slots.length with hk | hk
  · have hx' : (s.slots ++ [(⟨y, true, 0⟩ : Slot ByteArray)])[k]? = some x := hx
    rw [List.getElem?_append_left hk] at hx'
    obtain ⟨a, b⟩ := h.ag k x hx'
    have hk2 := h.lS
    have hk3 := h.lT
    exact ⟨by rw [List.getElem?_append_left (by omega)]; exact a, fun e => by rw [List.getElem?_append_left (by omega)]; exact b e⟩
  · have hx' : (s.slots ++ [(⟨y, true, 0⟩ : Slot ByteArray)])[k]? = some x := hx
    have hk1 := (List.getElem?_eq_some_iff.1 hx').1
    simp at hk1
    obtain rfl : k = s.slots.length := by omega
    simp at hx'
    subst hx'
    have hk2 := h.lS
    have hk3 := h.lT
    exact ⟨by rw [hk2, ← hk3]; simp, fun _ => by rw [hk2]; simp⟩
theorem Rel.take_old {i : Int} (h : Rel s L T (Fr ++ [i])) (y : ByteArray) : ∃ k : Nat, i = (k : Int) + 1 ∧ k < L.length ∧ takeN s = (k : Int) + 1 ∧ Rel (takeP y s) (L.set k y) (T.set k true) Fr := by
  have hc := h.ch
  rw [List.reverse_append] at hc
  obtain ⟨hf, k, x, rfl, hx, ht, hc⟩ := hc
  have hk := (List.getElem?_eq_some_iff.1 hx).1
  have hnd := List.nodup_append.1 h.nd
  refine ⟨k, rfl, by rw [← h.lS]; exact hk, by rw [takeN, if_neg (by omega), hf], ?_⟩
  have hv := V_take h.v y
  rw [Ytckimhfbbfpddaa.take_old y hf hx] at hv ⊢
  refine ⟨hv, by simp [h.lT], by simp [h.lS], fun m z hz => ?_, ?_, hnd.1⟩
  · have hz' : (s.slots.set k (⟨y, true, 0⟩ : Slot ByteArray))[m]? = some z := hz
    have hk2 := h.lS
    have hk3 := h.lT
    by_cases hm : k = m
    · subst hm
      rw [List.getElem?_set_self hk] at hz'
      injection hz' with hz'
      subst hz'
      exact ⟨by rw [List.getElem?_set_self (by omega)], fun _ => by rw [List.getElem?_set_self (by omega)]⟩
    · rw [List.getElem?_set_ne hm] at hz'
      obtain ⟨a, b⟩ := h.ag m z hz'
      exact ⟨by rw [List.getElem?_set_ne hm]; exact a, fun e => by rw [List.getElem?_set_ne hm]; exact b e⟩
  · refine chain_set _ k _ _ hc (fun e => ?_)
    have e1 : ((k : Int) + 1) ∈ Fr := by simpa using e
    exact hnd.2.2 _ e1 _ (by simp) rfl
theorem Rel.drop (h : Rel s L T Fr) (z : ByteArray) {i : Int} (hi : isS s i = true) : ∃ k : Nat, i = (k : Int) + 1 ∧ k < L.length ∧ Rel (freeP z i s) L (T.set k false) (Fr ++ [i]) := by
  have hv := V_free h.v z i
  obtain ⟨k, x, rfl, hx, ht⟩ := isS_some hi
  have hk := (List.getElem?_eq_some_iff.1 hx).1
  have hk2 := h.lS
  have hk3 := h.lT
  have hnot : ¬ ((k : Int) + 1) ∈ Fr := fun e => chain_taken h.ch hx ht (by simpa using e)
  refine ⟨k, rfl, by omega, ?_⟩
  rw [(free_yes z hx ht).1] at hv ⊢
  refine ⟨hv, by simp [h.lT], by simp [h.lS], fun m u hu => ?_, ?_, ?_⟩
  · have hu' : (s.slots.set k (⟨z, false, s.free⟩ : Slot ByteArray))[m]? = some u := hu
    by_cases hm : k = m
    · subst hm
      rw [List.getElem?_set_self hk] at hu'
      injection hu' with hu'
      subst hu'
      exact ⟨by rw [List.getElem?_set_self (by omega)], fun e => by cases e⟩
    · rw [List.getElem?_set_ne hm] at hu'
      obtain ⟨a, b⟩ := h.ag m u hu'
      exact ⟨by rw [List.getElem?_set_ne hm]; exact a, b⟩
  · rw [List.reverse_append]
    refine ⟨rfl, k, ⟨z, false, s.free⟩, rfl, List.getElem?_set_self hk, rfl, chain_set _ k _ _ h.ch (by simpa using hnot)⟩
  · rw [List.nodup_append]
    refine ⟨h.nd, by simp, fun a ha b hb e => ?_⟩
    obtain rfl := List.mem_singleton.1 hb
    subst e
    exact hnot ha
theorem Rel.write (h : Rel s L T Fr) (y : ByteArray) {k : Nat} {x : Slot ByteArray} (hx : s.slots[k]? = some x) (ht : x.taken = true) : Rel { s with slots := s.slots.set k ⟨y, true, x.next⟩ } (L.set k y) T Fr := by
  have hk := (List.getElem?_eq_some_iff.1 hx).1
  have hk2 := h.lS
  have hk3 := h.lT
  refine ⟨⟨by simpa using h.v.1, fun u hu => ?_⟩, by simp [h.lT], by simp [h.lS], fun m u hu => ?_, chain_set _ k _ _ h.ch (chain_taken h.ch hx ht), h.nd⟩
  · rw [List.length_set]
    rcases List.mem_or_eq_of_mem_set hu with hu | rfl
    · exact h.v.2 u hu
    · exact h.v.2 x (List.mem_of_getElem? hx)
  · have hu' : (s.slots.set k (⟨y, true, x.next⟩ : Slot ByteArray))[m]? = some u := hu
    by_cases hm : k = m
    · subst hm
      rw [List.getElem?_set_self hk] at hu'
      injection hu' with hu'
      subst hu'
      exact ⟨by rw [(h.ag k x hx).1, ht], fun _ => by rw [List.getElem?_set_self (by omega)]⟩
    · rw [List.getElem?_set_ne hm] at hu'
      obtain ⟨a, b⟩ := h.ag m u hu'
      exact ⟨a, fun e => by rw [List.getElem?_set_ne hm]; exact b e⟩
end
end Go.Proofs.Ytckimhfbbfpddaa
