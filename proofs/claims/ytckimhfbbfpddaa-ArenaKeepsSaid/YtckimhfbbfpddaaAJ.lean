/- Plain: an arena, the numbers that are taken in it, and their things. Conditions: none. -/
import Derived.Test.YtckimhfbbfpddaaAQ
namespace Go.Proofs.Ytckimhfbbfpddaa
open Go.RowKit

/-- The numbers ns are taken, slot by slot the things ts; fs are the free ones, in the order of the arena's chain. -/
structure Kp (s : Ar Int) (ns ts fs : List Int) : Prop where
  v : V s
  ch : Chain s.slots s.free fs
  nd : fs.Nodup
  len : ns.length + fs.length = s.slots.length
  n : s.n = ns.length
  tl : ts.length = ns.length
  tk : ∀ (j : Nat) (i : Int), ns[j]? = some i → ∃ (k : Nat) (x : Slot Int), i = (k : Int) + 1 ∧ s.slots[k]? = some x ∧ x.taken = true ∧ ts[j]? = some x.x
  nn : ns.Nodup
theorem kp_new : Kp ⟨[], 0, 0⟩ [] [] [] := ⟨V_new, rfl, List.nodup_nil, rfl, rfl, rfl, fun j i h => by simp at h, List.nodup_nil⟩

section
variable {s : Ar Int} {ns ts fs : List Int}
theorem Kp.range (h : Kp s ns ts fs) {i : Int} (hi : i ∈ ns) : 1 ≤ i ∧ i ≤ s.slots.length := by
  obtain ⟨j, hj⟩ := List.mem_iff_getElem?.1 hi
  obtain ⟨k, x, rfl, hx, _, _⟩ := h.tk j i hj
  have := (List.getElem?_eq_some_iff.1 hx).1
  omega
/-- One more is taken: a new number, and slots enough. -/
theorem Kp.take (h : Kp s ns ts fs) (y : Int) : ∃ fs', ¬ takeN s ∈ ns ∧ Kp (takeP y s) (ns ++ [takeN s]) (ts ++ [y]) fs' ∧ (takeP y s).slots.length = max s.slots.length (ns.length + 1) := by
  have hv := V_take h.v y
  have hlen := h.len
  have htl := h.tl
  cases fs with
  | nil =>
    have h0 : s.free = 0 := h.ch
    have hN : takeN s = (s.slots.length : Int) + 1 := by rw [takeN, if_pos h0]
    have hnot : ¬ takeN s ∈ ns := fun e => by have := h.range e; omega
    rw [hN] at hnot ⊢
    rw [take_new y h0] at hv ⊢
    simp only [List.length_nil, Nat.add_zero] at hlen
    refine ⟨[], hnot, ⟨hv, rfl, List.nodup_nil, by simp [hlen], by simp [h.n], by simp [htl], fun j i hj => ?_, ?_⟩, by simp; omega⟩
    · rcases Nat.lt_or_ge j ns.length with hk | hk
      · rw [List.getElem?_append_left hk] at hj
        obtain ⟨k, x, hi, hx, ht, hq⟩ := h.tk j i hj
        exact ⟨k, x, hi, by show (s.slots ++ [_])[k]? = _; rw [List.getElem?_append_left (List.getElem?_eq_some_iff.1 hx).1]; exact hx, ht, by rw [List.getElem?_append_left (by omega)]; exact hq⟩
      · have hj1 := (List.getElem?_eq_some_iff.1 hj).1
        simp at hj1
        obtain rfl : j = ns.length := by omega
        simp at hj
        subst hj
        exact ⟨s.slots.length, ⟨y, true, 0⟩, rfl, by simp, rfl, by rw [← htl]; simp⟩
    · rw [List.nodup_append]
      refine ⟨h.nn, by simp, fun a ha b hb e => ?_⟩
      obtain rfl := List.mem_singleton.1 hb
      subst e
      exact hnot ha
  | cons i fs =>
    obtain ⟨hf, k, x, rfl, hx, ht, hc⟩ := h.ch
    have hk := (List.getElem?_eq_some_iff.1 hx).1
    have hN : takeN s = (k : Int) + 1 := by rw [takeN, if_neg (by omega), hf]
    have hnot : ¬ takeN s ∈ ns := fun e => by
      obtain ⟨j, hj⟩ := List.mem_iff_getElem?.1 e
      obtain ⟨m, z, hm, hz, hzt, _⟩ := h.tk j _ hj
      obtain rfl : k = m := by omega
      rw [hx] at hz
      injection hz with hz
      subst hz
      rw [ht] at hzt
      cases hzt
    rw [hN] at hnot ⊢
    rw [take_old y hf hx] at hv ⊢
    have hnd := List.nodup_cons.1 h.nd
    simp only [List.length_cons] at hlen
    refine ⟨fs, hnot, ⟨hv, chain_set _ k _ _ hc hnd.1, hnd.2, by simp; omega, by simp [h.n], by simp [htl], fun j i hj => ?_, ?_⟩, by simp; omega⟩
    · rcases Nat.lt_or_ge j ns.length with hkj | hkj
      · rw [List.getElem?_append_left hkj] at hj
        obtain ⟨m, z, hi, hz, hzt, hq⟩ := h.tk j i hj
        have hne : k ≠ m := fun e => by
          subst e
          rw [hx] at hz
          injection hz with hz
          subst hz
          rw [ht] at hzt
          cases hzt
        exact ⟨m, z, hi, by show (s.slots.set k _)[m]? = _; rw [List.getElem?_set_ne hne]; exact hz, hzt, by rw [List.getElem?_append_left (by omega)]; exact hq⟩
      · have hj1 := (List.getElem?_eq_some_iff.1 hj).1
        simp at hj1
        obtain rfl : j = ns.length := by omega
        simp at hj
        subst hj
        exact ⟨k, ⟨y, true, 0⟩, rfl, List.getElem?_set_self hk, rfl, by rw [← htl]; simp⟩
    · rw [List.nodup_append]
      refine ⟨h.nn, by simp, fun a ha b hb e => ?_⟩
      obtain rfl := List.mem_singleton.1 hb
      subst e
      exact hnot ha
/-- One of them is freed: it was taken, and is not any more. -/
theorem Kp.drop (h : Kp s ns ts fs) {j : Nat} {i : Int} (hj : ns[j]? = some i) : isS s i = true ∧ isS (freeP 0 i s) i = false ∧ (freeP 0 i s).slots.length = s.slots.length ∧ Kp (freeP 0 i s) (ns.eraseIdx j) (ts.eraseIdx j) (i :: fs) := by
  obtain ⟨k, x, rfl, hx, ht, hq⟩ := h.tk j i hj
  have hjl := (List.getElem?_eq_some_iff.1 hj).1
  have hk := (List.getElem?_eq_some_iff.1 hx).1
  have hv := V_free h.v 0 ((k : Int) + 1)
  obtain ⟨he, hi⟩ := free_yes (0 : Int) hx ht
  have hlen := h.len
  have htl := h.tl
  refine ⟨hi, ?_, free_len s 0 _, ?_⟩
  · rw [he]
    unfold isS
    rw [show ((k : Int) + 1 - 1).toNat = k by omega]
    have hh : (⟨s.slots.set k ⟨0, false, s.free⟩, (k : Int) + 1, s.n - 1⟩ : Ar Int).slots[k]? = some ⟨0, false, s.free⟩ := List.getElem?_set_self hk
    rw [hh]
    simp
  · rw [he] at hv ⊢
    have hnot := chain_taken h.ch hx ht
    have herase : ∀ m : Nat, (ns.eraseIdx j)[m]? = if m < j then ns[m]? else ns[m + 1]? := fun m => List.getElem?_eraseIdx
    have herase2 : ∀ m : Nat, (ts.eraseIdx j)[m]? = if m < j then ts[m]? else ts[m + 1]? := fun m => List.getElem?_eraseIdx
    have hstep : ∀ (m : Nat) (i : Int), m ≠ j → ns[m]? = some i → ∃ (k' : Nat) (x' : Slot Int), i = (k' : Int) + 1 ∧ (s.slots.set k ⟨0, false, s.free⟩)[k']? = some x' ∧ x'.taken = true ∧ ts[m]? = some x'.x := by
      intro m i hmj hm
      obtain ⟨k', x', hi', hx', ht', hq'⟩ := h.tk m i hm
      have hne : k ≠ k' := fun e => by
        subst e
        subst hi'
        exact hmj ((List.getElem?_inj (List.getElem?_eq_some_iff.1 hm).1 h.nn).1 (hm.trans hj.symm))
      exact ⟨k', x', hi', by rw [List.getElem?_set_ne hne]; exact hx', ht', hq'⟩
    refine ⟨hv, ⟨rfl, k, ⟨0, false, s.free⟩, rfl, List.getElem?_set_self hk, rfl, chain_set _ k _ _ h.ch hnot⟩, List.nodup_cons.2 ⟨hnot, h.nd⟩, ?_, ?_, ?_, fun m i hm => ?_, h.nn.eraseIdx j⟩
    · rw [List.length_eraseIdx_of_lt hjl, List.length_cons, List.length_set]
      omega
    · rw [List.length_eraseIdx_of_lt hjl]
      have := h.n
      show s.n - 1 = _
      omega
    · rw [List.length_eraseIdx_of_lt hjl, List.length_eraseIdx_of_lt (by omega)]
      omega
    · rw [herase] at hm
      rw [herase2]
      split at hm
      · next hlt => rw [if_pos hlt]; exact hstep m i (by omega) hm
      · next hlt => rw [if_neg hlt]; exact hstep (m + 1) i (by omega) hm
end
end Go.Proofs.Ytckimhfbbfpddaa
