/- A row of scalars that is mine, though its cap may be less than its block holds: read, one more, one away. Conditions: none. -/
import Derived.Test.YtckimhfbbfpddaaFlat
import Derived.Deep.RegionLaw
import Derived.Deep.RegionLawGrows
namespace Go.Proofs.Ytckimhfbbfpddaa
open Go.RowKit Go.Proofs.YtckimhfbbfpddaaW.PrintWords Lb

section
variable {α : Type} {enc : α → Value} {h1 : ∀ x, (enc x).oneCell' = true}
/-- Full: as long as its cap, at the start of a block of mine. -/
def Full (enc : α → Value) (e : Nat) (w : World) (F : Nat → Prop) (v : Value) (xs : List α) : Prop :=
  ∃ g cells, v = .slice (some ⟨g, 0, none⟩) xs.length xs.length ∧ F g ∧ w.heap[g]? = some (.cells cells e (0, 0)) ∧ xs.length ≤ 1000000 ∧ ∀ (i : Nat) (x : α), xs[i]? = some x → cells[i]? = some (enc x)
def Rz (enc : α → Value) (h1 : ∀ x, (enc x).oneCell' = true) (e : Nat) (w : World) (F : Nat → Prop) (v : Value) (xs : List α) : Prop :=
  (Kd.scalar enc h1).R e w 0 F v xs ∨ Full enc e w F v xs
theorem Rz.nil (e : Nat) (w : World) (F : Nat → Prop) : Rz enc h1 e w F (.slice none 0 0) [] := .inl (Kd.R_nil _ _ _ _ _)
theorem Full.c {e : Nat} {w : World} {F : Nat → Prop} {v : Value} {xs : List α} (h : Full enc e w F v xs) : ∃ g, v = .slice (some ⟨g, 0, none⟩) xs.length xs.length ∧ (Kd.scalar enc h1).C w (some ⟨g, 0, none⟩) xs.length xs := by
  obtain ⟨g, cells, rfl, _, hb, hl, hx⟩ := h
  refine ⟨g, rfl, rfl, by omega, fun _ => ⟨_, rfl, fun j p hj => ⟨[enc p], rfl, rfl, fun i u hu => ?_⟩⟩⟩
  have hi : i = 0 := by
    have := (List.getElem?_eq_some_iff.1 hu).1
    simpa using this
  subst hi
  have hu' : enc p = u := by simpa using hu
  subst hu'
  rw [add_plain, blk_cell hb]
  simpa [Kd.scalar] using hx j p hj
theorem Rz.reads {e : Nat} {w : World} {F : Nat → Prop} {v : Value} {xs : List α} (h : Rz enc h1 e w F v xs) : ∃ A c, v = .slice A xs.length c ∧ xs.length ≤ c ∧ (Kd.scalar enc h1).C w A xs.length xs := by
  rcases h with h | h
  · exact Kd.R_reads h
  · obtain ⟨g, rfl, hC⟩ := h.c (h1 := h1)
    exact ⟨_, _, rfl, Nat.le_refl _, hC⟩
theorem Rz.chg {e : Nat} {w w1 : World} {F G : Nat → Prop} {v : Value} {xs : List α} (h : Rz enc h1 e w F v xs) (hc : Chg G w w1) (hd : ∀ k, F k → ¬ G k) : Rz enc h1 e w1 F v xs := by
  rcases h with h | ⟨g, cells, rfl, hF, hb, hl, hx⟩
  · exact .inl (R_chg h hc hd)
  · exact .inr ⟨g, cells, rfl, hF, hc.blk hb (hd g hF), hl, hx⟩
theorem Rz.mono {e : Nat} {w : World} {F G : Nat → Prop} {v : Value} {xs : List α} (h : Rz enc h1 e w F v xs) (hd : ∀ k, F k → G k) : Rz enc h1 e w G v xs := by
  rcases h with h | ⟨g, cells, rfl, hF, hb, hl, hx⟩
  · exact .inl (Kd.R_mono h hd)
  · exact .inr ⟨g, cells, rfl, hd g hF, hb, hl, hx⟩
/-- The block under it. -/
theorem Rz.form {e : Nat} {w : World} {F : Nat → Prop} {v : Value} {xs : List α} (h : Rz enc h1 e w F v xs) (h0 : 0 < xs.length) : ∃ g c cells, v = .slice (some ⟨g, 0, none⟩) xs.length c ∧ F g ∧ w.heap[g]? = some (.cells cells e (0, 0)) ∧ xs.length ≤ c ∧ ∀ (i : Nat) (x : α), xs[i]? = some x → cells[i]? = some (enc x) := by
  rcases h with h | ⟨g, cells, rfl, hF, hb, hl, hx⟩
  · have ho := Kd.own_of_R h
    obtain ⟨hl, ⟨hv, hn⟩ | ⟨g, cap, cur, hv, hb, hh, hnc, hcm, hcs, htk⟩⟩ := ho
    · omega
    · subst hv
      refine ⟨g, cap, cur, rfl, h.1 g (by simp [Value.ownBlock]), hh, hnc, fun i x hi => ?_⟩
      have hil := (List.getElem?_eq_some_iff.1 hi).1
      have h2 : (cur.toList.take (xs.length * 1))[i]? = (encs enc xs)[i]? := by rw [htk]
      rw [List.getElem?_take_of_lt (by omega)] at h2
      rw [← Array.getElem?_toList, h2]
      simp [encs, hi]
  · exact ⟨g, _, cells, rfl, hF, hb, Nat.le_refl _, hx⟩
end

section
variable {P : Program}
theorem cut_both (t e : TypeId) {i : TypeInfo} (ht : P.underlying t = some (.slice e)) (hi : P.info? e = some i) (A : Option Addr) (n c : Nat) (j : Nat) (hm : j ≤ n) (hc : n ≤ c) :
    ∀ W : World, (Instr.slice t (.slice A n c) none (some (.int .i64 (j : Int))) (some (.int .i64 (j : Int)))).run P W = .ok (.slice A j j) W := by
  intro W
  have hel : P.elem t = e := by simp [Program.elem, ht]
  have hu : P.underlying t = some (.slice (P.elem t)) := by rw [hel]; exact ht
  have ha : (A.map fun x => x.add 0) = A := by cases A <;> simp [Addr.add]
  rw [run_slice_hm W t A n c hu .i64 .i64 (j : Int) (j : Int) (by omega) (by omega) (by omega), hel]
  simp [sizeOf, typeInfo, hi, sliced, Result.andThen, ha]
end

section
variable {P : Program} {ops : Array Oper} {rest : List Oper} {o : Oper} {a : Act} {Q : Exit → Act → World → Prop} {α : Type} {enc : α → Value} {h1 : ∀ x, (enc x).oneCell' = true}
/-- One more. -/
theorem Rz_push {W : World} (F : Nat → Prop) (hgd : o.guard = none) (s x : Operand) (t e : TypeId) (z : Value) (bytes : Nat)
    (ho : o.op = .call { callee := .builtin .append, args := #[s, x], argTypes := #[t, t] })
    (ht : P.underlying t = some (.slice e)) (hinfo : (P.info? e).map (fun i => (i.zero, i.size, i.bytes)) = some (some z, 1, bytes)) (hz : z.cells.size = 1) (hb0 : 0 < bytes)
    (v : Value) (xs : List α) (p : α) (N : Nat) (hN : W.heap.size = N) (hs : a.eval s = v) (hx : a.eval x = .slice (some ⟨N, 0, none⟩) 1 1)
    (HO : Rz enc h1 e W F v xs) (hl : (xs.length + 1) * bytes ≤ 140737488355328) (hl2 : xs.length ≤ 1000000)
    (h : ∀ v1 w1 F1, Rz enc h1 e w1 F1 v1 (xs ++ [p]) → (∀ k, F1 k → k < w1.heap.size) → (∀ k, F1 k → F k ∨ W.heap.size ≤ k) → Chg F W w1 → wpList P ops Q rest (a.put o.dst v1) w1) :
    wpList P ops Q (o :: rest) a (W.alloc (.cells #[enc p] e)) := by
  rcases HO with HO | ⟨g, cells, rfl, hF, hb, hll, hcx⟩
  · refine R_pushN (Kd.scalar enc h1) 0 F hgd s x t e z bytes ho ht hinfo hz Nat.one_pos hb0 v xs p [enc p] (fun _ => False) N hN hs hx rfl (fun _ h => h.elim) HO (Nat.zero_le _) hl ?_
    intro v1 w1 F1 a1 a2 a3 a4
    exact h v1 w1 F1 (.inl a1) a2 a3 a4
  · obtain ⟨i, hi, hi2⟩ := Option.map_eq_some_iff.1 hinfo
    obtain ⟨hi3, hi4, hi5⟩ : i.zero = some z ∧ i.size = 1 ∧ i.bytes = bytes := by simpa using hi2
    have hbW : (W.alloc (.cells #[enc p] e)).heap[g]? = some (.cells cells e (0, 0)) := ((Chg.refl Non W).alloc _).blk hb (fun e => e)
    subst hN
    refine wpList_append_grows (W.alloc (.cells #[enc p] e)) hgd s x t ho e i z 1 bytes ht hi hi3 hi4 hi5 hz (by decide) (some ⟨g, 0, none⟩) xs.length xs.length (encs enc xs) hs (fun e => by cases e) (by simp [encs]) ?_ ⟨W.heap.size, 0, none⟩ 1 1 [enc p] hx rfl ?_ ?_ (by omega) (by unfold maxLen; omega) hl ?_
    · intro b' hb' j u hu
      injection hb' with hb'
      subst hb'
      rw [add_plain, blk_cell hbW]
      obtain ⟨y, hy, rfl⟩ : ∃ y, xs[j]? = some y ∧ enc y = u := by simpa [encs] using hu
      exact hcx j y hy
    · intro j u hu
      have hj : j = 0 := by
        have := (List.getElem?_eq_some_iff.1 hu).1
        simpa using this
      subst hj
      have hu' : enc p = u := by simpa using hu
      subst hu'
      rw [add_plain, blk_cell (blk_new W _)]
      rfl
    · intro u hu
      rw [List.mem_singleton.1 hu]
      exact h1 p
    · intro v' w' hown hgr
      have hown2 : w'.ownsRow (W.alloc (.cells #[enc p] e)).heap.size e 1 v' (xs ++ [p]).length (encs enc (xs ++ [p])) := by simpa [encs] using hown
      have hR : (Kd.scalar enc h1).R e w' (W.alloc (.cells #[enc p] e)).heap.size (fun k => W.heap.size ≤ k ∧ k < w'.heap.size) v' (xs ++ [p]) := by
        have h3 : (Kd.scalar enc h1).R e w' (W.alloc (.cells #[enc p] e)).heap.size (fun _ => True) v' (xs ++ [p]) := Kd.R_of_own hown2 (fun _ _ => trivial)
        refine Kd.R_mono (Kd.R_bound h3) (fun k hk => ⟨?_, hk.2.2.1⟩)
        have := hk.2.1
        simp at this
        omega
      refine h v' w' (fun k => W.heap.size ≤ k ∧ k < w'.heap.size) (.inl ?_) (fun k hk => hk.2) (fun k hk => .inr hk.1) ?_
      · exact Kd.R_of_own (by
          have := Kd.own_of_R hR
          obtain ⟨q1, q2⟩ := this
          exact ⟨q1, q2.imp id (fun ⟨g, cap, cur, a, b, c⟩ => ⟨g, cap, cur, a, Nat.zero_le _, c⟩)⟩) hR.1
      · exact (((Chg.refl F W).alloc _).trans (Chg.of_grown hgr (F := Non) (fun k e => by cases e)) (fun i e => e.elim))
/-- One away: append(xs[:k:k], xs[k+1:]...), as a step of a region that draws its order. -/
theorem Rz_del {W : World} {Kc : Act → World → Prop} {E : Prop} (F : Nat → Prop) (hgd : o.guard = none) (s x : Operand) (t e : TypeId) (z : Value) (bytes : Nat)
    (ho : o.op = .call { callee := .builtin .append, args := #[s, x], argTypes := #[t, t] })
    (ht : P.underlying t = some (.slice e)) (hinfo : (P.info? e).map (fun i => (i.zero, i.size, i.bytes)) = some (some z, 1, bytes)) (hz : z.cells.size = 1)
    (A A2 : Option Addr) (c c2 : Nat) (xs : List α) (k m : Nat) (hm : xs.length = k + 1 + m) (HO : Rz enc h1 e W F (.slice A xs.length c) xs) (hA2 : A2 = if c = k + 1 then A else A.map (·.add (k + 1)))
    (hs : a.eval s = .slice A k k) (hx : a.eval x = .slice A2 m c2) (hl : xs.length * bytes ≤ 140737488355328) (hl2 : xs.length ≤ 1000000) (hlt : ∀ k, F k → k < W.heap.size)
    (h : ∀ v1 w1 F1, Rz enc h1 e w1 F1 v1 (xs.eraseIdx k) → (∀ k, F1 k → k < w1.heap.size) → (∀ k, F1 k → F k ∨ W.heap.size ≤ k) → Chg F W w1 → Kc (a.put o.dst v1) w1) :
    if Region.wanted o (yielded ops a.tmps) = true then Oper.wp P o a W Kc Q else E := by
  obtain ⟨i, hi, hi2⟩ := Option.map_eq_some_iff.1 hinfo
  obtain ⟨hi3, hi4, hi5⟩ : i.zero = some z ∧ i.size = 1 ∧ i.bytes = bytes := by simpa using hi2
  obtain ⟨g, c', cells, hv, hF, hb, hc, hcx⟩ := HO.form (by omega)
  injection hv with hA _ hcc
  subst hA
  subst hcc
  have hel : (xs.eraseIdx k).length = k + m := by rw [List.length_eraseIdx_of_lt (by omega)]; omega
  rcases Nat.eq_zero_or_pos m with h0 | h0
  · subst h0
    obtain ⟨ad, had⟩ : ∃ ad, A2 = some ad := by
      rw [hA2]
      split
      · exact ⟨_, rfl⟩
      · exact ⟨_, rfl⟩
    rw [had] at hx
    refine step_append_room hgd s x t ho e i 1 ht hi hi4 g 0 k k hs ad 0 c2 [] hx rfl (fun j u hu => by simp at hu) (fun u hu => by simp at hu) (Nat.le_refl _) (fun j hj => by simp at hj) ?_
    have hw : W.setCells g (0 + k * 1) [] = W := by simp [World.setCells]
    rw [hw]
    refine h _ W F (.inr ⟨g, cells, by rw [hel]; simp, hF, hb, by omega, fun j y hy => ?_⟩) hlt (fun k hk => .inl hk) (Chg.refl _ _)
    have hjl := (List.getElem?_eq_some_iff.1 hy).1
    rw [hel] at hjl
    rw [List.getElem?_eraseIdx, if_pos (by omega)] at hy
    exact hcx j y hy
  · rw [if_neg (by omega)] at hA2
    subst hA2
    have hx' : a.eval x = .slice (some ⟨g, k + 1, none⟩) m c2 := by
      rw [hx]
      simp [Addr.add]
    refine step_append_grows hgd s x t ho e i z 1 bytes ht hi hi3 hi4 hi5 hz (by decide) (some ⟨g, 0, none⟩) k k (encs enc (xs.take k)) hs (fun e => by cases e) (by simp [encs]; omega) ?_ ⟨g, k + 1, none⟩ m c2 (encs enc (xs.drop (k + 1))) hx' (by simp [encs]; omega) ?_ ?_ (by omega) (by unfold maxLen; omega) (Nat.le_trans (Nat.mul_le_mul_right _ (by omega)) hl) ?_
    · intro b' hb' j u hu
      injection hb' with hb'
      subst hb'
      rw [add_plain, blk_cell hb]
      obtain ⟨y, hy, rfl⟩ : ∃ y, (xs.take k)[j]? = some y ∧ enc y = u := by
        unfold encs at hu
        rw [List.getElem?_map] at hu
        simpa only [Option.map_eq_some_iff] using hu
      have hjl := (List.getElem?_eq_some_iff.1 hy).1
      rw [List.length_take] at hjl
      rw [List.getElem?_take_of_lt (by omega)] at hy
      exact hcx j y hy
    · intro j u hu
      obtain ⟨y, hy, rfl⟩ : ∃ y, (xs.drop (k + 1))[j]? = some y ∧ enc y = u := by
        unfold encs at hu
        rw [List.getElem?_map] at hu
        simpa only [Option.map_eq_some_iff] using hu
      rw [List.getElem?_drop] at hy
      have ha : (Addr.mk g (k + 1) none).add j = ⟨g, k + 1 + j, none⟩ := by
        unfold Addr.add
        split
        · next e => subst e; rfl
        · rfl
      rw [ha, blk_cell hb]
      exact hcx _ y hy
    · intro u hu
      obtain ⟨y, _, rfl⟩ := List.mem_map.1 hu
      exact h1 y
    · intro v' w' hown hgr
      have heq : encs enc (xs.take k) ++ encs enc (xs.drop (k + 1)) = encs enc (xs.eraseIdx k) := by
        rw [List.eraseIdx_eq_take_drop_succ]
        simp [encs]
      rw [heq] at hown
      have hown2 : w'.ownsRow W.heap.size e 1 v' (xs.eraseIdx k).length (encs enc (xs.eraseIdx k)) := by rw [hel]; exact hown
      have h3 : (Kd.scalar enc h1).R e w' W.heap.size (fun _ => True) v' (xs.eraseIdx k) := Kd.R_of_own hown2 (fun _ _ => trivial)
      have h4 := Kd.R_bound h3
      refine h v' w' (fun k => W.heap.size ≤ k ∧ k < w'.heap.size) (.inl ?_) (fun k hk => hk.2) (fun k hk => .inr hk.1) (Chg.of_grown hgr (fun k e => by cases e))
      refine Kd.R_of_own ?_ (fun k hk => ⟨(h4.1 k hk).2.1, (h4.1 k hk).2.2.1⟩)
      obtain ⟨q1, q2⟩ := hown2
      exact ⟨q1, q2.imp id (fun ⟨g, cap, cur, a, b, c⟩ => ⟨g, cap, cur, a, Nat.zero_le _, c⟩)⟩
end
end Go.Proofs.Ytckimhfbbfpddaa
