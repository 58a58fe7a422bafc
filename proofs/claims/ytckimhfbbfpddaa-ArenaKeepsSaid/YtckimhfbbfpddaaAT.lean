/- The arena and the document's beside it: what each call does to both. Conditions: what lies in memory as told. -/
import Derived.Test.YtckimhfbbfpddaaAS
import Derived.Test.YtckimhfbbfpddaaAR
import Derived.Test.YtckimhfbbfpddaaAQ
namespace Go.Proofs.Ytckimhfbbfpddaa
open Go.RowKit Go.Proofs.YtckimhfbbfpddaaW.PrintWords Lb

section
variable {s : Ar ByteArray} {L : List ByteArray} {T : List Bool} {Fr : List Int}
theorem takeN_in (h : V s) : 0 ≤ takeN s ∧ takeN s ≤ s.slots.length + 1 := by
  unfold takeN
  have := h.1
  split <;> omega
theorem isRf {w : World} {F : Nat → Prop} {b : Nat} (h : RefS w F b L T Fr) (q : Rel s L T Fr) (i : Int) (hi0 : -2147483648 ≤ i) (hi1 : i ≤ 2147483647) :
    Calls Try.prog 21 #[.pointer (some ⟨b, 0, none⟩), .int .i64 i] w fun e w' => e = .returned (.bool (isS s i)) ∧ w = w' := by
  rw [q.is i]
  exact is_ok h q.lT i hi0 hi1
theorem takeR (q : Rel s L T Fr) (x : ByteArray) (hL : L.length ≤ 1000000) (hF : Fr.length ≤ 1000000) :
    ∃ L' T' Fr', Rel (takeP x s) L' T' Fr' ∧ L'.length ≤ L.length + 1 ∧ Fr'.length ≤ Fr.length ∧ ∀ (w : World) (F : Nat → Prop) (b : Nat), RefS w F b L T Fr →
      Calls Try.prog 17 #[.pointer (some ⟨b, 0, none⟩), .string x] w fun e w' => e = .returned (.int .i64 (takeN s)) ∧ ∃ F', RefS w' F' b L' T' Fr' ∧ (∀ k, F' k → F k ∨ w.heap.size ≤ k) ∧ Chg F w w' := by
  rcases List.eq_nil_or_concat Fr with rfl | ⟨Fr0, i, rfl⟩
  · obtain ⟨hn, q'⟩ := q.take_new x
    refine ⟨_, _, _, q', by simp, by simp, fun w F b h => ?_⟩
    rw [hn]
    exact takeR_new h x q.lT hL
  · rw [List.concat_eq_append] at q hF ⊢
    obtain ⟨k, rfl, hk, hn, q'⟩ := q.take_old x
    refine ⟨_, _, _, q', by simp, by simp, fun w F b h => ?_⟩
    rw [hn]
    refine (takeR_old k h x q.lT hk hL (by simp at hF; omega)).mono ?_
    rintro e w' ⟨rfl, h', hc⟩
    exact ⟨rfl, F, h', fun k hk => .inl hk, hc⟩
theorem dropR (q : Rel s L T Fr) (i : Int) (hi0 : -2147483648 ≤ i) (hi1 : i ≤ 2147483647) (hL : L.length ≤ 1000000) (hF : Fr.length ≤ 1000000) :
    ∃ T' Fr', Rel (freeP ByteArray.empty i s) L T' Fr' ∧ Fr'.length ≤ Fr.length + 1 ∧ ∀ (w : World) (F : Nat → Prop) (b : Nat), RefS w F b L T Fr →
      Calls Try.prog 18 #[.pointer (some ⟨b, 0, none⟩), .int .i64 i] w fun e w' => e = .returned (.bool (isS s i)) ∧ ∃ F', RefS w' F' b L T' Fr' ∧ (∀ k, F' k → F k ∨ w.heap.size ≤ k) ∧ Chg F w w' := by
  cases hi : isS s i with
  | true =>
    have h2 := q.is i
    obtain ⟨k, rfl, hk, q'⟩ := q.drop ByteArray.empty hi
    refine ⟨_, _, q', by simp, fun w F b h => drop_yes h q.lT k (by rw [q.lT]; exact hk) hL hF ?_⟩
    rw [← hi, h2]
    rfl
  | false =>
    have h2 := q.is i
    have hf : freeP ByteArray.empty i s = s := by unfold freeP; rw [if_neg (by simp [hi])]
    rw [hf]
    refine ⟨_, _, q, by omega, fun w F b h => (drop_no h q.lT i hi0 hi1 (by rw [← hi, h2]; rfl)).mono ?_⟩
    rintro e w' ⟨rfl, rfl⟩
    exact ⟨rfl, F, h, fun k hk => .inl hk, Chg.refl _ _⟩
end

theorem ArenaS.drewN {w : World} {F : Nat → Prop} {b : Nat} {s : Ar ByteArray} (h : ArenaS w F b s) (n : Nat) : ArenaS (w.drewN n) F b s := by
  obtain ⟨A, c, h⟩ := h
  exact ⟨A, c, ArS.drewN h n⟩
theorem RefS.drewN {w : World} {F : Nat → Prop} {b : Nat} {L : List ByteArray} {T : List Bool} {Fr : List Int} (h : RefS w F b L T Fr) (n : Nat) : RefS (w.drewN n) F b L T Fr :=
  h.keep ((Chg.refl Non w).drewN n) (fun _ _ e => e)
theorem cell_keep {w w1 : World} {p : Addr} {v : Value} (h : w.cell? p = some v) (hb : Below w.heap.size w w1) : w1.cell? p = some v := by
  have hl : p.block < w.heap.size := by
    unfold World.cell? at h
    rcases Nat.lt_or_ge p.block w.heap.size with hk | hk
    · exact hk
    · rw [Array.getElem?_eq_none hk] at h
      cases h
  unfold World.cell? at h ⊢
  rw [hb.block _ hl]
  exact h
theorem cell_in {w : World} {p : Addr} {v : Value} (h : w.cell? p = some v) : p.block < w.heap.size := by
  unfold World.cell? at h
  rcases Nat.lt_or_ge p.block w.heap.size with hk | hk
  · exact hk
  · rw [Array.getElem?_eq_none hk] at h
    cases h

/-- Both, far from one another. -/
structure Pl (w0 w : World) (Fa Fb : Nat → Prop) (ba bb : Nat) (s : Ar ByteArray) (L : List ByteArray) (T : List Bool) (Fr : List Int) : Prop where
  x : ArenaS w Fa ba s
  y : RefS w Fb bb L T Fr
  bl : Below w0.heap.size w0 w
  ga : ∀ k, Fa k → w0.heap.size ≤ k
  gb : ∀ k, Fb k → w0.heap.size ≤ k
  ab : ∀ k, Fa k → ¬ Fb k
section
variable {w0 w w1 : World} {Fa Fb F' : Nat → Prop} {ba bb : Nat} {s s' : Ar ByteArray} {L L' : List ByteArray} {T T' : List Bool} {Fr Fr' : List Int}
theorem Pl.ltx (h : Pl w0 w Fa Fb ba bb s L T Fr) : ∀ k, Fa k → k < w.heap.size := by
  obtain ⟨A, c, h⟩ := h.x
  exact h.lt
theorem Pl.lty (h : Pl w0 w Fa Fb ba bb s L T Fr) : ∀ k, Fb k → k < w.heap.size := by
  obtain ⟨_, _, _, _, _, _, h⟩ := h.y
  exact h.lt
theorem Pl.stepx (h : Pl w0 w Fa Fb ba bb s L T Fr) (hA : ArenaS w1 F' ba s') (hF : ∀ k, F' k → Fa k ∨ w.heap.size ≤ k) (hc : Chg Fa w w1) : Pl w0 w1 F' Fb ba bb s' L T Fr :=
  ⟨hA, h.y.keep hc (fun k a b => h.ab k b a), h.bl.trans (hc.below h.bl.size h.ga), fun k hk => by rcases hF k hk with e | e; exact h.ga k e; exact Nat.le_trans h.bl.size e, h.gb,
    fun k a b => by rcases hF k a with e | e; exact h.ab k e b; have := h.lty k b; omega⟩
theorem Pl.stepy (h : Pl w0 w Fa Fb ba bb s L T Fr) (hA : RefS w1 F' bb L' T' Fr') (hF : ∀ k, F' k → Fb k ∨ w.heap.size ≤ k) (hc : Chg Fb w w1) : Pl w0 w1 Fa F' ba bb s L' T' Fr' :=
  ⟨h.x.keep hc (fun k a b => h.ab k a b), hA, h.bl.trans (hc.below h.bl.size h.gb), h.ga, fun k hk => by rcases hF k hk with e | e; exact h.gb k e; exact Nat.le_trans h.bl.size e,
    fun k a b => by rcases hF k b with e | e; exact h.ab k a e; have := h.ltx k a; omega⟩
theorem Pl.drewN (h : Pl w0 w Fa Fb ba bb s L T Fr) (n : Nat) : Pl w0 (w.drewN n) Fa Fb ba bb s L T Fr :=
  ⟨h.x.drewN n, h.y.drewN n, h.bl.trans (((Chg.refl Non w).drewN n).below h.bl.size (fun _ e => e.elim)), h.ga, h.gb, h.ab⟩
theorem Pl.drew (h : Pl w0 w Fa Fb ba bb s L T Fr) : Pl w0 w.drew Fa Fb ba bb s L T Fr := h.drewN 1
end
end Go.Proofs.Ytckimhfbbfpddaa
