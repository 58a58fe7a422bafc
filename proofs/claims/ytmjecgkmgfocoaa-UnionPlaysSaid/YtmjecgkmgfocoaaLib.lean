/- Small words for what a call may change: a set of blocks that it may write, all others stay. Conditions: none. -/
import Derived.Test.YtmjecgkmgfocoaaWWords
import Derived.Test.YtmjecgkmgfocoaaWLast
import Derived.Test.YtmjecgkmgfocoaaWMore
import Derived.WalkKit
import Derived.KernelRfl
import Derived.BigQuiet
import Derived.Deep.QuietTactic
import Derived.Deep.LoopGhost
import Derived.Deep.DeepCutAuto
import Derived.Deep.CutBlock
import Derived.Deep.RegionHeld3
import Derived.Outline
import Derived.WideLaws
import Derived.Lib.Hide
import Derived.WalkSpells
import Derived.IntWalk
namespace Go.Proofs.Ytmjecgkmgfocoaa.Lb
open Go.RowKit Go.Proofs.YtmjecgkmgfocoaaW.PrintWords

/-- Only blocks of F, and new ones, differ. -/
structure Chg (F : Nat → Prop) (w w' : World) : Prop where
  os : w'.os = w.os
  tape : w'.tape = w.tape
  output : w'.output = w.output
  size : w.heap.size ≤ w'.heap.size
  block : ∀ k, k < w.heap.size → ¬ F k → w'.heap[k]? = w.heap[k]?

def Non : Nat → Prop := fun _ => False

theorem Chg.refl (F : Nat → Prop) (w : World) : Chg F w w := ⟨rfl, rfl, rfl, Nat.le_refl _, fun _ _ _ => rfl⟩
theorem Chg.trans {F G : Nat → Prop} {a b c : World} (h : Chg F a b) (k : Chg G b c) (hg : ∀ i, G i → F i ∨ a.heap.size ≤ i) : Chg F a c :=
  ⟨k.os.trans h.os, k.tape.trans h.tape, k.output.trans h.output, Nat.le_trans h.size k.size, fun i hi hf => by
    have h1 := h.size
    rw [k.block i (by omega) (fun e => by rcases hg i e with e | e; exact hf e; omega)]
    exact h.block i hi hf⟩
theorem Chg.mono {F G : Nat → Prop} {a b : World} (h : Chg F a b) (hg : ∀ i, F i → G i ∨ a.heap.size ≤ i) : Chg G a b :=
  ⟨h.os, h.tape, h.output, h.size, fun i hi hf => h.block i hi (fun e => by rcases hg i e with e | e; exact hf e; omega)⟩
theorem Chg.below {F : Nat → Prop} {w w' : World} {B : Nat} (h : Chg F w w') (hB : B ≤ w.heap.size) (hF : ∀ k, F k → B ≤ k) : Below B w w' :=
  ⟨h.os, h.tape, h.output, h.size, fun k hk => h.block k (by omega) (fun e => by have := hF k e; omega)⟩
theorem Chg.non {w w' : World} (h : Chg Non w w') : Below w.heap.size w w' := h.below (Nat.le_refl _) (fun _ e => e.elim)
theorem Chg.of_below {F : Nat → Prop} {w w' : World} (h : Below w.heap.size w w') : Chg F w w' := ⟨h.os, h.tape, h.output, h.size, fun k hk _ => h.block k hk⟩
theorem Chg.of_grown {F : Nat → Prop} {w w' : World} {row : Option Nat} (h : w.grownBy w' row) (hr : ∀ k, row = some k → F k) : Chg F w w' :=
  ⟨h.os, h.tape, h.output, h.size, fun k hk hf => h.block k hk (fun e => hf (hr k e.symm))⟩
theorem Chg.alloc {F : Nat → Prop} {a w : World} (h : Chg F a w) (o : Obj) : Chg F a (w.alloc o) :=
  ⟨h.os, h.tape, h.output, Nat.le_trans h.size (by simp), fun k hk hf => by
    have h1 := h.size
    rw [Below.heap_alloc w o k (by omega)]; exact h.block k hk hf⟩
theorem Chg.drew {F : Nat → Prop} {a w : World} (h : Chg F a w) : Chg F a w.drew := ⟨h.os, h.tape, h.output, h.size, h.block⟩
theorem Chg.drewN {F : Nat → Prop} {a w : World} (h : Chg F a w) (n : Nat) : Chg F a (w.drewN n) := ⟨h.os, h.tape, h.output, h.size, h.block⟩
theorem Chg.set {F : Nat → Prop} {a w : World} (h : Chg F a w) {p : Addr} (hp : F p.block ∨ a.heap.size ≤ p.block) (u : Value) : Chg F a (w.setCell p u) :=
  ⟨h.os, h.tape, h.output, Nat.le_trans h.size (by simp [World.setCell]), fun k hk hf => by
    rw [Below.heap_setCell w p u k (fun e => by subst e; rcases hp with e | e; exact hf e; omega)]; exact h.block k hk hf⟩
theorem Chg.grown {F : Nat → Prop} {a w w' : World} {row : Option Nat} (h : Chg F a w) (hg : w.grownBy w' row) (hr : ∀ k, row = some k → F k ∨ a.heap.size ≤ k) : Chg F a w' :=
  h.trans (G := fun k => row = some k) (Chg.of_grown hg (fun _ e => e)) (fun i e => hr i e)
/-- An old block that is not F's is there. -/
theorem Chg.blk {F : Nat → Prop} {w w' : World} (h : Chg F w w') {g : Nat} {o : Obj} (hg : w.heap[g]? = some o) (hn : ¬ F g) : w'.heap[g]? = some o :=
  (h.block g (blk_lt hg) hn).trans hg

/-- What is spelled as a store of an int, brought to another number. -/
theorem ret_int {k : IntKind} {a b : Int} (h : a = b) : Ending.returned (.int k a) = .returned (.int k b) := by rw [h]
theorem ret_bool {a b : Bool} (h : a = b) : Ending.returned (.bool a) = .returned (.bool b) := by rw [h]

theorem R_at {α : Type} {d : Kd α} {e : Nat} {w : World} {base : Nat} {ok : Nat → Prop} {v : Value} {xs : List α} (h : d.R e w base ok v xs) (F : Nat → Prop) (hF : ∀ k, ok k → k < w.heap.size → F k) :
    d.R e w base F v xs := Kd.R_mono (Kd.R_bound h) (fun k hk => hF k hk.1 hk.2.2.1)

/-- A row of one's own stays where others change. -/
theorem R_chg {α : Type} {d : Kd α} {e : Nat} {w w1 : World} {base : Nat} {ok F : Nat → Prop} {v : Value} {xs : List α} (h : d.R e w base ok v xs) (hc : Chg F w w1) (hd : ∀ k, ok k → ¬ F k) : d.R e w1 base ok v xs :=
  Kd.R_step h (fun k hk hl => hc.block k hl (hd k hk))

section
variable {P : Program} {ops : Array Oper} {rest : List Oper} {o : Oper} {a : Act} {Q : Exit → Act → World → Prop} {α : Type}
/-- One element more: the row in its blocks F (or new ones). -/
theorem R_push (d : Kd α) {W : World} (base : Nat) (F : Nat → Prop) (hgd : o.guard = none) (s x : Operand) (t e : TypeId) (z : Value) (bytes : Nat)
    (ho : o.op = .call { callee := .builtin .append, args := #[s, x], argTypes := #[t, t] })
    (ht : P.underlying t = some (.slice e)) (hinfo : (P.info? e).map (fun i => (i.zero, i.size, i.bytes)) = some (some z, d.sz, bytes)) (hz : z.cells.size = d.sz) (hs0 : 0 < d.sz) (hb0 : 0 < bytes)
    (v : Value) (xs : List α) (p : α) (cs : List Value) (okp : Nat → Prop) (hs : a.eval s = v) (hx : a.eval x = .slice (some ⟨W.heap.size, 0, none⟩) 1 1) (hp : d.M W base okp p cs) (hokp : ∀ k, okp k → F k ∧ some k ≠ v.ownBlock)
    (HO : d.R e W base F v xs) (hbase : base ≤ W.heap.size) (hl : (xs.length + 1) * bytes ≤ 140737488355328)
    (h : ∀ v1 w1 F1, d.R e w1 base F1 v1 (xs ++ [p]) → (∀ k, F1 k → k < w1.heap.size) → (∀ k, F1 k → F k ∨ W.heap.size ≤ k) → Chg F W w1 → wpList P ops Q rest (a.put o.dst v1) w1) :
    wpList P ops Q (o :: rest) a (W.alloc (.cells cs.toArray e)) := by
  have HO2 : d.R e W base (fun k => F k ∨ W.heap.size ≤ k) v xs := Kd.R_mono HO (fun k hk => .inl hk)
  refine Kd.R_append d (w0 := W) base hgd s x t e z bytes ho ht hinfo hz hs0 hb0 v xs p cs (fun k => F k ∨ W.heap.size ≤ k) okp hs hx hp (fun k hk => ⟨.inl (hokp k hk).1, (hokp k hk).2⟩) (fun k hk => .inr hk) HO2 (Below.refl _ _) hbase hl ?_
  intro v1 w1 hR _ hg _
  exact h v1 w1 (fun k => (F k ∨ W.heap.size ≤ k) ∧ k < w1.heap.size) (R_at hR _ (fun k hk hl => ⟨hk, hl⟩)) (fun k hk => hk.2) (fun k hk => hk.1) (Chg.of_grown hg (fun k hk => HO.1 k hk))
/-- A row of others behind one's own. -/
theorem R_pushs (d : Kd α) {Rr : α → List Value → Prop} {W : World} (base : Nat) (F : Nat → Prop) (hgd : o.guard = none) (s x : Operand) (t e : TypeId) (z : Value) (bytes : Nat)
    (ho : o.op = .call { callee := .builtin .append, args := #[s, x], argTypes := #[t, t] })
    (ht : P.underlying t = some (.slice e)) (hinfo : (P.info? e).map (fun i => (i.zero, i.size, i.bytes)) = some (some z, d.sz, bytes)) (hz : z.cells.size = d.sz) (hs0 : 0 < d.sz) (hb0 : 0 < bytes)
    (v : Value) (xs ys : List α) (A : Option Addr) (m c : Nat) (okp : Nat → Prop) (hs : a.eval s = v) (hx : a.eval x = .slice A m c)
    (HO : d.R e W base F v xs) (HR : ReadsRow Rr d.sz W A m ys) (hKM : ∀ x cs, Rr x cs → d.M W base okp x cs) (hokp : ∀ k, okp k → F k ∧ some k ≠ v.ownBlock)
    (hbase : base ≤ W.heap.size) (hl : (xs.length + m) * bytes ≤ 140737488355328)
    (h : ∀ v1 w1 F1, d.R e w1 base F1 v1 (xs ++ ys) → (∀ k, F1 k → k < w1.heap.size) → (∀ k, F1 k → F k ∨ W.heap.size ≤ k) → Chg F W w1 → wpList P ops Q rest (a.put o.dst v1) w1) :
    wpList P ops Q (o :: rest) a W := by
  have HO2 : d.R e W base (fun k => F k ∨ W.heap.size ≤ k) v xs := Kd.R_mono HO (fun k hk => .inl hk)
  refine Kd.R_append_rows d (w0 := W) base hgd s x t e z bytes ho ht hinfo hz hs0 hb0 v xs ys A m c (fun k => F k ∨ W.heap.size ≤ k) okp hs hx HO2 HR hKM (fun k hk => ⟨.inl (hokp k hk).1, (hokp k hk).2⟩) (fun k hk => .inr hk) (Below.refl _ _) hbase hl ?_
  intro v1 w1 hR _ hg _
  exact h v1 w1 (fun k => (F k ∨ W.heap.size ≤ k) ∧ k < w1.heap.size) (R_at hR _ (fun k hk hl => ⟨hk, hl⟩)) (fun k hk => hk.2) (fun k hk => hk.1) (Chg.of_grown hg (fun k hk => HO.1 k hk))
end

/-- An empty literal: a new block without cells. -/
theorem R_empty {α : Type} (d : Kd α) (e : Nat) (w : World) (base : Nat) (ok : Nat → Prop) (hb : base ≤ w.heap.size) (hok : ok w.heap.size) :
    d.R e (w.alloc (.cells #[] e)) base ok (.slice (some ⟨w.heap.size, 0, none⟩) 0 0) ([] : List α) :=
  ⟨fun k hk => by have : w.heap.size = k := by simpa [Value.ownBlock] using hk
                  subst this; exact hok, [], World.ownsRow_made w #[] 0 hb (by simp) (by simp), Reps.none _ _⟩

/-- A literal of scalars, as it lies in its new block. -/
theorem C_lit {α : Type} {enc : α → Value} {h1 : ∀ x, (enc x).oneCell' = true} (e : TypeId) (w : World) (N : Nat) (l : List α) (hl : l.length ≤ 1000000) (hN : w.heap.size = N) :
    (Kd.scalar enc h1).C (w.alloc (.cells (l.map enc).toArray e)) (some ⟨N, 0, none⟩) l.length l := by
  subst hN
  refine ⟨rfl, by omega, fun _ => ⟨_, rfl, fun j p hj => ⟨[enc p], rfl, rfl, fun i u hu => ?_⟩⟩⟩
  have hi : i = 0 := by
    have := (List.getElem?_eq_some_iff.1 hu).1
    simpa using this
  subst hi
  have hu' : enc p = u := by simpa using hu
  subst hu'
  rw [add_plain, blk_cell (blk_new w _)]
  simp [Kd.scalar, hj]

/-- An own row's slice, written out. -/
theorem R_out {α : Type} {d : Kd α} {e : Nat} {w : World} {base : Nat} {ok : Nat → Prop} {v : Value} {xs : List α} (h : d.R e w base ok v xs) :
    ∃ A c, v = .slice A xs.length c ∧ xs.length ≤ c ∧ d.C w A xs.length xs ∧ d.R e w base ok (.slice A xs.length c) xs := by
  obtain ⟨A, c, rfl, hl, hC⟩ := Kd.R_reads h
  exact ⟨A, c, rfl, hl, hC, h⟩

/-- A row of rows: row i. -/
theorem C_row {α : Type} {d : Kd α} {q : Nat} {w : World} {A : Option Addr} {n : Nat} {xs : List (List α)} (h : (Kd.slice q d).C w A n xs) (i : Nat) (h1 : i < n) :
    ∃ ad A0 c0, A = some ad ∧ w.cell? (ad.add i) = some (.slice A0 (xs.getD i []).length c0) ∧ (xs.getD i []).length ≤ c0 ∧ d.C w A0 (xs.getD i []).length (xs.getD i []) := by
  obtain ⟨ad, c, e, _, hK, hc⟩ := Kd.C_get h ([] : List α) (i : Int) (by omega) (by omega)
  simp only [Int.toNat_natCast] at hK hc
  obtain ⟨A0, c0, rfl, l0, g0⟩ := hK
  have hc' : ∀ j u, ([Value.slice A0 (xs.getD i []).length c0])[j]? = some u → w.cell? (ad.add (i * 1 + j)) = some u := hc
  exact ⟨ad, A0, c0, e, by have := hc' 0 _ rfl; simpa using this, l0, g0⟩
/-- Of scalars: element i. -/
theorem C_one {α : Type} {enc : α → Value} {h1 : ∀ x, (enc x).oneCell' = true} (z : α) {w : World} {A : Option Addr} {n : Nat} {xs : List α} (h : (Kd.scalar enc h1).C w A n xs) (i : Nat) (hi : i < n) :
    ∃ ad, A = some ad ∧ w.cell? (ad.add i) = some (enc (xs.getD i z)) := by
  obtain ⟨ad, c, e, _, hK, hc⟩ := Kd.C_get h z (i : Int) (by omega) (by omega)
  simp only [Int.toNat_natCast] at hK hc
  have hk : c = [enc (xs.getD i z)] := hK
  subst hk
  have hc' : ∀ j u, ([enc (xs.getD i z)])[j]? = some u → w.cell? (ad.add (i * 1 + j)) = some u := hc
  exact ⟨ad, e, by have := hc' 0 _ rfl; simpa using this⟩

/-- A literal of whatever kind, as it lies in its new block. -/
theorem C_new {α : Type} (d : Kd α) (e : TypeId) (w : World) (N : Nat) (xs : List α) (cs : List Value) (hl : xs.length ≤ 1000000) (hN : w.heap.size = N) (hr : Reps (d.K (w.alloc (.cells cs.toArray e))) d.sz xs cs) :
    d.C (w.alloc (.cells cs.toArray e)) (some ⟨N, 0, none⟩) xs.length xs := by
  subst hN
  refine ⟨rfl, by omega, fun _ => ⟨_, rfl, fun j p hj => ⟨(cs.drop (j * d.sz)).take d.sz, d.K_len (hr.2 j p hj), hr.2 j p hj, fun i u hu => ?_⟩⟩⟩
  rw [add_plain, blk_cell (blk_new w _)]
  rw [List.getElem?_take] at hu
  split at hu
  · rw [List.getElem?_drop] at hu
    simpa using hu
  · cases hu
/-- One row alone. -/
theorem C_list1 {α : Type} {d : Kd α} (q : Nat) (e : TypeId) {w : World} {A : Option Addr} {c : Nat} {l : List α} (hC : d.C w A l.length l) (hc : l.length ≤ c) :
    (Kd.slice q d).C (w.alloc (.cells #[.slice A l.length c] e)) (some ⟨w.heap.size, 0, none⟩) [l].length [l] :=
  C_new (Kd.slice q d) e w _ [l] [.slice A l.length c] (by simp) rfl ((Reps.none _ _).snoc ⟨A, c, rfl, hc, Kd.C_alloc hC _⟩ rfl)

/-- An own row's slice, written out; its length under a name of its own. -/
theorem R_outN {α : Type} {d : Kd α} {e : Nat} {w : World} {base : Nat} {ok : Nat → Prop} {v : Value} {xs : List α} (h : d.R e w base ok v xs) :
    ∃ A n c, v = .slice A n c ∧ Aside0 (n = xs.length) ∧ Aside0 (n ≤ c) ∧ Aside0 (d.C w A xs.length xs) ∧ Aside0 (d.R e w base ok (.slice A n c) xs) := by
  obtain ⟨A, c, rfl, hl, hC⟩ := Kd.R_reads h
  exact ⟨A, _, c, rfl, ⟨rfl⟩, ⟨hl⟩, ⟨hC⟩, ⟨h⟩⟩

/-- An own row of scalars: element i, and a store at it. -/
theorem R_elem {α : Type} {enc : α → Value} {h1 : ∀ x, (enc x).oneCell' = true} (z : α) {e : Nat} {w : World} {base : Nat} {ok : Nat → Prop} {A : Option Addr} {n c : Nat} {xs : List α} (h : (Kd.scalar enc h1).R e w base ok (.slice A n c) xs) (i : Nat) (hi : i < xs.length) :
    ∃ g, A = some ⟨g, 0, none⟩ ∧ ok g ∧ w.cell? ⟨g, i, none⟩ = some (enc (xs.getD i z)) ∧ w.frozen? ⟨g, i, none⟩ = false ∧
      ∀ u, (Kd.scalar enc h1).R e (w.setCell ⟨g, i, none⟩ (enc u)) base ok (.slice A n c) (xs.set i u) := by
  obtain ⟨g, c', hv, _, _⟩ := Kd.R_form h (by omega)
  injection hv with hA hn hc
  subst hA
  subst hn
  subst hc
  have a1 := Kd.R_cell z h (i : Int) (by omega) (by omega)
  have a2 := fun u => Kd.R_put h (i : Int) u
  simp only [Int.toNat_natCast] at a1 a2
  exact ⟨g, rfl, h.1 g (by simp [Value.ownBlock]), a1.1, a1.2, fun u => (a2 u).1⟩

theorem i64_wf {x : Int} (h : (Lit.int .i64 x).wf = true) : -9223372036854775808 ≤ x ∧ x ≤ 9223372036854775807 := by
  simpa [Lit.wf, IntKind.min, IntKind.max, IntKind.signed, IntKind.bits] using h
theorem i32_wf {x : Int} (h : (Lit.int .i32 x).wf = true) : -2147483648 ≤ x ∧ x ≤ 2147483647 := by
  simpa [Lit.wf, IntKind.min, IntKind.max, IntKind.signed, IntKind.bits] using h
theorem u8_wf {x : Int} (h : (Lit.int .u8 x).wf = true) : 0 ≤ x ∧ x ≤ 255 := by
  simpa [Lit.wf, IntKind.min, IntKind.max, IntKind.signed, IntKind.bits] using h
theorem u16_wf' {x : Int} (h : (Lit.int .u16 x).wf = true) : 0 ≤ x ∧ x ≤ 65535 := by
  simpa [Lit.wf, IntKind.min, IntKind.max, IntKind.signed, IntKind.bits] using h

section
variable {P : Program} {ops : Array Oper} {rest : List Oper} {o : Oper} {a : Act} {Q : Exit → Act → World → Prop} {α : Type}
/-- R_push, the new block's number spelled otherwise. -/
theorem R_pushN (d : Kd α) {W : World} (base : Nat) (F : Nat → Prop) (hgd : o.guard = none) (s x : Operand) (t e : TypeId) (z : Value) (bytes : Nat)
    (ho : o.op = .call { callee := .builtin .append, args := #[s, x], argTypes := #[t, t] })
    (ht : P.underlying t = some (.slice e)) (hinfo : (P.info? e).map (fun i => (i.zero, i.size, i.bytes)) = some (some z, d.sz, bytes)) (hz : z.cells.size = d.sz) (hs0 : 0 < d.sz) (hb0 : 0 < bytes)
    (v : Value) (xs : List α) (p : α) (cs : List Value) (okp : Nat → Prop) (N : Nat) (hN : W.heap.size = N) (hs : a.eval s = v) (hx : a.eval x = .slice (some ⟨N, 0, none⟩) 1 1) (hp : d.M W base okp p cs) (hokp : ∀ k, okp k → F k ∧ some k ≠ v.ownBlock)
    (HO : d.R e W base F v xs) (hbase : base ≤ W.heap.size) (hl : (xs.length + 1) * bytes ≤ 140737488355328)
    (h : ∀ v1 w1 F1, d.R e w1 base F1 v1 (xs ++ [p]) → (∀ k, F1 k → k < w1.heap.size) → (∀ k, F1 k → F k ∨ W.heap.size ≤ k) → Chg F W w1 → wpList P ops Q rest (a.put o.dst v1) w1) :
    wpList P ops Q (o :: rest) a (W.alloc (.cells cs.toArray e)) := by
  subst hN
  exact R_push d base F hgd s x t e z bytes ho ht hinfo hz hs0 hb0 v xs p cs okp hs hx hp hokp HO hbase hl h
end

end Go.Proofs.Ytmjecgkmgfocoaa.Lb
