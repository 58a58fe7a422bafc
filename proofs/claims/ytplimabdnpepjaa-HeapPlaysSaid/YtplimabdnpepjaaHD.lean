/- The acts of HeapPlays; a heap and the document's beside it. Conditions: what lies in memory as told. -/
import Derived.Test.YtplimabdnpepjaaHC
namespace Go.Proofs.Ytplimabdnpepjaa
open Go.RowKit Go.Proofs.YtplimabdnpepjaaW.PrintWords Go.Proofs.YtplimabdnpepjaaW.PrintLast Go.Proofs.YtplimabdnpepjaaW.PrintMore Lb

structure Act where
  d : Int
  x : Entry
instance : Inhabited Act := ⟨⟨0, ⟨0, 0, 0⟩⟩⟩
def encAct (a : Act) : List Value := [.int .i64 a.d, .int .i64 a.x.f, .int .i64 a.x.g, .int .i64 a.x.c]
theorem encAct_len (s : Act) : (encAct s).length = 4 := rfl
theorem encAct_one (s : Act) : ∀ u ∈ encAct s, u.oneCell' = true := by
  intro u hu
  simp [encAct] at hu
  rcases hu with rfl | rfl | rfl | rfl <;> rfl
abbrev kdAct : Kd Act := flatK 4 encAct encAct_len encAct_one
theorem opens_act : Opn.Opens Try.prog kdAct 40 (fun _ => True) := by
  intro H enc w base spare held fuel cs y h hz
  obtain ⟨xs, n, _, rfl, hl, hlen, hf⟩ := DataW.trod_struct Try.underlying40 h
  have hl4 : cs.length = 4 := hl.trans (by kernel_rfl)
  match cs, hl4, xs, hlen with
  | [c0, c1, c2, c3], _, [y0, y1], _ =>
    have h0 := hf 0 _ rfl
    have h1 := hf 1 _ rfl
    simp only [List.map_cons, List.map_nil, DataW.weights, Try.underlying40, List.mem_append, DataW.weightsEach] at hz
    obtain ⟨a, e0, w0⟩ := Opn.opens_int Try.underlying3 H enc w base spare held n _ _ h0 (fun z hz' => hz z (by simp; exact .inl hz'))
    obtain ⟨b, e1, w1⟩ := opens_ent H enc w base spare held n _ _ h1 (fun z hz' => hz z (by simp; exact .inr hz'))
    have e0' : [c0] = [Value.int .i64 a] := e0
    have e1' : [c1, c2, c3] = encE b := e1
    injection e0' with e0'
    injection e1' with e1' e2'
    injection e2' with e2' e3'
    injection e3' with e3' _
    subst e0' e1' e2' e3'
    exact ⟨⟨a, b⟩, rfl, trivial⟩
/-- Act i of a list. -/
theorem act_at {w : World} {A : Option Addr} {n : Nat} {l : List Act} (h : kdAct.C w A n l) (i : Nat) (hi : i < n) :
    ∃ g o, A = some ⟨g, o, none⟩ ∧ w.cell? ⟨g, o + i * 4, none⟩ = some (.int .i64 (l.getD i default).d) ∧ w.cell? ⟨g, o + i * 4 + 1, none⟩ = some (.int .i64 (l.getD i default).x.f) ∧ w.cell? ⟨g, o + i * 4 + 2, none⟩ = some (.int .i64 (l.getD i default).x.g) ∧ w.cell? ⟨g, o + i * 4 + 3, none⟩ = some (.int .i64 (l.getD i default).x.c) := by
  obtain ⟨ad, c, e, _, hK, hc⟩ := Kd.C_get h default (i : Int) (by omega) (by omega)
  simp only [Int.toNat_natCast] at hK hc
  have hk : c = encAct (l.getD i default) := hK
  subst hk
  have hc' : ∀ j u, (encAct (l.getD i default))[j]? = some u → w.cell? (ad.add (i * 4 + j)) = some u := hc
  obtain ⟨g, o, sp⟩ := ad
  have hsp : sp = none := by
    obtain ⟨ad0, c0, e0, _, hK0, hc0⟩ := Kd.C_get h default (0 : Int) (by omega) (by omega)
    have hk0 : c0 = encAct (l.getD 0 default) := hK0
    subst hk0
    rw [e] at e0
    injection e0 with e0
    subst e0
    have h1 : w.cell? ⟨g, o, sp⟩ = some (.int .i64 (l.getD 0 default).d) := hc0 0 _ rfl
    unfold World.cell? at h1
    split at h1
    · cases sp with
      | none => rfl
      | some x => simp at h1
    · cases h1
  subst hsp
  refine ⟨g, o, e, ?_, ?_, ?_, ?_⟩
  · have := hc' 0 _ rfl; rwa [add_flat] at this
  · have := hc' 1 _ rfl; rwa [add_flat, ← Nat.add_assoc] at this
  · have := hc' 2 _ rfl; rwa [add_flat, ← Nat.add_assoc] at this
  · have := hc' 3 _ rfl; rwa [add_flat, ← Nat.add_assoc] at this

/-- A heap and the document's, apart, both of the call's own. -/
structure Pl (w0 wr : World) (hb rb : Nat) (F G : Nat → Prop) (S L : List Entry) : Prop where
  ho : HO wr F hb S
  rf : Rf wr G rb L
  dis : ∀ k, F k → ¬ G k
  gF : ∀ k, F k → w0.heap.size ≤ k
  gG : ∀ k, G k → w0.heap.size ≤ k
  bel : Below w0.heap.size w0 wr
section
variable {w0 wr w' : World} {hb rb : Nat} {F G F' G' K : Nat → Prop} {S L S' L' : List Entry}
theorem Pl.other (h : Pl w0 wr hb rb F G S L) (hC : Chg K wr w') (hK : ∀ k, K k → ¬ F k ∧ ¬ G k ∧ w0.heap.size ≤ k) : Pl w0 w' hb rb F G S L :=
  ⟨h.ho.keep hC (fun k a b => (hK k b).1 a), h.rf.keep hC (fun k a b => (hK k b).2.1 a), h.dis, h.gF, h.gG, h.bel.trans (hC.below h.bel.size (fun k e => (hK k e).2.2))⟩
theorem Pl.below (h : Pl w0 wr hb rb F G S L) (hb' : Below wr.heap.size wr w') : Pl w0 w' hb rb F G S L :=
  h.other (K := Non) (Chg.of_below hb') (fun _ e => e.elim)
theorem Pl.stepF (h : Pl w0 wr hb rb F G S L) (ho : HO w' F' hb S') (hF : ∀ k, F' k → F k ∨ wr.heap.size ≤ k) (hC : Chg F wr w') : Pl w0 w' hb rb F' G S' L :=
  ⟨ho, h.rf.keep hC (fun k a b => h.dis k b a), fun k a b => by rcases hF k a with e | e; exact h.dis k e b; have := h.rf.lt k b; omega,
   fun k a => by rcases hF k a with e | e; exact h.gF k e; have := h.bel.size; omega, h.gG, h.bel.trans (hC.below h.bel.size h.gF)⟩
theorem Pl.stepG (h : Pl w0 wr hb rb F G S L) (rf : Rf w' G' rb L') (hG : ∀ k, G' k → G k ∨ wr.heap.size ≤ k) (hC : Chg G wr w') : Pl w0 w' hb rb F G' S L' :=
  ⟨h.ho.keep hC (fun k a b => h.dis k a b), rf, fun k a b => by rcases hG k b with e | e; exact h.dis k a e; have := h.ho.lt k a; omega,
   h.gF, fun k a => by rcases hG k a with e | e; exact h.gG k e; have := h.bel.size; omega, h.bel.trans (hC.below h.bel.size h.gG)⟩
theorem Pl.n1 (h : Pl w0 wr hb rb F G S L) (k : Nat) (hk : wr.heap.size ≤ k) : ¬ F k ∧ ¬ G k ∧ w0.heap.size ≤ k :=
  ⟨fun e => by have := h.ho.lt k e; omega, fun e => by have := h.rf.lt k e; omega, Nat.le_trans h.bel.size hk⟩
end
/-- Three cells stored, one after another. -/
theorem chg_three {K : Nat → Prop} (w : World) (b : Nat) (hK : K b) (x y z : Value) : Chg K w (((w.setCell ⟨b, 0, none⟩ x).setCell ⟨b, 1, none⟩ y).setCell ⟨b, 2, none⟩ z) :=
  (((Chg.refl K w).set (p := ⟨b, 0, none⟩) (.inl hK) x).set (p := ⟨b, 1, none⟩) (.inl hK) y).set (p := ⟨b, 2, none⟩) (.inl hK) z
theorem blk_three {w : World} {b t : Nat} {x0 y0 z0 : Value} (h : w.heap[b]? = some (.cells #[x0, y0, z0] t (0, 0))) (x y z : Value) : (((w.setCell ⟨b, 0, none⟩ x).setCell ⟨b, 1, none⟩ y).setCell ⟨b, 2, none⟩ z).heap[b]? = some (.cells #[x, y, z] t (0, 0)) := by
  have h1 := blk_set h 0 x
  have h2 := blk_set h1 1 y
  exact blk_set h2 2 z
end Go.Proofs.Ytplimabdnpepjaa
