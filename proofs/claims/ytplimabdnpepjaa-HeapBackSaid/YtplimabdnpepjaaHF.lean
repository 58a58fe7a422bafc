/- What HeapSorts needs, plainly; two heaps, a row of marks and a last one. Conditions: what lies in memory as told. -/
import Derived.Test.YtplimabdnpepjaaHC
namespace Go.Proofs.Ytplimabdnpepjaa
open Go.RowKit Go.Proofs.YtplimabdnpepjaaW.PrintWords Go.Proofs.YtplimabdnpepjaaW.PrintLast Go.Proofs.YtplimabdnpepjaaW.PrintMore Lb

/-- Those that are not marked. -/
def unmet : List Entry → List Bool → List Entry
  | x :: l, m :: M => if m = true then unmet l M else x :: unmet l M
  | [], _ => []
  | _ :: _, [] => []
theorem unmet_rep : ∀ l : List Entry, unmet l (List.replicate l.length false) = l
  | [] => rfl
  | x :: l => by
    show (if false = true then _ else x :: unmet l (List.replicate l.length false)) = _
    rw [if_neg (by simp), unmet_rep l]
theorem unmet_set : ∀ (l : List Entry) (M : List Bool) (k : Nat), k < l.length → k < M.length → M.getD k true = false → (unmet l M).Perm (entAt l k :: unmet l (M.set k true))
  | [], _, _, h, _, _ => by simp at h
  | _ :: _, [], _, _, h, _ => by simp at h
  | x :: l, m :: M, 0, _, _, h => by
    have hm : m = false := h
    subst hm
    exact List.Perm.refl _
  | x :: l, m :: M, k + 1, h1, h2, h3 => by
    have ih := unmet_set l M k (by simpa using h1) (by simpa using h2) h3
    show (if m = true then _ else x :: unmet l M).Perm (entAt l k :: (if m = true then _ else x :: unmet l (M.set k true)))
    split
    · exact ih
    · exact (ih.cons x).trans (List.Perm.swap _ _ _)
theorem unmet_mem : ∀ (l : List Entry) (M : List Bool) (x : Entry), x ∈ unmet l M → ∃ k, k < l.length ∧ k < M.length ∧ M.getD k true = false ∧ entAt l k = x
  | [], _, _, h => by simp [unmet] at h
  | _ :: _, [], _, h => by simp [unmet] at h
  | y :: l, m :: M, x, h => by
    unfold unmet at h
    split at h
    · obtain ⟨k, a, b, c, d⟩ := unmet_mem l M x h
      exact ⟨k + 1, by simpa using a, by simpa using b, c, d⟩
    · rename_i hm
      rcases List.mem_cons.1 h with e | e
      · exact ⟨0, by simp, by simp, by simpa using hm, e.symm⟩
      · obtain ⟨k, a, b, c, d⟩ := unmet_mem l M x e
        exact ⟨k + 1, by simpa using a, by simpa using b, c, d⟩
theorem unmet_first {l : List Entry} {M : List Bool} {x : Entry} (h : x ∈ unmet l M) : ∃ j, (j < l.length ∧ j < M.length ∧ M.getD j true = false ∧ entAt l j = x) ∧ ∀ k, k < j → M.getD k true = false → entAt l k ≠ x := by
  obtain ⟨j, hj, hm⟩ := exists_least (unmet_mem l M x h)
  refine ⟨j, hj, fun k hk hM he => ?_⟩
  have := hm k ⟨by omega, by omega, hM, he⟩
  omega
theorem entAt_rev {l : List Entry} {i j : Nat} (hi : i < l.length) (hj : j = l.length - 1 - i) : entAt l.reverse i = entAt l j := by
  rw [entAt_get (by simpa using hi), entAt_get (by omega), List.getElem_reverse]
  congr 1
  omega
theorem entAt_drop {S : List Entry} {i : Nat} {x : Entry} {S' : List Entry} (h : S.drop i = x :: S') : i < S.length ∧ entAt S i = x ∧ S.drop (i + 1) = S' := by
  have hl : i < S.length := by
    rcases Nat.lt_or_ge i S.length with h1 | h1
    · exact h1
    · rw [List.drop_eq_nil_of_le h1] at h; cases h
  rw [List.drop_eq_getElem_cons hl] at h
  injection h with h1 h2
  exact ⟨hl, by rw [entAt_get hl]; exact h1, h2⟩
theorem srt_at {S : List Entry} (h : Srt S) {i j : Nat} (hij : i < j) (hj : j < S.length) : lessE (entAt S j) (entAt S i) = false := by
  have := List.pairwise_iff_getElem.1 h i j (by omega) hj hij
  rw [entAt_get hj, entAt_get (by omega)]
  exact this

/-- Two heaps, apart, both of the call's own. -/
structure Pq (w0 wr : World) (hb rb : Nat) (F G : Nat → Prop) (S T : List Entry) : Prop where
  ho : HO wr F hb S
  rf : HO wr G rb T
  dis : ∀ k, F k → ¬ G k
  gF : ∀ k, F k → w0.heap.size ≤ k
  gG : ∀ k, G k → w0.heap.size ≤ k
  bel : Below w0.heap.size w0 wr
section
variable {w0 wr w' : World} {hb rb : Nat} {F G F' G' K : Nat → Prop} {S L S' L' : List Entry}
theorem Pq.other (h : Pq w0 wr hb rb F G S L) (hC : Chg K wr w') (hK : ∀ k, K k → ¬ F k ∧ ¬ G k ∧ w0.heap.size ≤ k) : Pq w0 w' hb rb F G S L :=
  ⟨h.ho.keep hC (fun k a b => (hK k b).1 a), h.rf.keep hC (fun k a b => (hK k b).2.1 a), h.dis, h.gF, h.gG, h.bel.trans (hC.below h.bel.size (fun k e => (hK k e).2.2))⟩
theorem Pq.below (h : Pq w0 wr hb rb F G S L) (hb' : Below wr.heap.size wr w') : Pq w0 w' hb rb F G S L :=
  h.other (K := Non) (Chg.of_below hb') (fun _ e => e.elim)
theorem Pq.stepF (h : Pq w0 wr hb rb F G S L) (ho : HO w' F' hb S') (hF : ∀ k, F' k → F k ∨ wr.heap.size ≤ k) (hC : Chg F wr w') : Pq w0 w' hb rb F' G S' L :=
  ⟨ho, h.rf.keep hC (fun k a b => h.dis k b a), fun k a b => by rcases hF k a with e | e; exact h.dis k e b; have := h.rf.lt k b; omega,
   fun k a => by rcases hF k a with e | e; exact h.gF k e; have := h.bel.size; omega, h.gG, h.bel.trans (hC.below h.bel.size h.gF)⟩
theorem Pq.stepG (h : Pq w0 wr hb rb F G S L) (rf : HO w' G' rb L') (hG : ∀ k, G' k → G k ∨ wr.heap.size ≤ k) (hC : Chg G wr w') : Pq w0 w' hb rb F G' S L' :=
  ⟨h.ho.keep hC (fun k a b => h.dis k a b), rf, fun k a b => by rcases hG k b with e | e; exact h.dis k a e; have := h.ho.lt k a; omega,
   h.gF, fun k a => by rcases hG k a with e | e; exact h.gG k e; have := h.bel.size; omega, h.bel.trans (hC.below h.bel.size h.gG)⟩
end
/-- The two heaps of a call, made at w1. -/
theorem Pq.new {w w1 : World} (h : Below w.heap.size w w1) : Pq w ((w1.alloc (.cells #[.slice none 0 0] 25)).alloc (.cells #[.slice none 0 0] 25)) w1.heap.size (w1.heap.size + 1) (fun k => k = w1.heap.size) (fun k => k = w1.heap.size + 1) [] [] := by
  have n1 : (w1.alloc (.cells #[.slice none 0 0] 25)).heap.size = w1.heap.size + 1 := by simp
  have r := HO.new (w1.alloc (.cells #[.slice none 0 0] 25))
  rw [n1] at r
  have hs := h.size
  exact ⟨(HO.new w1).keep ((Chg.refl Non _).alloc _) (fun _ _ e => e), r, fun k e e2 => by omega, fun k e => by omega, fun k e => by omega, below_alloc (below_alloc h _) _⟩

/-- Beside the two heaps: the row of marks (block gm), and the last one (block T6). -/
structure So (w0 wr : World) (hb rb T6 gm : Nat) (F G : Nat → Prop) (S T : List Entry) (M : List Bool) (A : Option Addr) (n c : Nat) (p : Entry) : Prop where
  pq : Pq w0 wr hb rb F G S T
  f6 : ∀ k, F k → k ≠ T6 ∧ k ≠ gm
  g6 : ∀ k, G k → k ≠ T6 ∧ k ≠ gm
  ne : T6 ≠ gm
  t6 : w0.heap.size ≤ T6
  tg : w0.heap.size ≤ gm
  lg : gm < wr.heap.size
  z6 : wr.heap[T6]? = some (.cells #[.int .i64 p.f, .int .i64 p.g, .int .i64 p.c] 27 (0, 0))
  rm : Kd.bool.R 4 wr 0 (fun k => k = gm) (.slice A n c) M
section
variable {w0 wr w' : World} {hb rb T6 gm n c : Nat} {F G F' G' K : Nat → Prop} {S T S' T' : List Entry} {M : List Bool} {A : Option Addr} {p : Entry}
theorem So.next (h : So w0 wr hb rb T6 gm F G S T M A n c p) (pq : Pq w0 w' hb rb F' G' S' T') (hC : Chg K wr w') (hK : ∀ k, K k → k ≠ T6 ∧ k ≠ gm) (hF : ∀ k, F' k → F k ∨ wr.heap.size ≤ k) (hG : ∀ k, G' k → G k ∨ wr.heap.size ≤ k) : So w0 w' hb rb T6 gm F' G' S' T' M A n c p :=
  ⟨pq, fun k a => by rcases hF k a with e | e; exact h.f6 k e; have := blk_lt h.z6; have := h.lg; omega, fun k a => by rcases hG k a with e | e; exact h.g6 k e; have := blk_lt h.z6; have := h.lg; omega,
   h.ne, h.t6, h.tg, Nat.lt_of_lt_of_le h.lg hC.size, hC.blk h.z6 (fun e => (hK _ e).1 rfl), R_chg h.rm hC (fun k e e2 => (hK k e2).2 e)⟩
theorem So.below (h : So w0 wr hb rb T6 gm F G S T M A n c p) (hb' : Below wr.heap.size wr w') : So w0 w' hb rb T6 gm F G S T M A n c p :=
  h.next (h.pq.below hb') (Chg.of_below (F := Non) hb') (fun _ e => e.elim) (fun _ e => .inl e) (fun _ e => .inl e)
theorem So.popF (h : So w0 wr hb rb T6 gm F G S T M A n c p) (ho : HO w' F hb S') (hC : Chg F wr w') : So w0 w' hb rb T6 gm F G S' T M A n c p :=
  h.next (h.pq.stepF ho (fun _ e => .inl e) hC) hC (fun k e => h.f6 k e) (fun _ e => .inl e) (fun _ e => .inl e)
theorem So.popG (h : So w0 wr hb rb T6 gm F G S T M A n c p) (ho : HO w' G rb T') (hC : Chg G wr w') : So w0 w' hb rb T6 gm F G S T' M A n c p :=
  h.next (h.pq.stepG ho (fun _ e => .inl e) hC) hC (fun k e => h.g6 k e) (fun _ e => .inl e) (fun _ e => .inl e)
theorem So.last (h : So w0 wr hb rb T6 gm F G S T M A n c p) (q : Entry) : So w0 (((wr.setCell ⟨T6, 0, none⟩ (.int .i64 q.f)).setCell ⟨T6, 1, none⟩ (.int .i64 q.g)).setCell ⟨T6, 2, none⟩ (.int .i64 q.c)) hb rb T6 gm F G S T M A n c q := by
  have hC : Chg (fun k => k = T6) wr (((wr.setCell ⟨T6, 0, none⟩ (.int .i64 q.f)).setCell ⟨T6, 1, none⟩ (.int .i64 q.g)).setCell ⟨T6, 2, none⟩ (.int .i64 q.c)) :=
    (((Chg.refl (fun k => k = T6) wr).set (p := ⟨T6, 0, none⟩) (.inl rfl) _).set (p := ⟨T6, 1, none⟩) (.inl rfl) _).set (p := ⟨T6, 2, none⟩) (.inl rfl) _
  exact ⟨h.pq.other hC (fun k e => by subst e; exact ⟨fun e => (h.f6 _ e).1 rfl, fun e => (h.g6 _ e).1 rfl, h.t6⟩), h.f6, h.g6, h.ne, h.t6, h.tg, Nat.lt_of_lt_of_le h.lg hC.size,
    blk_set (blk_set (blk_set h.z6 0 (.int .i64 q.f)) 1 (.int .i64 q.g)) 2 (.int .i64 q.c), R_chg h.rm hC (fun k e e2 => h.ne (by rw [← e2, e]))⟩
/-- Mark j: what is there, and what a store makes. -/
theorem So.mark (h : So w0 wr hb rb T6 gm F G S T M A n c p) (j : Nat) (hj : j < M.length) : A = some ⟨gm, 0, none⟩ ∧ wr.cell? ⟨gm, j, none⟩ = some (.bool (M.getD j true)) ∧ wr.frozen? ⟨gm, j, none⟩ = false ∧ n = M.length ∧
    ∀ u, So w0 (wr.setCell ⟨gm, j, none⟩ (.bool u)) hb rb T6 gm F G S T (M.set j u) A n c p := by
  obtain ⟨g, hA, hg, h1, h2, h3⟩ := R_elem true h.rm j hj
  subst hg
  refine ⟨hA, h1, h2, (Kd.R_reads' h.rm).1, fun u => ?_⟩
  have hC : Chg (fun k => k = g) wr (wr.setCell ⟨g, j, none⟩ (.bool u)) := (Chg.refl (fun k => k = g) wr).set (p := ⟨g, j, none⟩) (.inl rfl) _
  exact ⟨h.pq.other hC (fun k e => by subst e; exact ⟨fun e => (h.f6 _ e).2 rfl, fun e => (h.g6 _ e).2 rfl, h.tg⟩), h.f6, h.g6, h.ne, h.t6, h.tg, Nat.lt_of_lt_of_le h.lg hC.size,
    hC.blk h.z6 (fun e => h.ne e), h3 u⟩
end
end Go.Proofs.Ytplimabdnpepjaa
