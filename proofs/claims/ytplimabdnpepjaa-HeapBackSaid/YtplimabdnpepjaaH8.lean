/- The document's heap: Top and Pop. Conditions: what lies in memory as told. -/
import Derived.Test.YtplimabdnpepjaaH7
import Derived.Laws.ResultCell
namespace Go.Proofs.Ytplimabdnpepjaa
open Go.RowKit Go.Proofs.YtplimabdnpepjaaW.PrintWords Lb

/-- What the document's heap holds, in order. -/
def RO (w : World) (F : Nat → Prop) (b : Nat) (S : List Entry) : Prop := ∃ l, Rf w F b l ∧ l.Perm S
theorem take_drop_perm {l : List Entry} {q : Nat} (h : q < l.length) : l.Perm (entAt l q :: (l.take q ++ l.drop (q + 1))) := by
  have e : l = l.take q ++ (entAt l q :: l.drop (q + 1)) := by
    conv => lhs; rw [← List.take_append_drop q l, List.drop_eq_getElem_cons h, ← entAt_get h]
  conv => lhs; rw [e]
  exact List.perm_middle
theorem fst_min {l : List Entry} {x : Entry} {S : List Entry} (hp : l.Perm (x :: S)) (hs : Srt (x :: S)) : ∃ q : Nat, fstI l l.length = (q : Int) ∧ q < l.length ∧ entAt l q = x ∧ (l.take q ++ l.drop (q + 1)).Perm S := by
  have hl : 0 < l.length := by rw [hp.length_eq]; simp
  obtain ⟨q, h1, h2, h3⟩ := fst_spec l l.length hl
  have hx : entAt l q = x := by
    refine leE_antisymm ?_ ?_
    · obtain ⟨j, hj, e⟩ := List.mem_iff_getElem.1 (hp.symm.mem_iff.1 (List.mem_cons_self (a := x) (l := S)))
      have := h3 j hj
      rw [entAt_get hj, e] at this
      exact this
    · have hm : entAt l q ∈ l := by rw [entAt_get h2]; exact List.getElem_mem h2
      rcases List.mem_cons.1 (hp.mem_iff.1 hm) with e | e
      · rw [e]; exact leE_refl _
      · exact (List.pairwise_cons.1 hs).1 _ e
  refine ⟨q, h1, h2, hx, ?_⟩
  have := take_drop_perm h2
  rw [hx] at this
  exact List.Perm.cons_inv (this.symm.trans hp)

set_option maxHeartbeats 1000000 in
theorem rtop_none {w : World} {F : Nat → Prop} {b : Nat} (h : Rf w F b []) : Calls Try.prog 14 #[.pointer (some ⟨b, 0, none⟩)] w fun e w' => e = .returned (.tuple #[.agg #[.int .i64 0, .int .i64 0, .int .i64 0], .bool false]) ∧ Below w.heap.size w w' := by
  have H := Aside0.mk (h.below (below_alloc (Below.refl _ _) (.cells #[.int .i64 0, .int .i64 0, .int .i64 0] 38)))
  clear h
  go_enter Try.func14, Try.ntmps14
  go_wp2_with fail
  refine (first_ok H.out (by simp)).mono ?_
  rintro e w2 ⟨rfl, hb⟩
  have he : fstI [] ([] : List Entry).length = -1 := rfl
  rw [he]
  have hs := hb.size
  have z0 : w2.heap[w.heap.size]? = some (.cells #[.int .i64 0, .int .i64 0, .int .i64 0] 38 (0, 0)) := by rw [hb.block _ (by simp)]; exact blk_new w _
  have HB := Aside0.mk hb
  have HZ := Aside0.mk z0
  have k0 : w2.cell? ⟨w.heap.size, 0, none⟩ = some (.int .i64 0) := by rw [blk_cell z0]; rfl
  have k1 : w2.cell? ⟨w.heap.size, 1, none⟩ = some (.int .i64 0) := by rw [blk_cell z0]; rfl
  have k2 : w2.cell? ⟨w.heap.size, 2, none⟩ = some (.int .i64 0) := by rw [blk_cell z0]; rfl
  have f0 := blk_frozen z0 0
  have f1 := blk_frozen z0 1
  have f2 := blk_frozen z0 2
  have hlt : w.heap.size < w2.heap.size := by simp at hs; omega
  clear hb z0 hs he
  go_wp2
  (try simp only [Exit.inBlock, Exit.then])
  refine bodyPost_ret (v := .tuple #[.agg #[.int .i64 0, .int .i64 0, .int .i64 0], .bool false]) ?_ rfl ⟨rfl, ?_⟩
  · rw [results_cell_tmp rfl]
    go_simp
  · have h1 : Chg (fun k => k = w.heap.size) w w2 := ((Chg.refl _ w).alloc _).trans (Chg.of_below (F := Non) HB.out) (fun _ e => e.elim)
    have h2 : Chg (fun k => k = w.heap.size) w _ := (((h1.set (p := ⟨w.heap.size, 0, none⟩) (.inl rfl) (.int .i64 0)).set (p := ⟨w.heap.size, 1, none⟩) (.inl rfl) (.int .i64 0)).set (p := ⟨w.heap.size, 2, none⟩) (.inl rfl) (.int .i64 0))
    exact h2.below (Nat.le_refl _) (fun k e => by rw [e]; exact Nat.le_refl _)
set_option maxHeartbeats 1000000 in
theorem rtop_some {w : World} {F : Nat → Prop} {b : Nat} {l : List Entry} (h : Rf w F b l) (q : Nat) (hq : fstI l l.length = (q : Int)) (hlt : q < l.length) (hL : l.length ≤ 1000000) :
    Calls Try.prog 14 #[.pointer (some ⟨b, 0, none⟩)] w fun e w' => e = .returned (.tuple #[.agg #[.int .i64 (entAt l q).f, .int .i64 (entAt l q).g, .int .i64 (entAt l q).c], .bool true]) ∧ Below w.heap.size w w' := by
  have H := Aside0.mk (h.below (below_alloc (Below.refl _ _) (.cells #[.int .i64 0, .int .i64 0, .int .i64 0] 38)))
  have HQ := Aside0.mk hq
  clear h hq
  go_enter Try.func14, Try.ntmps14
  go_wp2_with fail
  refine (first_ok H.out hL).mono ?_
  rintro e w2 ⟨rfl, hb⟩
  rw [HQ.out]
  have hs := hb.size
  obtain ⟨A, c, hp⟩ := H.out.below hb
  obtain ⟨g, rfl, _, _, hcell, _⟩ := F_elem hp.row q (entAt l q) (entAt_some hlt)
  have h0 := hp.c0
  have c0 : w2.cell? ⟨g, q * 3, none⟩ = some (.int .i64 (entAt l q).f) := hcell 0 _ rfl
  have c1 : w2.cell? ⟨g, q * 3 + 1, none⟩ = some (.int .i64 (entAt l q).g) := hcell 1 _ rfl
  have c2 : w2.cell? ⟨g, q * 3 + 2, none⟩ = some (.int .i64 (entAt l q).c) := hcell 2 _ rfl
  have z0 : w2.heap[w.heap.size]? = some (.cells #[.int .i64 0, .int .i64 0, .int .i64 0] 38 (0, 0)) := by rw [hb.block _ (by simp)]; exact blk_new w _
  have HB := Aside0.mk hb
  have k0 : w2.cell? ⟨w.heap.size, 0, none⟩ = some (.int .i64 0) := by rw [blk_cell z0]; rfl
  have k1 : w2.cell? ⟨w.heap.size, 1, none⟩ = some (.int .i64 0) := by rw [blk_cell z0]; rfl
  have k2 : w2.cell? ⟨w.heap.size, 2, none⟩ = some (.int .i64 0) := by rw [blk_cell z0]; rfl
  have f0 := blk_frozen z0 0
  have f1 := blk_frozen z0 1
  have f2 := blk_frozen z0 2
  have hlt2 : w.heap.size < w2.heap.size := by simp at hs; omega
  have q0 : (0 : Int) ≤ (q : Int) := by omega
  have q1 : (q : Int) < (l.length : Int) := by omega
  clear hb z0 hs hp hcell
  go_wp2
  (try simp only [Exit.inBlock, Exit.then])
  refine bodyPost_ret (v := .tuple #[.agg #[.int .i64 (entAt l q).f, .int .i64 (entAt l q).g, .int .i64 (entAt l q).c], .bool true]) ?_ rfl ⟨rfl, ?_⟩
  · rw [results_cell_tmp rfl]
    go_simp
  · have h1 : Chg (fun k => k = w.heap.size) w w2 := ((Chg.refl _ w).alloc _).trans (Chg.of_below (F := Non) HB.out) (fun _ e => e.elim)
    have h2 : Chg (fun k => k = w.heap.size) w _ := (((h1.set (p := ⟨w.heap.size, 0, none⟩) (.inl rfl) (.int .i64 (entAt l q).f)).set (p := ⟨w.heap.size, 1, none⟩) (.inl rfl) (.int .i64 (entAt l q).g)).set (p := ⟨w.heap.size, 2, none⟩) (.inl rfl) (.int .i64 (entAt l q).c))
    exact h2.below (Nat.le_refl _) (fun k e => by rw [e]; exact Nat.le_refl _)

set_option maxHeartbeats 1000000 in
theorem rpop_none {w : World} {F : Nat → Prop} {b : Nat} (h : Rf w F b []) : Calls Try.prog 12 #[.pointer (some ⟨b, 0, none⟩)] w fun e w' => e = .returned (.tuple #[.agg #[.int .i64 0, .int .i64 0, .int .i64 0], .bool false]) ∧ Below w.heap.size w w' := by
  have H := Aside0.mk (h.below (below_alloc (Below.refl _ _) (.cells #[.int .i64 0, .int .i64 0, .int .i64 0] 38)))
  clear h
  go_enter Try.func12, Try.ntmps12
  go_wp2_with fail
  refine (first_ok H.out (by simp)).mono ?_
  rintro e w2 ⟨rfl, hb⟩
  have he : fstI [] ([] : List Entry).length = -1 := rfl
  rw [he]
  have hs := hb.size
  have z0 : w2.heap[w.heap.size]? = some (.cells #[.int .i64 0, .int .i64 0, .int .i64 0] 38 (0, 0)) := by rw [hb.block _ (by simp)]; exact blk_new w _
  have HB := Aside0.mk hb
  have HZ := Aside0.mk z0
  have k0 : w2.cell? ⟨w.heap.size, 0, none⟩ = some (.int .i64 0) := by rw [blk_cell z0]; rfl
  have k1 : w2.cell? ⟨w.heap.size, 1, none⟩ = some (.int .i64 0) := by rw [blk_cell z0]; rfl
  have k2 : w2.cell? ⟨w.heap.size, 2, none⟩ = some (.int .i64 0) := by rw [blk_cell z0]; rfl
  have f0 := blk_frozen z0 0
  have f1 := blk_frozen z0 1
  have f2 := blk_frozen z0 2
  have hlt : w.heap.size < w2.heap.size := by simp at hs; omega
  clear hb z0 hs he
  go_wp2
  (try simp only [Exit.inBlock, Exit.then])
  refine bodyPost_ret (v := .tuple #[.agg #[.int .i64 0, .int .i64 0, .int .i64 0], .bool false]) ?_ rfl ⟨rfl, ?_⟩
  · rw [results_cell_tmp rfl]
    go_simp
  · have h1 : Chg (fun k => k = w.heap.size) w w2 := ((Chg.refl _ w).alloc _).trans (Chg.of_below (F := Non) HB.out) (fun _ e => e.elim)
    have h2 : Chg (fun k => k = w.heap.size) w _ := (((h1.set (p := ⟨w.heap.size, 0, none⟩) (.inl rfl) (.int .i64 0)).set (p := ⟨w.heap.size, 1, none⟩) (.inl rfl) (.int .i64 0)).set (p := ⟨w.heap.size, 2, none⟩) (.inl rfl) (.int .i64 0))
    exact h2.below (Nat.le_refl _) (fun k e => by rw [e]; exact Nat.le_refl _)
end Go.Proofs.Ytplimabdnpepjaa
