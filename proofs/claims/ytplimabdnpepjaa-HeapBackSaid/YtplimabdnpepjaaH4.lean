/- Top's and Pop's contracts on nothing; what Pop leaves, plainly. Conditions: what lies in memory as told. -/
import Derived.Test.YtplimabdnpepjaaH3
namespace Go.Proofs.Ytplimabdnpepjaa
open Go.RowKit Go.Proofs.YtplimabdnpepjaaW.PrintWords Lb

def NoneE : Value := .tuple #[.agg #[.int .i64 0, .int .i64 0, .int .i64 0], .bool false]
theorem top_no (p : Option Addr) (w : World) (hn : ∀ w', Below w.heap.size w w' → Calls Try.prog 15 #[.pointer p] w' fun e w2 => e = .returned (.int .i64 0) ∧ w' = w2) :
    Calls Try.prog 13 #[.pointer p] w fun e w' => e = .returned (.tuple #[.agg #[.int .i64 0, .int .i64 0, .int .i64 0], .bool false]) ∧ Below w.heap.size w w' := by
  have HN := Aside0.mk hn
  clear hn
  go_enter Try.func13, Try.ntmps13
  go_wp2_with fail
  refine (HN.out _ (below_alloc (Below.refl _ _) _)).mono ?_
  rintro e w2 ⟨rfl, rfl⟩
  go_wp2
  (try simp only [Exit.inBlock, Exit.then])
  have y0 : (w.alloc (.cells #[.int .i64 0, .int .i64 0, .int .i64 0] 27)).cell? ⟨w.heap.size, 0, none⟩ = some (.int .i64 0) := by rw [blk_cell (blk_new w _)]; rfl
  have y1 : (w.alloc (.cells #[.int .i64 0, .int .i64 0, .int .i64 0] 27)).cell? ⟨w.heap.size, 1, none⟩ = some (.int .i64 0) := by rw [blk_cell (blk_new w _)]; rfl
  have y2 : (w.alloc (.cells #[.int .i64 0, .int .i64 0, .int .i64 0] 27)).cell? ⟨w.heap.size, 2, none⟩ = some (.int .i64 0) := by rw [blk_cell (blk_new w _)]; rfl
  refine bodyPost_ret (v := .tuple #[.agg #[.int .i64 0, .int .i64 0, .int .i64 0], .bool false]) ?_ rfl ⟨rfl, below_alloc (Below.refl _ _) _⟩
  rw [results_cell_tmp rfl]
  go_simp
theorem top_nil (w : World) : Calls Try.prog 13 #[.pointer none] w fun e w' => e = .returned (.tuple #[.agg #[.int .i64 0, .int .i64 0, .int .i64 0], .bool false]) ∧ Below w.heap.size w w' :=
  top_no none w (fun w' _ => len_nil w')
theorem Heap.below {w w1 : World} {F : Nat → Prop} {b : Nat} {l : List Entry} (h : Heap w F b l) (hb : Below w.heap.size w w1) : Heap w1 F b l :=
  h.keep (Chg.of_below (F := Non) hb) (fun _ _ e => e)
theorem top_none {w : World} {F : Nat → Prop} {b : Nat} (h : Heap w F b []) : Calls Try.prog 13 #[.pointer (some ⟨b, 0, none⟩)] w fun e w' => e = .returned (.tuple #[.agg #[.int .i64 0, .int .i64 0, .int .i64 0], .bool false]) ∧ Below w.heap.size w w' :=
  top_no _ w (fun _ hb => len_ok (h.below hb))
theorem pop_no (p : Option Addr) (w : World) (hn : ∀ w', Below w.heap.size w w' → Calls Try.prog 13 #[.pointer p] w' fun e w2 => e = .returned (.tuple #[.agg #[.int .i64 0, .int .i64 0, .int .i64 0], .bool false]) ∧ Below w'.heap.size w' w2) :
    Calls Try.prog 10 #[.pointer p] w fun e w' => e = .returned (.tuple #[.agg #[.int .i64 0, .int .i64 0, .int .i64 0], .bool false]) ∧ Below w.heap.size w w' := by
  have HN := Aside0.mk hn
  clear hn
  go_enter Try.func10, Try.ntmps10
  go_wp2_with fail
  refine (HN.out _ (below_alloc (Below.refl _ _) _)).mono ?_
  rintro e w2 ⟨rfl, hb⟩
  have hs := hb.size
  have z0 : w2.heap[w.heap.size]? = some (.cells #[.int .i64 0, .int .i64 0, .int .i64 0] 27 (0, 0)) := by rw [hb.block _ (by simp)]; exact blk_new w _
  have HB := Aside0.mk hb
  have HZ := Aside0.mk z0
  have k0 : w2.cell? ⟨w.heap.size, 0, none⟩ = some (.int .i64 0) := by rw [blk_cell z0]; rfl
  have k1 : w2.cell? ⟨w.heap.size, 1, none⟩ = some (.int .i64 0) := by rw [blk_cell z0]; rfl
  have k2 : w2.cell? ⟨w.heap.size, 2, none⟩ = some (.int .i64 0) := by rw [blk_cell z0]; rfl
  have f0 := blk_frozen z0 0
  have f1 := blk_frozen z0 1
  have f2 := blk_frozen z0 2
  have hlt : w.heap.size < w2.heap.size := by simp at hs; omega
  have hne : ¬ w.heap.size = w2.heap.size := by omega
  have hne2 : ¬ w2.heap.size = w.heap.size := by omega
  clear hb z0 hs
  go_wp2
  (try simp only [Exit.inBlock, Exit.then])
  refine bodyPost_ret (v := .tuple #[.agg #[.int .i64 0, .int .i64 0, .int .i64 0], .bool false]) ?_ rfl ⟨rfl, ?_⟩
  · rw [results_cell_tmp rfl]
    go_simp
  · have h1 : Chg (fun k => k = w.heap.size) w w2 := ((Chg.refl _ w).alloc _).trans (Chg.of_below (F := Non) HB.out) (fun _ e => e.elim)
    have h2 : Chg (fun k => k = w.heap.size) w _ := (((h1.set (p := ⟨w.heap.size, 0, none⟩) (.inl rfl) (.int .i64 0)).set (p := ⟨w.heap.size, 1, none⟩) (.inl rfl) (.int .i64 0)).set (p := ⟨w.heap.size, 2, none⟩) (.inl rfl) (.int .i64 0)).alloc (.cells #[.int .i64 0, .int .i64 0, .int .i64 0] 27)
    exact h2.below (Nat.le_refl _) (fun k e => by rw [e]; exact Nat.le_refl _)
theorem pop_nil (w : World) : Calls Try.prog 10 #[.pointer none] w fun e w' => e = .returned (.tuple #[.agg #[.int .i64 0, .int .i64 0, .int .i64 0], .bool false]) ∧ Below w.heap.size w w' :=
  pop_no none w (fun w' _ => top_nil w')
theorem pop_none {w : World} {F : Nat → Prop} {b : Nat} (h : Heap w F b []) : Calls Try.prog 10 #[.pointer (some ⟨b, 0, none⟩)] w fun e w' => e = .returned (.tuple #[.agg #[.int .i64 0, .int .i64 0, .int .i64 0], .bool false]) ∧ Below w.heap.size w w' :=
  pop_no _ w (fun _ hb => top_none (h.below hb))
end Go.Proofs.Ytplimabdnpepjaa
