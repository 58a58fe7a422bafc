/- Top's contract. Conditions: what lies in memory as told. -/
import Derived.Test.YtplimabdnpepjaaH1
import Derived.Laws.ResultCell
namespace Go.Proofs.Ytplimabdnpepjaa
open Go.RowKit Go.Proofs.YtplimabdnpepjaaW.PrintWords Lb
theorem top_some {w : World} {F : Nat → Prop} {b : Nat} {x : Entry} {l : List Entry} (h : Heap w F b (x :: l)) : Calls Try.prog 13 #[.pointer (some ⟨b, 0, none⟩)] w fun e w' => e = .returned (.tuple #[.agg #[.int .i64 x.f, .int .i64 x.g, .int .i64 x.c], .bool true]) ∧ Below w.heap.size w w' := by
  have H := Aside0.mk h
  obtain ⟨A, c, hh⟩ := h
  obtain ⟨g, rfl, hF, hg, hcell, _⟩ := F_elem hh.row 0 x rfl
  have hcw : Chg Non w (w.alloc (.cells #[.int .i64 0, .int .i64 0, .int .i64 0] 27)) := (Chg.refl _ _).alloc _
  have HH := Aside0.mk (H.out.keep hcw (fun _ _ e => e))
  have h2 := hh.keep hcw (fun _ _ e => e)
  obtain ⟨g', hg', _, _, hcell2, _⟩ := F_elem h2.row 0 x rfl
  injection hg' with hg'
  injection hg' with hg'
  subst hg'
  have h0 := h2.c0
  have x0 : (w.alloc (.cells #[.int .i64 0, .int .i64 0, .int .i64 0] 27)).cell? ⟨g, 0, none⟩ = some (.int .i64 x.f) := hcell2 0 _ rfl
  have x1 : (w.alloc (.cells #[.int .i64 0, .int .i64 0, .int .i64 0] 27)).cell? ⟨g, 1, none⟩ = some (.int .i64 x.g) := hcell2 1 _ rfl
  have x2 : (w.alloc (.cells #[.int .i64 0, .int .i64 0, .int .i64 0] 27)).cell? ⟨g, 2, none⟩ = some (.int .i64 x.c) := hcell2 2 _ rfl
  have hl : (0 : Int) < (l.length : Int) + 1 := by omega
  have hz : ((l.length : Int) + 1 == 0) = false := beq_eq_false_iff_ne.2 (by omega)
  clear hh h2 hcell hcell2
  go_enter Try.func13, Try.ntmps13
  go_wp2_with fail
  refine (len_ok HH.out).mono ?_
  rintro e w2 ⟨rfl, rfl⟩
  go_wp2
  (try simp only [Exit.inBlock, Exit.then])
  have y0 : (w.alloc (.cells #[.int .i64 x.f, .int .i64 x.g, .int .i64 x.c] 27)).cell? ⟨w.heap.size, 0, none⟩ = some (.int .i64 x.f) := by rw [blk_cell (blk_new w _)]; rfl
  have y1 : (w.alloc (.cells #[.int .i64 x.f, .int .i64 x.g, .int .i64 x.c] 27)).cell? ⟨w.heap.size, 1, none⟩ = some (.int .i64 x.g) := by rw [blk_cell (blk_new w _)]; rfl
  have y2 : (w.alloc (.cells #[.int .i64 x.f, .int .i64 x.g, .int .i64 x.c] 27)).cell? ⟨w.heap.size, 2, none⟩ = some (.int .i64 x.c) := by rw [blk_cell (blk_new w _)]; rfl
  refine bodyPost_ret (v := .tuple #[.agg #[.int .i64 x.f, .int .i64 x.g, .int .i64 x.c], .bool true]) ?_ rfl ⟨rfl, below_alloc (Below.refl _ _) _⟩
  · rw [results_cell_tmp rfl]
    go_simp
end Go.Proofs.Ytplimabdnpepjaa
