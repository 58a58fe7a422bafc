/- TerrainKnown's walk. Conditions: none. -/
import Derived.Test.YtlnchdelcadmoaaT6
namespace Go.Proofs.Ytlnchdelcadmoaa
open Go.RowKit Go.Proofs.YtlnchdelcadmoaaW.PrintWords Go.Proofs.YtlnchdelcadmoaaW.PrintLast Go.Proofs.YtlnchdelcadmoaaW.PrintMore Lb

/-- A store into a block that a table does not have. -/
theorem TabO.store {w : World} {F : Nat → Prop} {b : Nat} {l : List Kind} {cl : Int} (h : TabO w F b l cl) {g : Nat} (hg : ¬ F g) (i : Nat) (u : Value) : TabO (w.setCell ⟨g, i, none⟩ u) F b l cl :=
  h.keep (G := fun k => k = g) ((Chg.refl (fun k => k = g) w).set (p := ⟨g, i, none⟩) (.inl rfl) u) (fun _ hk e => hg (e ▸ hk))

set_option maxHeartbeats 4000000 in
set_option maxRecDepth 100000 in
theorem known_walk (w : World) : Calls Try.prog 3 #[] w fun e w' => e = .returned (.bool true) ∧ Below w.heap.size w w' := by
  go_enter Try.func3, Try.ntmps3
  go_wp2_with fail
  refine (example_ok w).mono ?_
  rintro e w1 ⟨rfl, rfl⟩
  go_wp2_with fail
  refine (new_yes (exK_C w) rfl (by decide) (by decide)).mono ?_
  rintro e w2 ⟨b, F, rfl, hT, hF, hb⟩
  have hz := (Chg.of_below (F := Non) hb).blk (blk_new w (.cells #[.int .i64 1, .int .u8 3, .int .i64 5, .int .u8 2, .int .i64 9, .int .u8 0] 29)) (fun e => e)
  have hB2 := below_next (below_alloc (Below.refl w.heap.size w) (.cells #[.int .i64 1, .int .u8 3, .int .i64 5, .int .u8 2, .int .i64 9, .int .u8 0] 29)) hb
  have k0 : w2.cell? ⟨w.heap.size, 0, none⟩ = some (.int .i64 1) := by rw [blk_cell hz]; rfl
  have f0 := blk_frozen hz 0
  have HT3 := Aside0.mk (hT.store (g := w.heap.size) (fun e => by have := hF _ e; simp at this; omega) 0 (.int .i64 99))
  have HB3 : Aside0 (Below w.heap.size w (w2.setCell ⟨w.heap.size, 0, none⟩ (.int .i64 99))) := ⟨(Chg.refl (fun k => w.heap.size ≤ k) w |>.trans (Chg.of_below hB2) (fun _ e => .inl e) |>.set (p := ⟨w.heap.size, 0, none⟩) (.inl (Nat.le_refl _)) (.int .i64 99)).below (Nat.le_refl _) (fun _ e => e)⟩
  clear hb hT hF hz hB2
  go_wp2_with fail
  generalize w2.setCell ⟨w.heap.size, 0, none⟩ (.int .i64 99) = w3 at HT3 HB3 ⊢
  refine (all_T HT3.out).mono ?_
  rintro e w4 ⟨v, rfl, A', c', F', rfl, hR, hF', hlt, hb⟩
  rw [show exK.length = 3 from rfl] at hR ⊢
  obtain ⟨g, rfl, hFg, hgl, hcell, hfro⟩ := F_elem hR 1 ⟨5, 2⟩ rfl
  have k1 : w4.cell? ⟨g, 3, none⟩ = some (.int .u8 2) := hcell 1 _ rfl
  have f1 := hfro 3
  have HT5 := Aside0.mk ((HT3.out.below hb).store (g := g) (fun e => by have := hF' _ hFg; obtain ⟨⟨A0, c0, t⟩, _⟩ := HT3.out; have := t.lt _ e; omega) 3 (.int .u8 3))
  have HB5 : Aside0 (Below w.heap.size w (w4.setCell ⟨g, 3, none⟩ (.int .u8 3))) := ⟨(Chg.refl (fun k => w.heap.size ≤ k) w |>.trans (Chg.of_below (below_next HB3.out hb)) (fun _ e => .inl e) |>.set (p := ⟨g, 3, none⟩) (.inl (by have := hF' _ hFg; have := HB3.out.size; show w.heap.size ≤ g; omega)) (.int .u8 3)).below (Nat.le_refl _) (fun _ e => e)⟩
  clear hb hR hF' hlt hcell hfro k0 f0
  go_wp2_with fail
  generalize w4.setCell ⟨g, 3, none⟩ (.int .u8 3) = w5 at HT5 HB5 ⊢
  clear k1 f1
  refine (least_T HT5.out 0).mono ?_
  rintro e w6 ⟨rfl, hb⟩
  have HT6 := Aside0.mk (HT5.out.below hb)
  have HB6 := Aside0.mk (below_next HB5.out hb)
  rw [show leastP exK 2 0 = 1 by decide]
  clear hb
  go_wp2_with fail
  refine (new_no (C_of_blk (w := w6.alloc (.cells #[.int .i64 1, .int .u8 4] 29)) [⟨1, 4⟩] (by decide) (blk_new w6 _)) rfl (by decide) (by decide)).mono ?_
  rintro e w7 ⟨rfl, hb⟩
  have HT7 := Aside0.mk ((HT6.out.below (below_alloc (Below.refl _ _) _)).below hb)
  have HB7 := Aside0.mk (below_next (below_alloc HB6.out _) hb)
  clear hb
  go_wp2_with ((with_reducible refine gate_ (.makeSlice 22 (.const (.int .i64 17)) (.const (.int .i64 17))) rfl ?_); go_must (refine Kd.R_make kdK (w0 := w7) w7.heap.size 29 rfl rfl 22 _ _ rfl 17 rfl rfl Try.underlying22 (.agg #[.int .i64 0, .int .u8 0]) 16 info29 rfl (by decide) (by decide) ⟨0, 0⟩ (okp := fun _ => False) (ok := fun _ => True) rfl (fun _ h => h.elim) trivial (by decide) (by decide) (Below.refl _ _) (Nat.le_refl _) ?_; intro v1 w8 hR hB _ _; obtain ⟨A2, c2, hv, hc2, hC2⟩ := Kd.R_reads hR; rw [List.length_replicate] at hv; subst hv; have HB8 := Aside0.mk hB; have HC8 := Aside0.mk hC2; clear hR hB hC2 hc2))
  refine (new_no (by have := HC8.out; rwa [List.length_replicate] at this) (by rw [List.length_replicate]; rfl) (by decide) (by decide)).mono ?_
  rintro e w9 ⟨rfl, hb⟩
  have HT9 := Aside0.mk ((HT7.out.below HB8.out).below hb)
  have HB9 := Aside0.mk (below_next (below_next HB7.out HB8.out) hb)
  clear hb
  go_wp2_with fail
  refine (new_no (C_of_blk (w := w9.alloc (.cells #[.int .i64 256, .int .u8 0] 29)) [⟨256, 0⟩] (by decide) (blk_new w9 _)) rfl (by decide) (by decide)).mono ?_
  rintro e w10 ⟨rfl, hb⟩
  have HT10 := Aside0.mk ((HT9.out.below (below_alloc (Below.refl _ _) _)).below hb)
  have HB10 := Aside0.mk (below_next (below_alloc HB9.out _) hb)
  clear hb
  go_wp2_with fail
  refine (awake_yes _).mono ?_
  rintro e w11 ⟨rfl, hb⟩
  have HT11 := Aside0.mk (HT10.out.below hb)
  have HB11 := Aside0.mk (below_next HB10.out hb)
  clear hb
  go_wp2_with fail
  refine (cost_T HT11.out 0).mono ?_
  rintro e w12 ⟨rfl, rfl⟩
  rw [show costP exK 0 = 1 by decide]
  go_wp2_with fail
  refine (may_T HT11.out 0 1).mono ?_
  rintro e w12 ⟨rfl, rfl⟩
  rw [show mayP exK 2 0 1 = false by decide]
  go_wp2_with fail
  refine (may_T HT11.out 1 1).mono ?_
  rintro e w12 ⟨rfl, rfl⟩
  rw [show mayP exK 2 1 1 = true by decide]
  go_wp2_with fail
  refine (may_T HT11.out 2 0).mono ?_
  rintro e w12 ⟨rfl, rfl⟩
  rw [show mayP exK 2 2 0 = false by decide]
  go_wp2_with fail
  refine (may_T HT11.out 0 3).mono ?_
  rintro e w12 ⟨rfl, rfl⟩
  rw [show mayP exK 2 0 3 = false by decide]
  go_wp2_with fail
  refine (cost_T HT11.out 3).mono ?_
  rintro e w12 ⟨rfl, rfl⟩
  rw [show costP exK 3 = 0 by decide]
  go_wp2
  go_ret
  exact ⟨rfl, HB11.out⟩
end Go.Proofs.Ytlnchdelcadmoaa
