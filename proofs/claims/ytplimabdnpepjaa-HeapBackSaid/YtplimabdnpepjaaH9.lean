/- The document's heap: Pop of something. Conditions: what lies in memory as told. -/
import Derived.Test.YtplimabdnpepjaaH8
namespace Go.Proofs.Ytplimabdnpepjaa
open Go.RowKit Go.Proofs.YtplimabdnpepjaaW.PrintWords Go.Proofs.YtplimabdnpepjaaW.PrintLast Go.Proofs.YtplimabdnpepjaaW.PrintMore Lb

set_option maxRecDepth 100000 in
set_option maxHeartbeats 4000000 in
theorem rpop_some {w : World} {F : Nat → Prop} {b : Nat} {l : List Entry} (h : Rf w F b l) (q : Nat) (hq : fstI l l.length = (q : Int)) (hql : q < l.length) (hL : l.length ≤ 100000) :
    Calls Try.prog 12 #[.pointer (some ⟨b, 0, none⟩)] w fun e w' => e = .returned (.tuple #[.agg #[.int .i64 (entAt l q).f, .int .i64 (entAt l q).g, .int .i64 (entAt l q).c], .bool true]) ∧ ∃ F', Rf w' F' b (l.take q ++ l.drop (q + 1)) ∧ (∀ k, F' k → F k ∨ w.heap.size ≤ k) ∧ Chg F w w' := by
  have HF0 := Aside0.mk h.lt
  have HFb := Aside0.mk h.hb
  have H := Aside0.mk (h.below (below_alloc (Below.refl _ _) (.cells #[.int .i64 0, .int .i64 0, .int .i64 0] 38)))
  have HQ := Aside0.mk hq
  clear h hq
  go_enter Try.func12, Try.ntmps12
  go_wp2_with fail
  refine (first_ok H.out (by omega)).mono ?_
  rintro e w2 ⟨rfl, hb⟩
  rw [HQ.out]
  have hs := hb.size
  obtain ⟨A, c, hp⟩ := H.out.below hb
  obtain ⟨g, rfl, hFg, _, hcell, _⟩ := F_elem hp.row q (entAt l q) (entAt_some hql)
  obtain ⟨_, hcap, hCr⟩ := Kd.R_reads' hp.row
  have hlt2 : w.heap.size < w2.heap.size := by simp at hs; omega
  have hC2 : Chg Non w w2 := ((Chg.refl Non w).alloc _).trans (Chg.of_below (F := Non) hb) (fun _ e => e.elim)
  have HT2 := Aside0.mk (show w2.heap[w.heap.size]? = some (.cells #[.int .i64 0, .int .i64 0, .int .i64 0] 38 (0, 0)) by rw [hb.block _ (by simp)]; exact blk_new w _)
  have hc0 : w2.cell? ⟨g, q * 3, none⟩ = some (.int .i64 (entAt l q).f) := hcell 0 _ rfl
  have hc1 : w2.cell? ⟨g, q * 3 + 1, none⟩ = some (.int .i64 (entAt l q).g) := hcell 1 _ rfl
  have hc2 : w2.cell? ⟨g, q * 3 + 2, none⟩ = some (.int .i64 (entAt l q).c) := hcell 2 _ rfl
  have h0 := hp.c0
  have hCt : kdE.C w2 (some ⟨g, 0, none⟩) q (l.take q) := by
    have := Kd.C_take hCr (m := q) (by omega)
    rwa [List.length_take, Nat.min_eq_left (by omega)] at this
  have HCt := Aside0.mk hCt
  have HCr := Aside0.mk hCr
  have HP := Aside0.mk hp
  have HC2 := Aside0.mk hC2
  have HG := Aside0.mk hFg
  have HCap := Aside0.mk hcap
  have q0 : (0 : Int) ≤ (q : Int) := by omega
  have q1 : (q : Int) < (l.length : Int) := by omega
  have q2 : (q : Int) ≤ (c : Int) := by omega
  have q3 : (q : Int) + 1 ≤ (l.length : Int) := by omega
  have q4 : q ≤ c := by omega
  have q5 : q + 1 ≤ l.length := by omega
  have hbw : ¬ b = w.heap.size := fun e => by have := HF0.out b HFb.out; omega
  have hwb : ¬ w.heap.size = b := fun e => hbw e.symm
  have hnb2 : ¬ w2.heap.size = b := fun e => by have := HF0.out b HFb.out; omega
  have hww : ¬ w2.heap.size = w.heap.size := by omega
  have hww2 : ¬ w.heap.size = w2.heap.size := by omega
  have hbn : ¬ b = w2.heap.size := fun e => by have := HF0.out b HFb.out; omega
  have h0b : ((w2.alloc (.cells #[.int .i64 (entAt l q).f, .int .i64 (entAt l q).g, .int .i64 (entAt l q).c] 38)).alloc (.cells #[] 38)).cell? ⟨b, 0, none⟩ = some (.slice (some ⟨g, 0, none⟩) l.length c) := (hp.keep (((Chg.refl Non w2).alloc _).alloc _) (fun _ _ e => e)).c0
  have HR : Aside0 (kdE.R 38 ((w2.alloc (.cells #[.int .i64 (entAt l q).f, .int .i64 (entAt l q).g, .int .i64 (entAt l q).c] 38)).alloc (.cells #[] 38)) w.heap.size (fun k => k = w2.heap.size + 1) (.slice (some ⟨w2.heap.size + 1, 0, none⟩) 0 0) []) := ⟨by
    have hz : (w2.alloc (.cells #[.int .i64 (entAt l q).f, .int .i64 (entAt l q).g, .int .i64 (entAt l q).c] 38)).heap.size = w2.heap.size + 1 := by simp
    have := R_empty kdE 38 (w2.alloc (.cells #[.int .i64 (entAt l q).f, .int .i64 (entAt l q).g, .int .i64 (entAt l q).c] 38)) w.heap.size (fun k => k = w2.heap.size + 1) (by rw [hz]; omega) hz
    rw [hz] at this
    exact this⟩
  clear hb hs hp hcell hCt hCr hC2 hFg hcap
  by_cases hcq : c = q + 1
  · subst hcq
    go_wp2_with (first | ((with_reducible refine gate_builtin (b := .append) (xs := #[.tmp 19, .tmp 25]) rfl ?_); at_builtin; go_must (refine R_pushs kdE w.heap.size (fun k => k = w2.heap.size + 1) rfl (.tmp 19) (.tmp 25) 35 38 (.agg #[.int .i64 0, .int .i64 0, .int .i64 0]) 24 rfl Try.underlying35 info38 rfl (by decide) (by omega) (.slice (some ⟨w2.heap.size + 1, 0, none⟩) 0 0) [] (l.take q) (some ⟨g, 0, none⟩) q (q + 1) (fun _ => False) rfl rfl HR.out (Kd.C_alloc (Kd.C_alloc HCt.out _) _) (fun _ _ h => h) (fun _ h => h.elim) (by (try simp); omega) (by (try simp); omega) ?_; intro v1 w4 F4 hR hlt hnew hC; obtain ⟨A4, n4, c4, hv, HN4, HL4, HCC4, HR4⟩ := R_outN hR; have hn4 : q = n4 := (by rw [HN4.out]; simp; omega); subst hn4; subst hv; have hnew4 : ∀ k, F4 k → w2.heap.size + 1 ≤ k := (fun k hk => (hnew k hk).elim (fun e => by omega) (fun e => by simp at e; omega)); have HW4 := Aside0.mk hnew4; have hX4 : Chg Non w2 w4 := ((((Chg.refl Non w2).alloc (.cells #[.int .i64 (entAt l q).f, .int .i64 (entAt l q).g, .int .i64 (entAt l q).c] 38)).alloc (.cells #[] 38)).trans hC (fun i h => .inr (by omega))); have HX4 := Aside0.mk hX4; have hz4 := hC.blk (((Chg.refl Non _).alloc (.cells #[] 38)).blk (blk_new w2 (.cells #[.int .i64 (entAt l q).f, .int .i64 (entAt l q).g, .int .i64 (entAt l q).c] 38)) (fun e => e)) (fun e => by omega); have HZ4 := Aside0.mk hz4; have hP4 := HP.out.keep hX4 (fun _ _ e => e); have h04 := hP4.c0; have HP4 := Aside0.mk hP4; have HCr4 := Aside0.mk (Kd.R_reads' hP4.row).2.2; clear hR hlt hnew hC HN4 hX4 hnew4 hz4 hP4 h0 h0b hc0 hc1 hc2)) | ((with_reducible refine gate_builtin (b := .append) (xs := #[.tmp 28, .tmp 35]) rfl ?_); at_builtin; go_must (refine R_pushs kdE w.heap.size F4 rfl (.tmp 28) (.tmp 35) 35 38 (.agg #[.int .i64 0, .int .i64 0, .int .i64 0]) 24 rfl Try.underlying35 info38 rfl (by decide) (by omega) (.slice A4 q c4) (l.take q) (l.drop (q + 1)) (some ⟨g, 0, none⟩) (l.length - (q + 1)) 0 (fun _ => False) rfl rfl HR4.out (by have hd := Kd.C_drop HCr4.out (m := q + 1) (c := q + 1) q5 HCap.out; rw [if_pos rfl] at hd; rw [List.length_drop] at hd; exact hd) (fun _ _ h => h) (fun _ h => h.elim) (by have := HX4.out.size; omega) (by rw [List.length_take]; omega) ?_; intro v1 w5 F5 hR hlt hnew hC; obtain ⟨A5, n5, c5, hv, HN5, HL5, HCC5, HR5⟩ := R_outN hR; subst hv; have hnew5 : ∀ k, F5 k → w2.heap.size + 1 ≤ k := (fun k hk => (hnew k hk).elim (fun e => HW4.out k e) (fun e => by have := blk_lt HZ4.out; omega)); have HW5 := Aside0.mk hnew5; have HLt5 := Aside0.mk hlt; have hX5 : Chg Non w2 w5 := (HX4.out.trans hC (fun i h => .inr (by have := HW4.out i h; omega))); have HX5 := Aside0.mk hX5; have hz5 := hC.blk HZ4.out (fun e => by have := HW4.out _ e; omega); have k50 : w5.cell? ⟨w2.heap.size, 0, none⟩ = some (.int .i64 (entAt l q).f) := (by rw [blk_cell hz5]; rfl); have k51 : w5.cell? ⟨w2.heap.size, 1, none⟩ = some (.int .i64 (entAt l q).g) := (by rw [blk_cell hz5]; rfl); have k52 : w5.cell? ⟨w2.heap.size, 2, none⟩ = some (.int .i64 (entAt l q).c) := (by rw [blk_cell hz5]; rfl); have hy5 := hX5.blk HT2.out (fun e => e); have j50 : w5.cell? ⟨w.heap.size, 0, none⟩ = some (.int .i64 0) := (by rw [blk_cell hy5]; rfl); have j51 : w5.cell? ⟨w.heap.size, 1, none⟩ = some (.int .i64 0) := (by rw [blk_cell hy5]; rfl); have j52 : w5.cell? ⟨w.heap.size, 2, none⟩ = some (.int .i64 0) := (by rw [blk_cell hy5]; rfl); have f50 := blk_frozen hy5 0; have f51 := blk_frozen hy5 1; have f52 := blk_frozen hy5 2; have hP5 := HP.out.keep hX5 (fun _ _ e => e); have h05 := hP5.c0; have fb := blk_frozen hP5.blk 0; have HP5 := Aside0.mk hP5; clear hR hlt hnew hC hX5 hnew5 hz5 hP5 hy5 h04)))
    go_wp2
    (try simp only [Exit.inBlock, Exit.then])
    refine bodyPost_ret (v := .tuple #[.agg #[.int .i64 (entAt l q).f, .int .i64 (entAt l q).g, .int .i64 (entAt l q).c], .bool true]) ?_ rfl ⟨rfl, fun k => F5 k ∨ k = b, ⟨A5, c5, fun k hk => ?_, .inr rfl, ?_, ?_⟩, fun k hk => ?_, ?_⟩
    · rw [results_cell_tmp rfl]
      go_simp
    · simp only [World.setCell, Array.size_modify]
      rcases hk with hk | hk
      · exact HLt5.out k hk
      · rw [hk]; exact blk_lt HP5.out.blk
    · rw [← HN5.out]
      have hnb : ¬ b = w.heap.size := fun e => by have := HF0.out b HFb.out; omega
      exact blk_far (blk_far (blk_far (blk_set HP5.out.blk 0 (.slice A5 n5 c5)) hnb _) hnb _) hnb _
    · rw [← HN5.out]
      have r1 := Kd.R_set HR5.out HP5.out.blk (by simp [flatK]) 0 (.slice A5 n5 c5)
      exact Kd.R_mono (Kd.R_lower (Kd.R_far (Kd.R_far (Kd.R_far r1 (p := ⟨w.heap.size, 0, none⟩) (fun k hk e => by have := HW5.out k hk; simp at e; omega) _) (p := ⟨w.heap.size, 1, none⟩) (fun k hk e => by have := HW5.out k hk; simp at e; omega) _) (p := ⟨w.heap.size, 2, none⟩) (fun k hk e => by have := HW5.out k hk; simp at e; omega) _) (Nat.zero_le _)) (fun k hk => .inl hk)
    · rcases hk with hk | hk
      · exact .inr (by have := HW5.out k hk; omega)
      · rw [hk]; exact .inl HFb.out
    · exact (((((HC2.out.trans HX5.out (fun _ e => e.elim)).mono (fun _ e => e.elim)).set (p := ⟨b, 0, none⟩) (.inl HFb.out) _).set (p := ⟨w.heap.size, 0, none⟩) (.inr (Nat.le_refl _)) _).set (p := ⟨w.heap.size, 1, none⟩) (.inr (Nat.le_refl _)) _).set (p := ⟨w.heap.size, 2, none⟩) (.inr (Nat.le_refl _)) _
  · have HNE := Aside0.mk hcq
    go_wp2_with (first | ((with_reducible refine gate_builtin (b := .append) (xs := #[.tmp 19, .tmp 25]) rfl ?_); at_builtin; go_must (refine R_pushs kdE w.heap.size (fun k => k = w2.heap.size + 1) rfl (.tmp 19) (.tmp 25) 35 38 (.agg #[.int .i64 0, .int .i64 0, .int .i64 0]) 24 rfl Try.underlying35 info38 rfl (by decide) (by omega) (.slice (some ⟨w2.heap.size + 1, 0, none⟩) 0 0) [] (l.take q) (some ⟨g, 0, none⟩) q c (fun _ => False) rfl rfl HR.out (Kd.C_alloc (Kd.C_alloc HCt.out _) _) (fun _ _ h => h) (fun _ h => h.elim) (by (try simp); omega) (by (try simp); omega) ?_; intro v1 w4 F4 hR hlt hnew hC; obtain ⟨A4, n4, c4, hv, HN4, HL4, HCC4, HR4⟩ := R_outN hR; have hn4 : q = n4 := (by rw [HN4.out]; simp; omega); subst hn4; subst hv; have hnew4 : ∀ k, F4 k → w2.heap.size + 1 ≤ k := (fun k hk => (hnew k hk).elim (fun e => by omega) (fun e => by simp at e; omega)); have HW4 := Aside0.mk hnew4; have hX4 : Chg Non w2 w4 := ((((Chg.refl Non w2).alloc (.cells #[.int .i64 (entAt l q).f, .int .i64 (entAt l q).g, .int .i64 (entAt l q).c] 38)).alloc (.cells #[] 38)).trans hC (fun i h => .inr (by omega))); have HX4 := Aside0.mk hX4; have hz4 := hC.blk (((Chg.refl Non _).alloc (.cells #[] 38)).blk (blk_new w2 (.cells #[.int .i64 (entAt l q).f, .int .i64 (entAt l q).g, .int .i64 (entAt l q).c] 38)) (fun e => e)) (fun e => by omega); have HZ4 := Aside0.mk hz4; have hP4 := HP.out.keep hX4 (fun _ _ e => e); have h04 := hP4.c0; have HP4 := Aside0.mk hP4; have HCr4 := Aside0.mk (Kd.R_reads' hP4.row).2.2; clear hR hlt hnew hC HN4 hX4 hnew4 hz4 hP4 h0 h0b hc0 hc1 hc2)) | ((with_reducible refine gate_builtin (b := .append) (xs := #[.tmp 28, .tmp 35]) rfl ?_); at_builtin; go_must (refine R_pushs kdE w.heap.size F4 rfl (.tmp 28) (.tmp 35) 35 38 (.agg #[.int .i64 0, .int .i64 0, .int .i64 0]) 24 rfl Try.underlying35 info38 rfl (by decide) (by omega) (.slice A4 q c4) (l.take q) (l.drop (q + 1)) (some ⟨g, (q + 1) * 3, none⟩) (l.length - (q + 1)) (c - (q + 1)) (fun _ => False) rfl rfl HR4.out (by have hd := Kd.C_drop HCr4.out (m := q + 1) (c := c) q5 HCap.out; rw [if_neg HNE.out, Option.map_some, add_plain] at hd; rw [List.length_drop] at hd; exact hd) (fun _ _ h => h) (fun _ h => h.elim) (by have := HX4.out.size; omega) (by rw [List.length_take]; omega) ?_; intro v1 w5 F5 hR hlt hnew hC; obtain ⟨A5, n5, c5, hv, HN5, HL5, HCC5, HR5⟩ := R_outN hR; subst hv; have hnew5 : ∀ k, F5 k → w2.heap.size + 1 ≤ k := (fun k hk => (hnew k hk).elim (fun e => HW4.out k e) (fun e => by have := blk_lt HZ4.out; omega)); have HW5 := Aside0.mk hnew5; have HLt5 := Aside0.mk hlt; have hX5 : Chg Non w2 w5 := (HX4.out.trans hC (fun i h => .inr (by have := HW4.out i h; omega))); have HX5 := Aside0.mk hX5; have hz5 := hC.blk HZ4.out (fun e => by have := HW4.out _ e; omega); have k50 : w5.cell? ⟨w2.heap.size, 0, none⟩ = some (.int .i64 (entAt l q).f) := (by rw [blk_cell hz5]; rfl); have k51 : w5.cell? ⟨w2.heap.size, 1, none⟩ = some (.int .i64 (entAt l q).g) := (by rw [blk_cell hz5]; rfl); have k52 : w5.cell? ⟨w2.heap.size, 2, none⟩ = some (.int .i64 (entAt l q).c) := (by rw [blk_cell hz5]; rfl); have hy5 := hX5.blk HT2.out (fun e => e); have j50 : w5.cell? ⟨w.heap.size, 0, none⟩ = some (.int .i64 0) := (by rw [blk_cell hy5]; rfl); have j51 : w5.cell? ⟨w.heap.size, 1, none⟩ = some (.int .i64 0) := (by rw [blk_cell hy5]; rfl); have j52 : w5.cell? ⟨w.heap.size, 2, none⟩ = some (.int .i64 0) := (by rw [blk_cell hy5]; rfl); have f50 := blk_frozen hy5 0; have f51 := blk_frozen hy5 1; have f52 := blk_frozen hy5 2; have hP5 := HP.out.keep hX5 (fun _ _ e => e); have h05 := hP5.c0; have fb := blk_frozen hP5.blk 0; have HP5 := Aside0.mk hP5; clear hR hlt hnew hC hX5 hnew5 hz5 hP5 hy5 h04)))
    go_wp2
    (try simp only [Exit.inBlock, Exit.then])
    refine bodyPost_ret (v := .tuple #[.agg #[.int .i64 (entAt l q).f, .int .i64 (entAt l q).g, .int .i64 (entAt l q).c], .bool true]) ?_ rfl ⟨rfl, fun k => F5 k ∨ k = b, ⟨A5, c5, fun k hk => ?_, .inr rfl, ?_, ?_⟩, fun k hk => ?_, ?_⟩
    · rw [results_cell_tmp rfl]
      go_simp
    · simp only [World.setCell, Array.size_modify]
      rcases hk with hk | hk
      · exact HLt5.out k hk
      · rw [hk]; exact blk_lt HP5.out.blk
    · rw [← HN5.out]
      have hnb : ¬ b = w.heap.size := fun e => by have := HF0.out b HFb.out; omega
      exact blk_far (blk_far (blk_far (blk_set HP5.out.blk 0 (.slice A5 n5 c5)) hnb _) hnb _) hnb _
    · rw [← HN5.out]
      have r1 := Kd.R_set HR5.out HP5.out.blk (by simp [flatK]) 0 (.slice A5 n5 c5)
      exact Kd.R_mono (Kd.R_lower (Kd.R_far (Kd.R_far (Kd.R_far r1 (p := ⟨w.heap.size, 0, none⟩) (fun k hk e => by have := HW5.out k hk; simp at e; omega) _) (p := ⟨w.heap.size, 1, none⟩) (fun k hk e => by have := HW5.out k hk; simp at e; omega) _) (p := ⟨w.heap.size, 2, none⟩) (fun k hk e => by have := HW5.out k hk; simp at e; omega) _) (Nat.zero_le _)) (fun k hk => .inl hk)
    · rcases hk with hk | hk
      · exact .inr (by have := HW5.out k hk; omega)
      · rw [hk]; exact .inl HFb.out
    · exact (((((HC2.out.trans HX5.out (fun _ e => e.elim)).mono (fun _ e => e.elim)).set (p := ⟨b, 0, none⟩) (.inl HFb.out) _).set (p := ⟨w.heap.size, 0, none⟩) (.inr (Nat.le_refl _)) _).set (p := ⟨w.heap.size, 1, none⟩) (.inr (Nat.le_refl _)) _).set (p := ⟨w.heap.size, 2, none⟩) (.inr (Nat.le_refl _)) _
end Go.Proofs.Ytplimabdnpepjaa
