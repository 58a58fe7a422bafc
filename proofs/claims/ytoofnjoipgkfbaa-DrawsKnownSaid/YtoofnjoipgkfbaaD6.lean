/- DrawsKnown's and DrawsNobody's walks. Conditions: none; a number of 16 bits. -/
import Derived.Test.YtoofnjoipgkfbaaD3
namespace Go.Proofs.Ytoofnjoipgkfbaa
open Go.RowKit Go.Proofs.YtoofnjoipgkfbaaW.PrintWords Lb

set_option maxHeartbeats 1000000 in
set_option maxRecDepth 100000 in
theorem known_walk (w : World) : Calls Try.prog 3 #[] w fun e w' => e = .returned (.bool true) ∧ Below w.heap.size w w' := by
  go_enter Try.func3, Try.ntmps3
  go_wp2_with (first | ((with_reducible refine gate_ (.makeSlice 26 (.const (.int .i64 4097)) (.const (.int .i64 4097))) rfl ?_); refine Kd.R_make (Kd.int .u32) (w0 := w) w.heap.size 30 rfl rfl 26 _ _ rfl 4097 rfl rfl Try.underlying26 (.int .u32 0) 4 info30 rfl (by decide) (by decide) 0 (okp := fun _ => False) (ok := fun _ => True) rfl (fun _ h => h.elim) trivial (by decide) (by decide) (Below.refl _ _) (Nat.le_refl _) ?_; intro v1 w1 hR hB _ _; obtain ⟨A2, c2, hv, hc2, hC2⟩ := Kd.R_reads hR; rw [List.length_replicate] at hv; subst hv; have HB := Aside0.mk hB; clear hR hB hC2 hc2))
  refine (new_great w1 A2 4097 c2 (by decide)).mono ?_
  rintro e w2 ⟨rfl, rfl⟩
  go_wp2_with (first | ((with_reducible refine gate_ (.makeSlice 26 (.const (.int .i64 4096)) (.const (.int .i64 4096))) rfl ?_); refine Kd.R_make (Kd.int .u32) (w0 := w) w.heap.size 30 rfl rfl 26 _ _ rfl 4096 rfl rfl Try.underlying26 (.int .u32 0) 4 info30 rfl (by decide) (by decide) 0 (okp := fun _ => False) (ok := fun _ => True) rfl (fun _ h => h.elim) trivial (by decide) (by decide) HB.out HB.out.size ?_; intro v1 w3 hR hB3 _ _; obtain ⟨A3, c3, hv, hc3, hC3⟩ := Kd.R_reads hR; subst hv; have HB3 := Aside0.mk hB3; have HC3 := Aside0.mk hC3; clear hR hB3 hC3 hc3))
  refine (new_ok _ A3 c3 (List.replicate 4096 0) HC3.out (by simp)).mono ?_
  rintro e w4 ⟨b, F, rfl, hD, hF, hB⟩
  have HD := Aside0.mk hD
  have HB4 := Aside0.mk (HB3.out.trans (hB.mono HB3.out.size))
  clear hD hF hB
  go_wp2_with fail
  refine (awake_yes _).mono ?_
  rintro e w5 ⟨rfl, hB⟩
  have HD5 := Aside0.mk (HD.out.keep (Chg.of_below (F := Non) hB) (fun _ _ h => h))
  have HB5 := Aside0.mk (HB4.out.trans (hB.mono HB4.out.size))
  clear hB
  go_wp2_with fail
  refine (len_obj HD5.out).mono ?_
  rintro e w6 ⟨rfl, rfl⟩
  go_wp2
  go_ret
  exact ⟨rfl, HB5.out⟩
end Go.Proofs.Ytoofnjoipgkfbaa
