/- The statements' own wake: two draws of a list of one number are the document's. Conditions: none. -/
import Derived.Test.YtoofnjoipgkfbaaD2
namespace Go.Proofs.Ytoofnjoipgkfbaa
open Go.RowKit Go.Proofs.YtoofnjoipgkfbaaW.PrintWords Lb

set_option maxHeartbeats 1000000 in
theorem awake_yes (w : World) : Calls Try.prog 9 #[] w fun e w' => e = .returned (.bool true) ∧ Below w.heap.size w w' := by
  have HC := Aside0.mk (C_lit (enc := Value.int .u32) (h1 := fun _ => rfl) 30 w _ [7] (by simp) rfl)
  have HU : Hid (U32s [7]) := by intro x hx; simp at hx; omega
  go_enter Try.func9, Try.ntmps9
  go_wp2_with fail
  refine (new_ok _ _ 1 [7] HC.out (by simp)).mono ?_
  rintro e w1 ⟨b, F, rfl, hD, hF, hB⟩
  have HD := Aside0.mk hD
  have HF := Aside0.mk hF
  have HB := Aside0.mk (Below.trans (below_alloc (Below.refl w.heap.size w) (Obj.cells #[.int .u32 7] 30)) (hB.mono (by simp)))
  clear hD hF hB
  go_wp2_with fail
  refine (next_at HD.out (by omega) (by omega) HU (by simp)).mono ?_
  rintro e w2 ⟨rfl, hD, hC⟩
  have HD2 := Aside0.mk hD
  have HC2 := Aside0.mk hC
  clear hD hC
  go_wp2_with fail
  refine (next_at HD2.out (by omega) (by omega) HU (by simp)).mono ?_
  rintro e w3 ⟨rfl, hD, hC⟩
  have HD3 := Aside0.mk hD
  have HC3 := Aside0.mk hC
  clear hD hC
  have HL0 := Aside0.mk (C_lit (enc := Value.int .u32) (h1 := fun _ => rfl) 30 w3 _ [7] (by simp) rfl)
  go_wp2_with fail
  refine (draw_any _ _ 1 [7] 0 HL0.out (by omega) (by omega) HU (by simp)).mono ?_
  rintro e w4 ⟨rfl, rfl⟩
  have HL1 := Aside0.mk (C_lit (enc := Value.int .u32) (h1 := fun _ => rfl) 30 (w3.alloc (Obj.cells #[Value.int .u32 7] 30)) (w3.heap.size + 1) [7] (by simp) (by simp))
  go_wp2_with fail
  refine (draw_any _ _ 1 [7] 1 HL1.out (by omega) (by omega) HU (by simp)).mono ?_
  rintro e w4 ⟨rfl, rfl⟩
  go_wp2_with fail
  refine (len_obj ((HD3.out.keep ((Chg.refl Non _).alloc _) (fun _ _ h => h)).keep ((Chg.refl Non _).alloc _) (fun _ _ h => h))).mono ?_
  rintro e w4 ⟨rfl, rfl⟩
  go_wp2
  go_ret
  refine ⟨rfl, ?_⟩
  have h1 := HF.out b HD.out.hb
  have h2 : Chg (fun k => k = b) w w3 := (Chg.of_below HB.out).trans (HC2.out.trans HC3.out (fun i h => .inl h)) (fun i h => .inl h)
  exact ((h2.alloc _).alloc _).below (Nat.le_refl _) (fun k hk => by subst hk; simp at h1; omega)
end Go.Proofs.Ytoofnjoipgkfbaa
