/- The row of HeapLess: for every input the call returns true, and each argument reads behind it as before. Conditions: none but the form's own. -/
import Derived.Test.YtplimabdnpepjaaRows
import Derived.Test.YtplimabdnpepjaaOpen
import Derived.Test.YtplimabdnpepjaaHB
import Derived.WalkKit
import Derived.ProofKit
import Derived.OpenShut
import Derived.ShutString
import Derived.ChangeOld
import Derived.Below
import Derived.SizedLaws
namespace Go.Proofs.Ytplimabdnpepjaa.heapLess
open Go.ChangeShapes Go.WideShapes Go.ChangeAt Go.RowKit Go.Proofs.YtplimabdnpepjaaW.PrintWords
open Go.ChangeMaps (open_string shut_string)
set_option linter.unusedVariables false
theorem own : ownKnob Try.prog.godebug = none := by kernel_rfl
theorem laidOut : laidOutB Try.prog = true := by kernel_rfl
theorem opens0 : Opn.Opens Try.prog kdE 27 (fun _ => True) := opens_ent
theorem opens1 : Opn.Opens Try.prog kdE 27 (fun _ => True) := opens_ent
theorem opens2 : Opn.Opens Try.prog kdE 27 (fun _ => True) := opens_ent
set_option maxRecDepth 100000 in
theorem lifted (os : Os) (started : os.Started) (H : Type) (enc : TypeId × Value → H) :
    ReturnsInHanded {} Try.checked os 5 .any (Rows.heapLessSpec.pre6 enc Try.prog Try.f5 Rows.heapLessRow.domain false) (Rows.heapLessSpec.post enc Try.prog Try.f5 false true false false) := by
  refine returnsInHanded_of_change_sized (C := Try.checked) own started (by kernel_rfl) Try.func5
    (ChangeSpec.witness6 (enc := enc) (C := Try.checked) false ⟨#[], #[.agg #[.int .i64 0, .int .i64 0, .int .i64 0], .agg #[.int .i64 0, .int .i64 0, .int .i64 0], .agg #[.int .i64 0, .int .i64 0, .int .i64 0]], []⟩ 8 (by kernel_rfl) (by kernel_rfl) (by kernel_rfl) (by kernel_rfl)) ?_
  intro W base args ds gs before hval0 hW hcnd hsz0 _
  have hsz : (DataW.weightsEach Try.prog (Try.f5.params.toList ++ Rows.heapLessSpec.plain.varTypes Try.prog) (ds ++ gs)).all (· ≤ reachBytes) = true := hsz0
  have hval : ∀ (j : Nat) t v, Try.f5.params[j]? = some t → args[j]? = some v → Value.okWide Try.prog W .any base t v := hval0
  have hW' := hW
  obtain ⟨p, q, hA0, hV, rfl, hfz, hnd⟩ := hW
  have hA : DataW.TrodAll enc Try.prog W 0 (fun _ => true) true Try.f5.params.toList args.toList ds p := hA0
  rw [Try.params5] at hA hval hsz
  obtain ⟨v0, vs0, d0, ds0, p0, q0, hargs, rfl, rfl, h0, r0⟩ := trodAll_cons hA
  obtain ⟨v1, vs1, d1, ds1, p1, q1, rfl, rfl, rfl, h1, r1⟩ := trodAll_cons r0
  obtain ⟨v2, vs2, d2, ds2, p2, q2, rfl, rfl, rfl, h2, r2⟩ := trodAll_cons r1
  obtain ⟨rfl, rfl, rfl⟩ := trodAll_nil r2
  obtain rfl : args = #[v0, v1, v2] := by cases args; simp_all
  obtain ⟨rfl, rfl⟩ := trodVars_none hV
  have k0 := h0
  have lt0 : ∀ x ∈ p0, x.block < W.heap.size := by obtain ⟨m, hm⟩ := k0; exact DataW.trod_lt m _ _ _ hm
  obtain ⟨x0, K0, F0⟩ := Opn.opened opens0 hsz (j := 0) rfl rfl h0
  obtain ⟨cs0, rfl, hcs0⟩ := Opn.okWide_agg Try.underlying27 (by rfl) (hval 0 27 v0 rfl rfl)
  have k1 := h1
  have lt1 : ∀ x ∈ p1, x.block < W.heap.size := by obtain ⟨m, hm⟩ := k1; exact DataW.trod_lt m _ _ _ hm
  obtain ⟨x1, K1, F1⟩ := Opn.opened opens1 hsz (j := 1) rfl rfl h1
  obtain ⟨cs1, rfl, hcs1⟩ := Opn.okWide_agg Try.underlying27 (by rfl) (hval 1 27 v1 rfl rfl)
  have k2 := h2
  have lt2 : ∀ x ∈ p2, x.block < W.heap.size := by obtain ⟨m, hm⟩ := k2; exact DataW.trod_lt m _ _ _ hm
  obtain ⟨x2, K2, F2⟩ := Opn.opened opens2 hsz (j := 2) rfl rfl h2
  obtain ⟨cs2, rfl, hcs2⟩ := Opn.okWide_agg Try.underlying27 (by rfl) (hval 2 27 v2 rfl rfl)
  clear hA0 hval0 hsz0 hsz
  have E0 : cs0.toList = encE x0 := K0
  obtain rfl : cs0 = (encE x0).toArray := by rw [← E0]
  have E1 : cs1.toList = encE x1 := K1
  obtain rfl : cs1 = (encE x1).toArray := by rw [← E1]
  have E2 : cs2.toList = encE x2 := K2
  obtain rfl : cs2 = (encE x2).toArray := by rw [← E2]
  refine (less_walk W x0 x1 x2).mono fun e W' ⟨he, bel⟩ => ?_
  subst he
  exact ⟨_, rfl, _, _, _, [], _, [], hW', trodAll_mk1 (shut_bool Try.underlying4 _), (trodAll_cons_mk (Below.trod laidOut (by kernel_rfl) (of_decide_eq_true (by kernel_rfl)) k0 bel lt0) (trodAll_cons_mk (Below.trod laidOut (by kernel_rfl) (of_decide_eq_true (by kernel_rfl)) k1 bel lt1) (trodAll_cons_mk (Below.trod laidOut (by kernel_rfl) (of_decide_eq_true (by kernel_rfl)) k2 bel lt2) trodAll_mk0))), rfl, bel.frame _, fun h => by cases h⟩
theorem over : Rows.heapLessRow.holds Try.pinned (OpenSpec.ofChange Rows.heapLessSpec) :=
  OpenClaim.holds_of_wide 5 Try.f5 rfl rfl rfl rfl rfl rfl rfl ⟨rfl, rfl, rfl, rfl, rfl⟩ rfl rfl rfl rfl rfl (by kernel_rfl) Try.func5 (by kernel_rfl)
    (of_decide_eq_true (by kernel_rfl)) (by unfold Func.isWrapper; first | (rw [if_pos (by decide +kernel)]; kernel_rfl) | (rw [if_neg (by decide +kernel)]; exact ⟨rfl, rfl⟩))
    (fun os started H enc _ => lifted os started H enc)
theorem proved : Rows.HeapLessSaid := over
#print axioms proved
end Go.Proofs.Ytplimabdnpepjaa.heapLess
namespace Go.Proofs.Ytplimabdnpepjaa
/-- The row, under a short name, for the claim. -/
theorem heapLess_holds : Rows.HeapLessSaid := heapLess.proved
end Go.Proofs.Ytplimabdnpepjaa
