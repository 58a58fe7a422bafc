/- ArenaNobody's walk. Conditions: a number of 32 bits. -/
import Derived.Test.YtckimhfbbfpddaaA2
import Derived.Test.YtckimhfbbfpddaaA3
namespace Go.Proofs.Ytckimhfbbfpddaa
open Go.RowKit Go.Proofs.YtckimhfbbfpddaaW.PrintWords Lb

set_option maxHeartbeats 1000000 in
set_option maxRecDepth 100000 in
theorem nobody_walk (w : World) (n : Int) (hn : -2147483648 ≤ n) (hn1 : n ≤ 2147483647) : Calls Try.prog 5 #[.int .i32 n] w fun e w' => e = .returned (.bool true) ∧ Below w.heap.size w w' := by
  go_enter Try.func5, Try.ntmps5
  go_wp2_with fail
  refine (awake_yes _).mono ?_
  rintro e w1 ⟨rfl, hB⟩
  have HB := Aside0.mk (below_alloc hB (Obj.cells #[.slice none 0 0, .int .i32 0, .int .i64 0] 51))
  have HS := Aside0.mk hB.size
  have HA := Aside0.mk (newI_at w1)
  clear hB
  go_wp2_with fail
  refine (takeI_nil _ 3).mono ?_
  rintro e w2 ⟨rfl, rfl⟩
  go_wp2_with fail
  refine (freeI_nil _ n).mono ?_
  rintro e w2 ⟨rfl, rfl⟩
  go_wp2_with fail
  refine (atI_nil _ n).mono ?_
  rintro e w2 ⟨rfl, rfl⟩
  go_wp2_with fail
  refine (lenI_nil _).mono ?_
  rintro e w2 ⟨rfl, rfl⟩
  go_wp2_with fail
  refine (slotsI_nil _).mono ?_
  rintro e w2 ⟨rfl, rfl⟩
  go_wp2_with fail
  refine (freeI_no HA.out n hn hn1 (by simp) (by simp [isS])).mono ?_
  rintro e w2 ⟨rfl, rfl⟩
  go_wp2_with fail
  refine (atI_no HA.out n hn hn1 (by simp) (by simp [isS])).mono ?_
  rintro e w2 ⟨rfl, rfl⟩
  go_wp2_with fail
  refine (takeI_new HA.out 3 rfl (by simp) (by simp) (by simp)).mono ?_
  rintro e w2 ⟨rfl, F2, hA, hF, hC⟩
  have H2 := Aside0.mk hA
  have HB2 := Aside0.mk (HB.out.trans (hC.below (B := w.heap.size) HB.out.size (fun k hk => by subst hk; exact HS.out)))
  clear hA hF hC
  go_wp2_with fail
  refine (lenI H2.out).mono ?_
  rintro e w3 ⟨rfl, rfl⟩
  go_wp2
  go_ret
  exact ⟨rfl, HB2.out⟩
end Go.Proofs.Ytckimhfbbfpddaa
