/- ArenaKnown's walk. Conditions: none. -/
import Derived.Test.YtckimhfbbfpddaaA3
import Derived.Test.YtckimhfbbfpddaaAK
import Derived.ChangeKeysEq
namespace Go.Proofs.Ytckimhfbbfpddaa
open Go.RowKit Go.Proofs.YtckimhfbbfpddaaW.PrintWords Lb

theorem u24 : Try.prog.underlying 24 = some (.array 2 3) := by kernel_rfl
theorem i3 : (Try.prog.info? 3).isSome = true := by kernel_rfl
theorem eq24 (w : World) (a b : Int) : (Op.equalIn 10000 24 (.agg #[.int .i64 a, .int .i64 b]) (.agg #[.int .i64 a, .int .i64 b])).run Try.prog w = .ok true w := by
  obtain ⟨i, hi⟩ := Option.isSome_iff_exists.1 i3
  have h3 : ∀ x y : Int, (Op.equalIn 9999 3 (.int .i64 x) (.int .i64 y)).run Try.prog w = .ok (x == y) w := fun x y => run_equalIn_int w 9998 3 .i64 .i64 x y Try.underlying3
  rw [show (10000 : Nat) = 9999 + 1 from rfl, run_equalIn_array w 9999 _ _ u24 hi]
  rw [show Try.prog.cellsOf 3 = 1 from by kernel_rfl]
  simp [Op.eqItems, List.range, List.range.loop, part, h3]

set_option maxHeartbeats 2000000 in
set_option maxRecDepth 100000 in
theorem known_walk (w : World) : Calls Try.prog 3 #[] w fun e w' => e = .returned (.bool true) ∧ Below w.heap.size w w' := by
  have HN := Aside0.mk (Nat.le_refl w.heap.size)
  go_enter Try.func3, Try.ntmps3
  go_wp2_with fail
  refine (newK w).mono ?_
  rintro e w1 ⟨rfl, rfl⟩
  have H1 := Aside0.mk (newK_at w)
  have M1 := Aside0.mk (Mine.alloc w (.cells #[.slice none 0 0, .int .i32 0, .int .i64 0] 63))
  go_wp2_with fail
  refine (takeK_new H1.out (1, 2) rfl (by simp) (by simp) (by simp)).mono ?_
  rintro e w2 ⟨rfl, F2, hA, hF, hC⟩
  have H2 := Aside0.mk hA
  have M2 := Aside0.mk (M1.out.step (M1.out.size HN.out) hC hF)
  clear hA hF hC
  go_wp2_with fail
  refine (takeK_new H2.out (3, 4) rfl (by simp) (by simp) (by simp)).mono ?_
  rintro e w3 ⟨rfl, F3, hA, hF, hC⟩
  have H3 := Aside0.mk hA
  have M3 := Aside0.mk (M2.out.step (M2.out.size HN.out) hC hF)
  clear hA hF hC
  go_wp2_with fail
  refine (takeK_new H3.out (5, 6) rfl (by simp) (by simp) (by simp)).mono ?_
  rintro e w4 ⟨rfl, F4, hA, hF, hC⟩
  have H4 := Aside0.mk hA
  have M4 := Aside0.mk (M3.out.step (M3.out.size HN.out) hC hF)
  clear hA hF hC
  go_wp2_with fail
  refine (freeK_yes H4.out 1 ⟨(3, 4), true, 0⟩ rfl rfl (by simp) (by simp) (by simp)).mono ?_
  rintro e w5 ⟨rfl, hA, hC⟩
  have H5 := Aside0.mk hA
  have M5 := Aside0.mk (M4.out.step (M4.out.size HN.out) hC (fun k hk => .inl hk))
  clear hA hC
  go_wp2_with fail
  refine (freeK_no H5.out 2 (by omega) (by omega) (by simp) rfl).mono ?_
  rintro e w6 ⟨rfl, rfl⟩
  go_wp2_with fail
  refine (atK_no H5.out 2 (by omega) (by omega) (by simp) rfl).mono ?_
  rintro e w6 ⟨rfl, rfl⟩
  go_wp2_with fail
  refine (freeK_yes H5.out 2 ⟨(5, 6), true, 0⟩ rfl rfl (by simp) (by simp) (by simp)).mono ?_
  rintro e w6 ⟨rfl, hA, hC⟩
  have H6 := Aside0.mk hA
  have M6 := Aside0.mk (M5.out.step (M5.out.size HN.out) hC (fun k hk => .inl hk))
  clear hA hC
  go_wp2_with fail
  refine (takeK_old H6.out 2 ⟨(0, 0), false, 2⟩ (7, 8) rfl rfl (by simp) (by simp) (by simp)).mono ?_
  rintro e w7 ⟨rfl, hA, hC⟩
  have H7 := Aside0.mk hA
  have M7 := Aside0.mk (M6.out.step (M6.out.size HN.out) hC (fun k hk => .inl hk))
  clear hA hC
  go_wp2_with fail
  refine (takeK_old H7.out 1 ⟨(0, 0), false, 0⟩ (9, 9) rfl rfl (by simp) (by simp) (by simp)).mono ?_
  rintro e w8 ⟨rfl, hA, hC⟩
  have M8 := Aside0.mk (M7.out.step (M7.out.size HN.out) hC (fun k hk => .inl hk))
  obtain ⟨A, c, hA⟩ := hA
  obtain ⟨g, rfl, _, _, _, _⟩ := F_elem hA.row 0 ⟨(1, 2), true, 0⟩ rfl
  have H8 := Aside0.mk hA
  clear hA hC
  go_wp2_with fail
  refine (atK_yes H8.out rfl 0 ⟨(1, 2), true, 0⟩ rfl rfl (by simp)).mono ?_
  rintro e w9 ⟨rfl, rfl⟩
  go_wp2_with fail
  refine (awake_yes _).mono ?_
  rintro e w9 ⟨rfl, hB⟩
  have hA : ArK w9 F4 w.heap.size _ _ _ := ⟨fun k hk => Nat.lt_of_lt_of_le (H8.out.lt k hk) hB.size, H8.out.hb, (Chg.of_below (F := Non) hB).blk H8.out.blk (fun e => e), R_chg H8.out.row (Chg.of_below (F := Non) hB) (fun _ _ e => e)⟩
  obtain ⟨g', hg', _, _, hcell, _⟩ := F_elem hA.row 0 ⟨(1, 2), true, 0⟩ rfl
  injection hg' with hg'
  injection hg' with hg'
  subst hg'
  have hx0 : w9.cell? ⟨g, 0, none⟩ = some (.int .i64 1) := hcell 0 _ rfl
  have hx1 : w9.cell? ⟨g, 1, none⟩ = some (.int .i64 2) := hcell 1 _ rfl
  have hq := eq24 w9 1 2
  have H9 := Aside0.mk hA
  have M9 := Aside0.mk (M8.out.bel.trans (hB.mono (M8.out.size HN.out)))
  clear hA hB hcell
  go_wp2_with fail
  refine (atK_no ⟨_, _, H9.out⟩ 0 (by omega) (by omega) (by simp) rfl).mono ?_
  rintro e w10 ⟨rfl, rfl⟩
  go_wp2_with fail
  refine (atK_no ⟨_, _, H9.out⟩ 4 (by omega) (by omega) (by simp) rfl).mono ?_
  rintro e w10 ⟨rfl, rfl⟩
  go_wp2_with fail
  refine (slotsK ⟨_, _, H9.out⟩).mono ?_
  rintro e w10 ⟨rfl, rfl⟩
  go_wp2
  go_ret
  exact ⟨rfl, M9.out⟩
end Go.Proofs.Ytckimhfbbfpddaa
