/- DrawsNobody's walk. Conditions: a number of 16 bits. -/
import Derived.Test.YtoofnjoipgkfbaaD3
namespace Go.Proofs.Ytoofnjoipgkfbaa
open Go.RowKit Go.Proofs.YtoofnjoipgkfbaaW.PrintWords Lb

set_option maxHeartbeats 1000000 in
set_option maxRecDepth 100000 in
theorem nobody_walk (w : World) (n : Int) (hn : 0 ≤ n) (hn1 : n ≤ 65535) : Calls Try.prog 5 #[.int .u16 n] w fun e w' => e = .returned (.bool true) ∧ Below w.heap.size w w' := by
  have HU := Aside0.mk (show U32s [] by intro x hx; simp at hx)
  have hm0 : 0 ≤ n % 300 := by omega
  have hm1 : n % 300 < 300 := by omega
  go_enter Try.func5, Try.ntmps5
  go_wp2_with fail
  refine (awake_yes _).mono ?_
  rintro e w1 ⟨rfl, hB⟩
  have HB := Aside0.mk (below_alloc hB (Obj.cells #[.slice none 0 0, .int .i64 0] 35))
  have HS := Aside0.mk hB.size
  have HD := Aside0.mk (show DrawsAt (w1.alloc (Obj.cells #[.slice none 0 0, .int .i64 0] 35)) (fun k => k = w1.heap.size) w1.heap.size [] 0 from
    ⟨fun k hk => by subst hk; simp, rfl, _, blk_new _ _, Kd.R_nil _ _ _ _ _⟩)
  clear hB
  go_wp2
  go_loopg [5] (n % 300).toNat (fun gk v5 wr => ∃ i : Nat, v5 = .int .i64 (i : Int) ∧ Aside0 ((i : Int) + gk = n % 300) ∧ Aside0 (DrawsAt wr (fun k => k = w1.heap.size) w1.heap.size [] (i : Int)) ∧ Aside0 (Below w.heap.size w wr))
  case atStart => exact ⟨0, rfl, ⟨by omega⟩, HD, HB⟩
  case round =>
    obtain ⟨i, rfl, HI, HDr, HBr⟩ := hrel
    have hI := HI.out
    cases gk with
    | succ k1 =>
      have hlt : (i : Int) < n % 300 := by omega
      have hb : (i : Int) < 300 := by omega
      clear hI
      go_wp2_with fail
      refine (next_nil _).mono ?_
      rintro e w4 ⟨rfl, rfl⟩
      go_wp2_with fail
      refine (next_at HDr.out (by omega) (by omega) HU.out (by simp)).mono ?_
      rintro e w4 ⟨rfl, hD, hC⟩
      have HD4 := Aside0.mk hD
      have HB4 := Aside0.mk (HBr.out.trans (hC.below (B := w.heap.size) HBr.out.size (fun k hk => by subst hk; exact HS.out)))
      clear hD hC
      go_wp2_with fail
      refine (draw_any _ none 0 [] _ (Kd.C_nil _ _) (by omega) (by omega) HU.out (by simp)).mono ?_
      rintro e w5 ⟨rfl, rfl⟩
      go_wp2
      go_roundg k1
      case measure => omega
      case rel => exact ⟨i + 1, by go_num, ⟨by have := HI.out; omega⟩, HD4, HB4⟩
    | zero =>
      have hge : ¬ (i : Int) < n % 300 := by omega
      clear hI
      go_wp2_with fail
      refine (len_nil _).mono ?_
      rintro e w4 ⟨rfl, rfl⟩
      go_wp2_with fail
      refine (len_obj HDr.out).mono ?_
      rintro e w4 ⟨rfl, rfl⟩
      go_wp2
      go_ret
      refine ⟨ret_bool ?_, HBr.out⟩
      have := HI.out
      simp
      omega
end Go.Proofs.Ytoofnjoipgkfbaa
