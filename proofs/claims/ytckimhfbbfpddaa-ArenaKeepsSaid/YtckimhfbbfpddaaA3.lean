/- awake's walk. Conditions: none. -/
import Derived.Test.YtckimhfbbfpddaaA1
namespace Go.Proofs.Ytckimhfbbfpddaa
open Go.RowKit Go.Proofs.YtckimhfbbfpddaaW.PrintWords Lb

/-- An arena whose blocks all lie from B on, and what lies below B as in w0. -/
structure Mine (B : Nat) (w0 w : World) (F : Nat → Prop) : Prop where
  ge : ∀ k, F k → B ≤ k
  bel : Below B w0 w
theorem Mine.step {B : Nat} {w0 w w' : World} {F F' : Nat → Prop} (h : Mine B w0 w F) (hB : B ≤ w.heap.size) (hc : Chg F w w') (hF : ∀ k, F' k → F k ∨ w.heap.size ≤ k) : Mine B w0 w' F' :=
  ⟨fun k hk => by rcases hF k hk with e | e; exact h.ge k e; omega, h.bel.trans (hc.below hB h.ge)⟩
theorem Mine.alloc (w : World) (o : Obj) : Mine w.heap.size w (w.alloc o) (fun k => k = w.heap.size) :=
  ⟨fun k hk => by omega, below_alloc (Below.refl _ _) o⟩
theorem Mine.size {B : Nat} {w0 w : World} {F : Nat → Prop} (h : Mine B w0 w F) (h0 : B ≤ w0.heap.size) : B ≤ w.heap.size := Nat.le_trans h0 h.bel.size

set_option maxHeartbeats 1000000 in
set_option maxRecDepth 100000 in
theorem awake_yes (w : World) : Calls Try.prog 12 #[] w fun e w' => e = .returned (.bool true) ∧ Below w.heap.size w w' := by
  have HN := Aside0.mk (Nat.le_refl w.heap.size)
  go_enter Try.func12, Try.ntmps12
  go_wp2_with fail
  refine (newS w).mono ?_
  rintro e w1 ⟨rfl, rfl⟩
  have H1 := Aside0.mk (newS_at w)
  have M1 := Aside0.mk (Mine.alloc w (.cells #[.slice none 0 0, .int .i32 0, .int .i64 0] 69))
  go_wp2_with fail
  refine (takeS_new H1.out ⟨#[97]⟩ rfl (by simp) (by simp) (by simp)).mono ?_
  rintro e w2 ⟨rfl, F2, hA, hF, hC⟩
  have H2 := Aside0.mk hA
  have M2 := Aside0.mk (M1.out.step (M1.out.size HN.out) hC hF)
  clear hA hF hC
  go_wp2_with fail
  refine (takeS_new H2.out ⟨#[98]⟩ rfl (by simp) (by simp) (by simp)).mono ?_
  rintro e w3 ⟨rfl, F3, hA, hF, hC⟩
  have H3 := Aside0.mk hA
  have M3 := Aside0.mk (M2.out.step (M2.out.size HN.out) hC hF)
  clear hA hF hC
  go_wp2_with fail
  refine (freeS_yes H3.out 0 ⟨⟨#[97]⟩, true, 0⟩ rfl rfl (by simp) (by simp) (by simp)).mono ?_
  rintro e w4 ⟨rfl, hA, hC⟩
  have H4 := Aside0.mk hA
  have M4 := Aside0.mk (M3.out.step (M3.out.size HN.out) hC (fun k hk => .inl hk))
  clear hA hC
  go_wp2_with fail
  refine (takeS_old H4.out 0 ⟨ByteArray.empty, false, 0⟩ ⟨#[99]⟩ rfl rfl (by simp) (by simp) (by simp)).mono ?_
  rintro e w5 ⟨rfl, hA, hC⟩
  have M5 := Aside0.mk (M4.out.step (M4.out.size HN.out) hC (fun k hk => .inl hk))
  obtain ⟨A, c, hA⟩ := hA
  obtain ⟨g, rfl, _, _, hcell, _⟩ := F_elem hA.row 0 ⟨⟨#[99]⟩, true, 0⟩ rfl
  have hx0 : w5.cell? ⟨g, 0, none⟩ = some (.string ⟨#[99]⟩) := hcell 0 _ rfl
  have H5 := Aside0.mk hA
  clear hA hC hcell
  go_wp2_with fail
  refine (atS_yes H5.out rfl 0 ⟨⟨#[99]⟩, true, 0⟩ rfl rfl (by simp)).mono ?_
  rintro e w6 ⟨rfl, rfl⟩
  go_wp2_with fail
  refine (lenS ⟨_, _, H5.out⟩).mono ?_
  rintro e w6 ⟨rfl, rfl⟩
  go_wp2_with fail
  refine (slotsS ⟨_, _, H5.out⟩).mono ?_
  rintro e w6 ⟨rfl, rfl⟩
  go_wp2
  go_ret
  exact ⟨rfl, M5.out.bel⟩
end Go.Proofs.Ytckimhfbbfpddaa
