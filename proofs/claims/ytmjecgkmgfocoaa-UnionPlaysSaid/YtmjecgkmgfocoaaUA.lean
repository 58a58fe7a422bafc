/- UnionNobody's and UnionKnown's walks. Conditions: any numbers. -/
import Derived.Test.YtmjecgkmgfocoaaU9
namespace Go.Proofs.Ytmjecgkmgfocoaa
open Go.RowKit Go.Proofs.YtmjecgkmgfocoaaW.PrintWords Lb

theorem none_in (x : Int) : ¬ (0 ≤ x ∧ x < ((([] : List Nat).length : Nat) : Int)) := by simp
theorem bare_new (w0 w : World) (h : Below w0.heap.size w0 w) : Us w0 (w.alloc (.cells #[.slice none 0 0, .slice none 0 0, .slice none 0 0, .int .i64 0] 38)) w.heap.size w.heap.size w.heap.size w.heap.size [] := by
  have hl : w.heap.size < (w.alloc (.cells #[.slice none 0 0, .slice none 0 0, .slice none 0 0, .int .i64 0] 38)).heap.size := by simp
  refine ⟨⟨0, none, none, none, 0, 0, 0, [], [], [], 0, rfl, by omega, ⟨hl, hl, hl, hl, fun e => by omega, blk_new _ _, Kd.R_nil _ _ _ _ _, Kd.R_nil _ _ _ _ _, Kd.R_nil _ _ _ _ _⟩, alone_inv 0⟩, ?_, h.alloc h.size _⟩
  have := h.size
  rintro k (rfl | rfl | rfl | rfl) <;> exact this
set_option maxRecDepth 100000 in
set_option maxHeartbeats 4000000 in
theorem nobody_walk (w : World) (x y : Int) : Calls Try.prog 5 #[.int .i64 x, .int .i64 y] w fun e w' => e = .returned (.bool true) ∧ Below w.heap.size w w' := by
  have HC := Aside0.mk (sameP_no1 (L := []) (a := x) (c := y) (none_in x))
  have HJ := Aside0.mk (joinP_no HC.out.2)
  have HN := Aside0.mk (nameP_out (none_in x))
  have HS := Aside0.mk (sizeP_out (none_in x))
  go_enter Try.func5, Try.ntmps5
  go_wp2_with fail
  refine (awake_yes _).mono ?_
  rintro e w1 ⟨rfl, hb⟩
  have HB1 := Aside0.mk hb
  have HU1 := Aside0.mk (bare_new w w1 hb)
  clear hb
  go_wp2_with fail
  generalize w1.alloc (.cells #[.slice none 0 0, .slice none 0 0, .slice none 0 0, .int .i64 0] 38) = w2 at HU1 ⊢
  generalize w1.heap.size = b at HU1 ⊢
  refine (join_nil _ x y).mono ?_
  rintro e w3 ⟨rfl, rfl⟩
  go_wp2_with fail
  refine (same_nil _ x y).mono ?_
  rintro e w3 ⟨rfl, rfl⟩
  go_wp2_with fail
  refine (name_nil _ x).mono ?_
  rintro e w3 ⟨rfl, rfl⟩
  go_wp2_with fail
  refine (size_nil _ x).mono ?_
  rintro e w3 ⟨rfl, rfl⟩
  go_wp2_with fail
  refine (sets_nil _).mono ?_
  rintro e w3 ⟨rfl, rfl⟩
  go_wp2_with fail
  refine (len_nil _).mono ?_
  rintro e w3 ⟨rfl, rfl⟩
  go_wp2_with fail
  refine (join_U HU1.out x y).mono ?_
  rw [HC.out.2, HJ.out]
  rintro e w3 ⟨rfl, h⟩
  have H3 := Aside0.mk h
  clear h
  go_wp2_with fail
  refine (same_U H3.out x y).mono ?_
  rw [HC.out.1]
  rintro e w4 ⟨rfl, h⟩
  have H4 := Aside0.mk h
  clear h
  go_wp2_with fail
  refine (name_U H4.out x).mono ?_
  rw [HN.out]
  rintro e w5 ⟨rfl, h⟩
  have H5 := Aside0.mk h
  clear h
  go_wp2_with fail
  refine (size_U H5.out x).mono ?_
  rw [HS.out]
  rintro e w6 ⟨rfl, h⟩
  have H6 := Aside0.mk h
  clear h
  go_wp2_with fail
  refine (sets_U H6.out).mono ?_
  rw [show setsOf [] = 0 from rfl]
  rintro e w6 ⟨rfl, rfl⟩
  go_wp2_with fail
  refine (len_U H6.out).mono ?_
  rintro e w6 ⟨rfl, rfl⟩
  go_wp2
  go_ret
  exact ⟨rfl, H6.out.bl⟩

/-- Two unions of the call's own. -/
structure Du (w0 w : World) (b g1 g2 g3 : Nat) (L : List Nat) (b' g1' g2' g3' : Nat) (L' : List Nat) : Prop where
  u1 : Us w0 w b g1 g2 g3 L
  u2 : Us w0 w b' g1' g2' g3' L'
  dj : ∀ k, UF b g1 g2 g3 k → ¬ UF b' g1' g2' g3' k
section
variable {w0 w w1 : World} {b g1 g2 g3 b' g1' g2' g3' : Nat} {L M L' M' : List Nat}
theorem Du.step1 (h : Du w0 w b g1 g2 g3 L b' g1' g2' g3' L') (h1 : Uo w1 b g1 g2 g3 M) (hc : Chg (UF b g1 g2 g3) w w1) : Du w0 w1 b g1 g2 g3 M b' g1' g2' g3' L' :=
  ⟨h.u1.step h1 hc, ⟨h.u2.uo.keep hc (fun k h2 h3 => h.dj k h3 h2), h.u2.ge, (h.u1.step h1 hc).bl⟩, h.dj⟩
theorem Du.step2 (h : Du w0 w b g1 g2 g3 L b' g1' g2' g3' L') (h1 : Uo w1 b' g1' g2' g3' M') (hc : Chg (UF b' g1' g2' g3') w w1) : Du w0 w1 b g1 g2 g3 L b' g1' g2' g3' M' :=
  ⟨⟨h.u1.uo.keep hc h.dj, h.u1.ge, (h.u2.step h1 hc).bl⟩, h.u2.step h1 hc, h.dj⟩
theorem Du.below (h : Du w0 w b g1 g2 g3 L b' g1' g2' g3' L') (hb : Below w.heap.size w w1) : Du w0 w1 b g1 g2 g3 L b' g1' g2' g3' L' := by
  have hB : Below w0.heap.size w0 w1 := h.u1.bl.trans ((Chg.of_below (F := Non) hb).below h.u1.bl.size (fun _ e => e.elim))
  exact ⟨⟨h.u1.uo.below hb, h.u1.ge, hB⟩, ⟨h.u2.uo.below hb, h.u2.ge, hB⟩, h.dj⟩
theorem Du.make (h : Us w0 w b g1 g2 g3 L) (h1 : Uo w1 b' g1' g2' g3' L') (hg : ∀ k, UF b' g1' g2' g3' k → w.heap.size ≤ k) (hb : Below w.heap.size w w1) : Du w0 w1 b g1 g2 g3 L b' g1' g2' g3' L' := by
  have hB : Below w0.heap.size w0 w1 := h.bl.trans ((Chg.of_below (F := Non) hb).below h.bl.size (fun _ e => e.elim))
  exact ⟨⟨h.uo.below hb, h.ge, hB⟩, ⟨h1, fun k hk => Nat.le_trans h.bl.size (hg k hk), hB⟩, fun k h1 h2 => by have := h.uo.lt k h1; have := hg k h2; omega⟩
theorem join_1 (h : Du w0 w b g1 g2 g3 L b' g1' g2' g3' L') (x y : Int) : Calls Try.prog 13 #[.pointer (some ⟨b, 0, none⟩), .int .i64 x, .int .i64 y] w fun e w' => e = .returned (.bool (canP L x y)) ∧ Du w0 w' b g1 g2 g3 (joinP L x y) b' g1' g2' g3' L' :=
  (join_ok h.u1.uo x y).mono (by rintro e w' ⟨rfl, h1, h2⟩; exact ⟨rfl, h.step1 h1 h2⟩)
theorem join_2 (h : Du w0 w b g1 g2 g3 L b' g1' g2' g3' L') (x y : Int) : Calls Try.prog 13 #[.pointer (some ⟨b', 0, none⟩), .int .i64 x, .int .i64 y] w fun e w' => e = .returned (.bool (canP L' x y)) ∧ Du w0 w' b g1 g2 g3 L b' g1' g2' g3' (joinP L' x y) :=
  (join_ok h.u2.uo x y).mono (by rintro e w' ⟨rfl, h1, h2⟩; exact ⟨rfl, h.step2 h1 h2⟩)
theorem name_1 (h : Du w0 w b g1 g2 g3 L b' g1' g2' g3' L') (x : Int) : Calls Try.prog 12 #[.pointer (some ⟨b, 0, none⟩), .int .i64 x] w fun e w' => e = .returned (.int .i64 (nameP L x)) ∧ Du w0 w' b g1 g2 g3 L b' g1' g2' g3' L' :=
  (name_ok h.u1.uo x).mono (by rintro e w' ⟨rfl, h1, h2⟩; exact ⟨rfl, h.step1 h1 h2⟩)
theorem name_2 (h : Du w0 w b g1 g2 g3 L b' g1' g2' g3' L') (x : Int) : Calls Try.prog 12 #[.pointer (some ⟨b', 0, none⟩), .int .i64 x] w fun e w' => e = .returned (.int .i64 (nameP L' x)) ∧ Du w0 w' b g1 g2 g3 L b' g1' g2' g3' L' :=
  (name_ok h.u2.uo x).mono (by rintro e w' ⟨rfl, h1, h2⟩; exact ⟨rfl, h.step2 h1 h2⟩)
theorem size_1 (h : Du w0 w b g1 g2 g3 L b' g1' g2' g3' L') (x : Int) : Calls Try.prog 15 #[.pointer (some ⟨b, 0, none⟩), .int .i64 x] w fun e w' => e = .returned (.int .i64 (sizeP L x)) ∧ Du w0 w' b g1 g2 g3 L b' g1' g2' g3' L' :=
  (size_ok h.u1.uo x).mono (by rintro e w' ⟨rfl, h1, h2⟩; exact ⟨rfl, h.step1 h1 h2⟩)
theorem size_2 (h : Du w0 w b g1 g2 g3 L b' g1' g2' g3' L') (x : Int) : Calls Try.prog 15 #[.pointer (some ⟨b', 0, none⟩), .int .i64 x] w fun e w' => e = .returned (.int .i64 (sizeP L' x)) ∧ Du w0 w' b g1 g2 g3 L b' g1' g2' g3' L' :=
  (size_ok h.u2.uo x).mono (by rintro e w' ⟨rfl, h1, h2⟩; exact ⟨rfl, h.step2 h1 h2⟩)
theorem same_2 (h : Du w0 w b g1 g2 g3 L b' g1' g2' g3' L') (x y : Int) : Calls Try.prog 14 #[.pointer (some ⟨b', 0, none⟩), .int .i64 x, .int .i64 y] w fun e w' => e = .returned (.bool (sameP L' x y)) ∧ Du w0 w' b g1 g2 g3 L b' g1' g2' g3' L' :=
  (same_ok h.u2.uo x y).mono (by rintro e w' ⟨rfl, h1, h2⟩; exact ⟨rfl, h.step2 h1 h2⟩)
theorem sets_1 (h : Du w0 w b g1 g2 g3 L b' g1' g2' g3' L') : Calls Try.prog 11 #[.pointer (some ⟨b, 0, none⟩)] w fun e w' => e = .returned (.int .i64 (setsOf L : Nat)) ∧ w = w' := sets_ok h.u1.uo
theorem sets_2 (h : Du w0 w b g1 g2 g3 L b' g1' g2' g3' L') : Calls Try.prog 11 #[.pointer (some ⟨b', 0, none⟩)] w fun e w' => e = .returned (.int .i64 (setsOf L' : Nat)) ∧ w = w' := sets_ok h.u2.uo
end
theorem known_u : setsOf (alone 0) = 0 ∧ nameP (alone 0) 0 = -1 := by decide
theorem known_v : nameP (alone 1) 0 = 0 ∧ canP (alone 1) 0 0 = false ∧ joinP (alone 1) 0 0 = alone 1 ∧ sameP (alone 1) 0 0 = true ∧ sameP (alone 1) 0 1 = false ∧ sizeP (alone 1) 1 = 0 := by decide
set_option maxRecDepth 100000 in
set_option maxHeartbeats 4000000 in
theorem known_walk (w : World) : Calls Try.prog 3 #[] w fun e w' => e = .returned (.bool true) ∧ Below w.heap.size w w' := by
  go_enter Try.func3, Try.ntmps3
  go_wp2_with fail
  refine (new_no w (-1) (by omega)).mono ?_
  rintro e w1 ⟨rfl, hb⟩
  have HB1 := Aside0.mk hb
  clear hb
  go_wp2_with fail
  refine (new_no w1 4194305 (by omega)).mono ?_
  rintro e w2 ⟨rfl, hb⟩
  have HB2 : Aside0 (Below w.heap.size w w2) := ⟨HB1.out.trans ((Chg.of_below (F := Non) hb).below HB1.out.size (fun _ e => e.elim))⟩
  clear hb
  go_wp2_with fail
  refine (new_ok w2 0 (by omega)).mono ?_
  rintro e w3 ⟨b, rfl, g1, g2, g3, h1, h2, h3⟩
  have H3 : Aside0 (Us w w3 b g1 g2 g3 (alone 0)) := ⟨⟨h1, fun k hk => Nat.le_trans HB2.out.size (h2 k hk), HB2.out.trans ((Chg.of_below (F := Non) h3).below HB2.out.size (fun _ e => e.elim))⟩⟩
  clear h1 h2 h3
  go_wp2_with fail
  refine (new_ok w3 1 (by omega)).mono ?_
  rintro e w4 ⟨b', rfl, g1', g2', g3', h1, h2, h3⟩
  have H4 := Aside0.mk (Du.make H3.out h1 h2 h3)
  clear h1 h2 h3
  go_wp2_with fail
  refine (awake_yes _).mono ?_
  rintro e w5 ⟨rfl, hb⟩
  have H5 := Aside0.mk (H4.out.below hb)
  clear hb
  go_wp2_with fail
  refine (sets_1 H5.out).mono ?_
  rw [known_u.1]
  rintro e w6 ⟨rfl, rfl⟩
  go_wp2_with fail
  refine (name_1 H5.out 0).mono ?_
  rw [known_u.2]
  rintro e w6 ⟨rfl, h⟩
  have H6 := Aside0.mk h
  clear h
  go_wp2_with fail
  refine (name_2 H6.out 0).mono ?_
  rw [known_v.1]
  rintro e w7 ⟨rfl, h⟩
  have H7 := Aside0.mk h
  clear h
  go_wp2_with fail
  refine (join_2 H7.out 0 0).mono ?_
  rw [known_v.2.1, known_v.2.2.1]
  rintro e w8 ⟨rfl, h⟩
  have H8 := Aside0.mk h
  clear h
  go_wp2_with fail
  refine (same_2 H8.out 0 0).mono ?_
  rw [known_v.2.2.2.1]
  rintro e w9 ⟨rfl, h⟩
  have H9 := Aside0.mk h
  clear h
  go_wp2_with fail
  refine (same_2 H9.out 0 1).mono ?_
  rw [known_v.2.2.2.2.1]
  rintro e wA ⟨rfl, h⟩
  have HA := Aside0.mk h
  clear h
  go_wp2_with fail
  refine (size_2 HA.out 1).mono ?_
  rw [known_v.2.2.2.2.2]
  rintro e wB ⟨rfl, h⟩
  have HB := Aside0.mk h
  clear h
  go_wp2
  go_ret
  exact ⟨rfl, HB.out.u1.bl⟩
end Go.Proofs.Ytmjecgkmgfocoaa
