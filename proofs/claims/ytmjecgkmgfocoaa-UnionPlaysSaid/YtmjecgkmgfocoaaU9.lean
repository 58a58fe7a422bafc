/- The union in a call's own memory: awake; UnionNobody's walk. Conditions: any numbers. -/
import Derived.Test.YtmjecgkmgfocoaaU8
namespace Go.Proofs.Ytmjecgkmgfocoaa
open Go.RowKit Go.Proofs.YtmjecgkmgfocoaaW.PrintWords Lb

/-- A union of the call's own. -/
structure Us (w0 w : World) (b g1 g2 g3 : Nat) (L : List Nat) : Prop where
  uo : Uo w b g1 g2 g3 L
  ge : ∀ k, UF b g1 g2 g3 k → w0.heap.size ≤ k
  bl : Below w0.heap.size w0 w
section
variable {w0 w w1 : World} {b g1 g2 g3 : Nat} {L M : List Nat}
theorem Us.step (h : Us w0 w b g1 g2 g3 L) (h1 : Uo w1 b g1 g2 g3 M) (hc : Chg (UF b g1 g2 g3) w w1) : Us w0 w1 b g1 g2 g3 M :=
  ⟨h1, h.ge, h.bl.trans (hc.below h.bl.size h.ge)⟩
theorem join_U (h : Us w0 w b g1 g2 g3 L) (x y : Int) : Calls Try.prog 13 #[.pointer (some ⟨b, 0, none⟩), .int .i64 x, .int .i64 y] w fun e w' => e = .returned (.bool (canP L x y)) ∧ Us w0 w' b g1 g2 g3 (joinP L x y) :=
  (join_ok h.uo x y).mono (by rintro e w' ⟨rfl, h1, h2⟩; exact ⟨rfl, h.step h1 h2⟩)
theorem name_U (h : Us w0 w b g1 g2 g3 L) (x : Int) : Calls Try.prog 12 #[.pointer (some ⟨b, 0, none⟩), .int .i64 x] w fun e w' => e = .returned (.int .i64 (nameP L x)) ∧ Us w0 w' b g1 g2 g3 L :=
  (name_ok h.uo x).mono (by rintro e w' ⟨rfl, h1, h2⟩; exact ⟨rfl, h.step h1 h2⟩)
theorem size_U (h : Us w0 w b g1 g2 g3 L) (x : Int) : Calls Try.prog 15 #[.pointer (some ⟨b, 0, none⟩), .int .i64 x] w fun e w' => e = .returned (.int .i64 (sizeP L x)) ∧ Us w0 w' b g1 g2 g3 L :=
  (size_ok h.uo x).mono (by rintro e w' ⟨rfl, h1, h2⟩; exact ⟨rfl, h.step h1 h2⟩)
theorem same_U (h : Us w0 w b g1 g2 g3 L) (x y : Int) : Calls Try.prog 14 #[.pointer (some ⟨b, 0, none⟩), .int .i64 x, .int .i64 y] w fun e w' => e = .returned (.bool (sameP L x y)) ∧ Us w0 w' b g1 g2 g3 L :=
  (same_ok h.uo x y).mono (by rintro e w' ⟨rfl, h1, h2⟩; exact ⟨rfl, h.step h1 h2⟩)
theorem sets_U (h : Us w0 w b g1 g2 g3 L) : Calls Try.prog 11 #[.pointer (some ⟨b, 0, none⟩)] w fun e w' => e = .returned (.int .i64 (setsOf L : Nat)) ∧ w = w' := sets_ok h.uo
theorem len_U (h : Us w0 w b g1 g2 g3 L) : Calls Try.prog 21 #[.pointer (some ⟨b, 0, none⟩)] w fun e w' => e = .returned (.int .i64 (L.length : Nat)) ∧ w = w' := len_ok h.uo

theorem joined_1 : canP (alone 5) 3 4 = true ∧ joinP (alone 5) 3 4 = [0, 1, 2, 3, 3] := by decide
theorem joined_2 : canP [0, 1, 2, 3, 3] 4 1 = true ∧ joinP [0, 1, 2, 3, 3] 4 1 = [0, 1, 2, 1, 1] := by decide
theorem joined_3 : canP [0, 1, 2, 1, 1] 3 1 = false ∧ joinP [0, 1, 2, 1, 1] 3 1 = [0, 1, 2, 1, 1] := by decide
theorem joined_4 : nameP [0, 1, 2, 1, 1] 4 = 1 ∧ sizeP [0, 1, 2, 1, 1] 3 = 3 ∧ setsOf [0, 1, 2, 1, 1] = 3 ∧ sameP [0, 1, 2, 1, 1] 1 3 = true ∧ sameP [0, 1, 2, 1, 1] 0 1 = false := by decide
set_option maxRecDepth 100000 in
set_option maxHeartbeats 4000000 in
theorem awake_yes (w : World) : Calls Try.prog 10 #[] w fun e w' => e = .returned (.bool true) ∧ Below w.heap.size w w' := by
  go_enter Try.func10, Try.ntmps10
  go_wp2_with fail
  refine (new_ok w 5 (by omega)).mono ?_
  rintro e w1 ⟨b, rfl, g1, g2, g3, h1, h2, h3⟩
  have H1 : Aside0 (Us w w1 b g1 g2 g3 (alone 5)) := ⟨⟨h1, h2, h3⟩⟩
  clear h1 h2 h3
  go_wp2_with fail
  refine (join_U H1.out 3 4).mono ?_
  rw [joined_1.1, joined_1.2]
  rintro e w2 ⟨rfl, h⟩
  have H2 := Aside0.mk h
  clear h
  go_wp2_with fail
  refine (join_U H2.out 4 1).mono ?_
  rw [joined_2.1, joined_2.2]
  rintro e w3 ⟨rfl, h⟩
  have H3 := Aside0.mk h
  clear h
  go_wp2_with fail
  refine (join_U H3.out 3 1).mono ?_
  rw [joined_3.1, joined_3.2]
  rintro e w4 ⟨rfl, h⟩
  have H4 := Aside0.mk h
  clear h
  go_wp2_with fail
  refine (name_U H4.out 4).mono ?_
  rw [joined_4.1]
  rintro e w5 ⟨rfl, h⟩
  have H5 := Aside0.mk h
  clear h
  go_wp2_with fail
  refine (size_U H5.out 3).mono ?_
  rw [joined_4.2.1]
  rintro e w6 ⟨rfl, h⟩
  have H6 := Aside0.mk h
  clear h
  go_wp2_with fail
  refine (sets_U H6.out).mono ?_
  rw [joined_4.2.2.1]
  rintro e w6 ⟨rfl, rfl⟩
  go_wp2_with fail
  refine (same_U H6.out 1 3).mono ?_
  rw [joined_4.2.2.2.1]
  rintro e w7 ⟨rfl, h⟩
  have H7 := Aside0.mk h
  clear h
  go_wp2_with fail
  refine (same_U H7.out 0 1).mono ?_
  rw [joined_4.2.2.2.2]
  rintro e w8 ⟨rfl, h⟩
  have H8 := Aside0.mk h
  clear h
  go_wp2_with fail
  refine (len_U H8.out).mono ?_
  rintro e w8 ⟨rfl, rfl⟩
  go_wp2
  go_ret
  exact ⟨rfl, H8.out.bl⟩
end
end Go.Proofs.Ytmjecgkmgfocoaa
