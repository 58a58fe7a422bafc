/- ReportKnown's walk. Conditions: none. -/
import Derived.Test.YtmndgaibdcllgaaF2
import Derived.Test.YtmndgaibdcllgaaF5
namespace Go.Proofs.Ytmndgaibdcllgaa
open Go.RowKit Go.Proofs.YtmndgaibdcllgaaW.PrintWords Lb

theorem first_lit (w : World) (A : Option Addr) (c : Nat) (l : List Int) (L : Nat) (hL : l.length = L) (lim : Int) (hC : (Kd.int .i64).C w A l.length l) (hc : l.length ≤ c) (ho : l.length ≤ 1000000) (hl0 : -9223372036854775808 ≤ lim) (hl1 : lim ≤ 9223372036854775807)
    (n : Nat) (b : Bool) (hn : (firstP l lim).1.length = n) (hb : (firstP l lim).2 = b) :
    Calls Try.prog 7 #[.slice A L c, .int .i64 lim] w fun e w' => ∃ A1 c1, e = .returned (.tuple #[.slice A1 n c1, .bool b]) ∧ Below w.heap.size w w' := by
  refine (first_int w A c l L hL lim hC hc ho hl0 hl1).mono ?_
  rintro e w1 ⟨v, rfl, hR, hB⟩
  obtain ⟨A1, c1, hv, _, _, _⟩ := R_out hR
  subst hv
  rw [hn, hb]
  exact ⟨A1, c1, rfl, hB⟩
theorem join_lit (w : World) (A : Option Addr) (c : Nat) (l : List (List Int)) (L : Nat) (hL : l.length = L) (lim : Int) (hC : (Kd.slice 3 (Kd.int .i64)).C w A l.length l) (hp : l.length ≤ 1000000) (ho : l.flatten.length ≤ 1000000) (hl0 : -9223372036854775808 ≤ lim) (hl1 : lim ≤ 9223372036854775807)
    (n : Nat) (b : Bool) (hn : (firstP l.flatten lim).1.length = n) (hb : (firstP l.flatten lim).2 = b) :
    Calls Try.prog 8 #[.slice A L c, .int .i64 lim] w fun e w' => ∃ A1 c1, e = .returned (.tuple #[.slice A1 n c1, .bool b]) ∧ Below w.heap.size w w' := by
  refine (join_int w A c l L hL lim hC hp ho hl0 hl1).mono ?_
  rintro e w1 ⟨v, rfl, hR, hB⟩
  obtain ⟨A1, c1, hv, _, _, _⟩ := R_out hR
  subst hv
  rw [hn, hb]
  exact ⟨A1, c1, rfl, hB⟩

theorem lit_int (w : World) (N : Nat) (l : List Int) (hl : l.length ≤ 1000000) (hN : w.heap.size = N) : (Kd.int .i64).C (w.alloc (.cells (l.map (Value.int .i64)).toArray 3)) (some ⟨N, 0, none⟩) l.length l := C_lit 3 w N l hl hN

theorem lit_two (w : World) : (Kd.slice 3 (Kd.int .i64)).C (((w.alloc (.cells #[.int .i64 1] 3)).alloc (.cells #[.int .i64 2] 3)).alloc (.cells #[.slice (some ⟨w.heap.size, 0, none⟩) 1 1, .slice (some ⟨w.heap.size + 1, 0, none⟩) 1 1] 22))
    (some ⟨w.heap.size + 2, 0, none⟩) 2 [[1], [2]] := by
  have h1 := Kd.C_alloc (Kd.C_alloc (lit_int w _ [1] (by simp) rfl) (.cells #[.int .i64 2] 3)) (.cells #[.slice (some ⟨w.heap.size, 0, none⟩) 1 1, .slice (some ⟨w.heap.size + 1, 0, none⟩) 1 1] 22)
  have h2 := Kd.C_alloc (lit_int (w.alloc (.cells #[.int .i64 1] 3)) (w.heap.size + 1) [2] (by simp) (by simp)) (.cells #[.slice (some ⟨w.heap.size, 0, none⟩) 1 1, .slice (some ⟨w.heap.size + 1, 0, none⟩) 1 1] 22)
  refine C_new (Kd.slice 3 (Kd.int .i64)) 22 _ (w.heap.size + 2) [[1], [2]] [.slice (some ⟨w.heap.size, 0, none⟩) 1 1, .slice (some ⟨w.heap.size + 1, 0, none⟩) 1 1] (by simp) (by simp) ?_
  exact ((Reps.none _ 1).snoc (p := [1]) (c := [.slice (some ⟨w.heap.size, 0, none⟩) 1 1]) ⟨_, _, rfl, Nat.le_refl _, h1⟩ rfl).snoc (p := [2]) (c := [.slice (some ⟨w.heap.size + 1, 0, none⟩) 1 1]) ⟨_, _, rfl, Nat.le_refl _, h2⟩ rfl

set_option maxHeartbeats 2000000 in
set_option maxRecDepth 100000 in
theorem known_walk (w : World) : Calls Try.prog 3 #[] w fun e w' => e = .returned (.bool true) ∧ Below w.heap.size w w' := by
  have HC := Aside0.mk (lit_int w _ [1, 2, 3] (by simp) rfl)
  go_enter Try.func3, Try.ntmps3
  go_wp2_with fail
  refine (first_lit _ _ 3 [1, 2, 3] 3 rfl 3 HC.out (by simp) (by simp) (by omega) (by omega) 3 false (by decide) (by decide)).mono ?_
  rintro e w1 ⟨A1, c1, rfl, hB⟩
  have HB1 := Aside0.mk ((below_alloc (Below.refl w.heap.size w) (Obj.cells #[.int .i64 1, .int .i64 2, .int .i64 3] 3)).trans (hB.mono (by simp)))
  have HC1 := Aside0.mk (lit_int w1 _ [1, 2, 3] (by simp) rfl)
  clear hB
  go_wp2_with fail
  refine (first_lit _ _ 3 [1, 2, 3] 3 rfl 0 HC1.out (by simp) (by simp) (by omega) (by omega) 0 true (by decide) (by decide)).mono ?_
  rintro e w2 ⟨A2, c2, rfl, hB⟩
  have HB2 := Aside0.mk ((below_alloc HB1.out (Obj.cells #[.int .i64 1, .int .i64 2, .int .i64 3] 3)).trans (hB.mono (by have := HB1.out.size; simp; omega)))
  have HC2 := Aside0.mk (lit_int w2 _ [] (by simp) rfl)
  clear hB
  go_wp2_with fail
  refine (first_lit _ _ 0 [] 0 rfl 0 HC2.out (by simp) (by simp) (by omega) (by omega) 0 false (by decide) (by decide)).mono ?_
  rintro e w3 ⟨A3, c3, rfl, hB⟩
  have HB3 := Aside0.mk ((below_alloc HB2.out (Obj.cells #[] 3)).trans (hB.mono (by have := HB2.out.size; simp; omega)))
  have HC3 := Aside0.mk (lit_int w3 _ [1] (by simp) rfl)
  clear hB
  go_wp2_with fail
  refine (first_lit _ _ 1 [1] 1 rfl (-1) HC3.out (by simp) (by simp) (by omega) (by omega) 0 true (by decide) (by decide)).mono ?_
  rintro e w4 ⟨A4, c4, rfl, hB⟩
  have HB4 := Aside0.mk ((below_alloc HB3.out (Obj.cells #[.int .i64 1] 3)).trans (hB.mono (by have := HB3.out.size; simp; omega)))
  have HC4 := Aside0.mk (lit_two w4)
  clear hB
  go_wp2_with fail
  refine (join_lit _ _ 2 [[1], [2]] 2 rfl 9 HC4.out (by simp) (by simp) (by omega) (by omega) 2 false (by decide) (by decide)).mono ?_
  rintro e w5 ⟨A5, c5, rfl, hB⟩
  have HB5 := Aside0.mk ((below_alloc (below_alloc (below_alloc HB4.out (Obj.cells #[.int .i64 1] 3)) (Obj.cells #[.int .i64 2] 3)) (Obj.cells #[.slice (some ⟨w4.heap.size, 0, none⟩) 1 1, .slice (some ⟨w4.heap.size + 1, 0, none⟩) 1 1] 22)).trans (hB.mono (by have := HB4.out.size; simp; omega)))
  clear hB
  go_wp2_with fail
  refine (awake_yes _).mono ?_
  rintro e w6 ⟨rfl, hB⟩
  have HB6 := Aside0.mk (HB5.out.trans (hB.mono HB5.out.size))
  clear hB
  go_wp2
  go_ret
  exact ⟨rfl, HB6.out⟩
end Go.Proofs.Ytmndgaibdcllgaa
