/- The statements' own wake of the reports. Conditions: none. -/
import Derived.Test.YtmndgaibdcllgaaProg
import Derived.Test.YtmndgaibdcllgaaF1
import Derived.Test.YtmndgaibdcllgaaF3
namespace Go.Proofs.Ytmndgaibdcllgaa
open Go.RowKit Go.Proofs.YtmndgaibdcllgaaW.PrintWords Lb

def sa : ByteArray := ⟨#[97]⟩
def sb : ByteArray := ⟨#[98]⟩
def sc : ByteArray := ⟨#[99]⟩
def sd : ByteArray := ⟨#[100]⟩

theorem lit_str (w : World) (N : Nat) (l : List ByteArray) (hl : l.length ≤ 1000000) (hN : w.heap.size = N) : Kd.string.C (w.alloc (.cells (l.map Value.string).toArray 9)) (some ⟨N, 0, none⟩) l.length l := C_lit 9 w N l hl hN

theorem lit_rows (w : World) : (Kd.slice 9 Kd.string).C (((w.alloc (.cells #[.string ⟨#[97]⟩, .string ⟨#[98]⟩] 9)).alloc (.cells #[.string ⟨#[99]⟩, .string ⟨#[100]⟩] 9)).alloc (.cells #[.slice (some ⟨w.heap.size, 0, none⟩) 2 2, .slice none 0 0, .slice (some ⟨w.heap.size + 1, 0, none⟩) 2 2] 30))
    (some ⟨w.heap.size + 2, 0, none⟩) 3 [[sa, sb], [], [sc, sd]] := by
  have h1 := Kd.C_alloc (Kd.C_alloc (lit_str w _ [sa, sb] (by simp) rfl) (.cells #[.string ⟨#[99]⟩, .string ⟨#[100]⟩] 9)) (.cells #[.slice (some ⟨w.heap.size, 0, none⟩) 2 2, .slice none 0 0, .slice (some ⟨w.heap.size + 1, 0, none⟩) 2 2] 30)
  have h2 := Kd.C_alloc (lit_str (w.alloc (.cells #[.string ⟨#[97]⟩, .string ⟨#[98]⟩] 9)) (w.heap.size + 1) [sc, sd] (by simp) (by simp)) (.cells #[.slice (some ⟨w.heap.size, 0, none⟩) 2 2, .slice none 0 0, .slice (some ⟨w.heap.size + 1, 0, none⟩) 2 2] 30)
  refine C_new (Kd.slice 9 Kd.string) 30 _ (w.heap.size + 2) [[sa, sb], [], [sc, sd]] [.slice (some ⟨w.heap.size, 0, none⟩) 2 2, .slice none 0 0, .slice (some ⟨w.heap.size + 1, 0, none⟩) 2 2] (by simp) (by simp) ?_
  refine ((((Reps.none _ 1).snoc (p := [sa, sb]) (c := [.slice (some ⟨w.heap.size, 0, none⟩) 2 2]) ⟨_, _, rfl, Nat.le_refl _, h1⟩ rfl).snoc (p := []) (c := [.slice none 0 0]) ⟨_, _, rfl, Nat.le_refl _, Kd.C_nil _ _⟩ rfl).snoc (p := [sc, sd]) (c := [.slice (some ⟨w.heap.size + 1, 0, none⟩) 2 2]) ⟨_, _, rfl, Nat.le_refl _, h2⟩ rfl)

set_option maxHeartbeats 1000000 in
theorem awake_yes (w : World) : Calls Try.prog 9 #[] w fun e w' => e = .returned (.bool true) ∧ Below w.heap.size w w' := by
  have HC := Aside0.mk (lit_str w _ [sa, sb, sc] (by simp) rfl)
  go_enter Try.func9, Try.ntmps9
  go_wp2_with fail
  refine (first_str _ _ 3 [sa, sb, sc] 3 rfl 2 HC.out (by simp) (by simp) (by omega) (by omega)).mono ?_
  rintro e w1 ⟨v, rfl, hR, hB⟩
  obtain ⟨A1, n1, c1, hv, HN1, _, HC1, HR1⟩ := R_outN hR
  have HB1 := Aside0.mk ((below_alloc (Below.refl w.heap.size w) (Obj.cells #[.string ⟨#[97]⟩, .string ⟨#[98]⟩, .string ⟨#[99]⟩] 9)).trans (hB.mono (by simp)))
  have HN := HN1.out
  obtain rfl : n1 = 2 := HN
  subst hv
  have HL := Aside0.mk (lit_rows w1)
  clear hR hB HN1
  go_wp2_with fail
  refine (join_str _ _ 3 [[sa, sb], [], [sc, sd]] 3 rfl 3 HL.out (by simp) (by simp) (by omega) (by omega)).mono ?_
  rintro e w2 ⟨v, rfl, hR, hB⟩
  obtain ⟨A2, n2, c2, hv, HN2, _, HC2, HR2⟩ := R_outN hR
  have hB12 := ((((Chg.refl Non w1).alloc (Obj.cells #[.string ⟨#[97]⟩, .string ⟨#[98]⟩] 9)).alloc (Obj.cells #[.string ⟨#[99]⟩, .string ⟨#[100]⟩] 9)).alloc (Obj.cells #[.slice (some ⟨w1.heap.size, 0, none⟩) 2 2, .slice none 0 0, .slice (some ⟨w1.heap.size + 1, 0, none⟩) 2 2] 30)).trans (Chg.of_below (F := Non) hB) (fun _ h => h.elim)
  have HB2 := Aside0.mk (HB1.out.trans (hB12.non.mono HB1.out.size))
  have HC12 := Aside0.mk (Kd.C_below HC1.out hB12.non)
  have HN := HN2.out
  obtain rfl : n2 = 3 := HN
  subst hv
  have HL2 := Aside0.mk (lit_str w2 _ [sa, sb] (by simp) rfl)
  clear hR hB HN2 hB12
  go_wp2_with fail
  refine (same_any _ A1 _ c1 2 [sa, sb] [sa, sb] 2 2 rfl rfl (by omega) (by omega) (Kd.C_alloc HC12.out _) HL2.out).mono ?_
  rintro e w3 ⟨hr, hB⟩
  obtain rfl : e = .returned (.bool true) := by rw [hr, decide_eq_true rfl]
  have hB23 := (below_alloc (Below.refl w2.heap.size w2) (Obj.cells #[.string ⟨#[97]⟩, .string ⟨#[98]⟩] 9)).trans (hB.mono (by simp))
  have HB3 := Aside0.mk (HB2.out.trans (hB23.mono HB2.out.size))
  have HC23 := Aside0.mk (Kd.C_below HC2.out hB23)
  have HL3 := Aside0.mk (lit_str w3 _ [sa, sb, sc] (by simp) rfl)
  clear hr hB hB23
  go_wp2_with fail
  refine (same_any _ A2 _ c2 3 [sa, sb, sc] [sa, sb, sc] 3 3 rfl rfl (by omega) (by omega) (Kd.C_alloc HC23.out _) HL3.out).mono ?_
  rintro e w4 ⟨hr, hB⟩
  obtain rfl : e = .returned (.bool true) := by rw [hr, decide_eq_true rfl]
  have HB4 := Aside0.mk ((below_alloc HB3.out (Obj.cells #[.string ⟨#[97]⟩, .string ⟨#[98]⟩, .string ⟨#[99]⟩] 9)).trans (hB.mono (by have := HB3.out.size; simp; omega)))
  clear hr hB
  go_wp2
  go_ret
  exact ⟨rfl, HB4.out⟩
end Go.Proofs.Ytmndgaibdcllgaa
