/- Take and Free of an arena of numbers, for every state. Conditions: what lies in memory as told. -/
import Derived.Test.YtckimhfbbfpddaaA2
import Derived.Test.YtckimhfbbfpddaaAP
namespace Go.Proofs.Ytckimhfbbfpddaa
open Go.RowKit Go.Proofs.YtckimhfbbfpddaaW.PrintWords Lb

theorem takeI {w : World} {F : Nat → Prop} {b : Nat} {s : Ar Int} (h : ArenaI w F b s) (hV : V s) (y : Int) (hL : s.slots.length ≤ 1000000) (hn0 : -1000000 ≤ s.n) (hn1 : s.n ≤ 1000000) :
    Calls Try.prog 24 #[.pointer (some ⟨b, 0, none⟩), .int .i64 y] w fun e w' => e = .returned (.int .i32 (takeN s)) ∧ ∃ F', ArenaI w' F' b (takeP y s) ∧ (∀ k, F' k → F k ∨ w.heap.size ≤ k) ∧ Chg F w w' := by
  by_cases h0 : s.free = 0
  · refine (takeI_new h y h0 hL hn0 hn1).mono ?_
    rintro e w1 ⟨rfl, hA⟩
    rw [take_new y h0]
    exact ⟨by rw [takeN, if_pos h0], hA⟩
  · obtain ⟨k, x, hk, hx⟩ := V_some hV h0
    refine (takeI_old h k x y hx hk hL hn0 hn1).mono ?_
    rintro e w1 ⟨rfl, hA, hC⟩
    rw [take_old y hk hx]
    exact ⟨by rw [takeN, if_neg h0, hk], F, hA, fun k hk => .inl hk, hC⟩
theorem freeI {w : World} {F : Nat → Prop} {b : Nat} {s : Ar Int} (h : ArenaI w F b s) (i : Int) (hi0 : -2147483648 ≤ i) (hi1 : i ≤ 2147483647) (hL : s.slots.length ≤ 1000000) (hn0 : -1000000 ≤ s.n) (hn1 : s.n ≤ 1000000) :
    Calls Try.prog 25 #[.pointer (some ⟨b, 0, none⟩), .int .i32 i] w fun e w' => e = .returned (.bool (isS s i)) ∧ ArenaI w' F b (freeP 0 i s) ∧ Chg F w w' := by
  by_cases hi : isS s i = true
  · obtain ⟨k, x, rfl, hx, ht⟩ := isS_some hi
    refine (freeI_yes h k x hx ht hL hn0 hn1).mono ?_
    rintro e w1 ⟨rfl, hA, hC⟩
    rw [(free_yes 0 hx ht).1]
    exact ⟨by rw [hi], hA, hC⟩
  · have hi2 : isS s i = false := by simpa using hi
    refine (freeI_no h i hi0 hi1 hL hi2).mono ?_
    rintro e w1 ⟨rfl, rfl⟩
    unfold freeP
    rw [if_neg hi]
    exact ⟨by rw [hi2], h, Chg.refl _ _⟩
end Go.Proofs.Ytckimhfbbfpddaa
