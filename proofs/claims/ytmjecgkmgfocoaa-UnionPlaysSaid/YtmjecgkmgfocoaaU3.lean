/- The union's top: it halves the way. Conditions: what lies in memory as told. -/
import Derived.Test.YtmjecgkmgfocoaaU2
import Derived.StillTailTactics
namespace Go.Proofs.Ytmjecgkmgfocoaa
open Go.RowKit Go.Proofs.YtmjecgkmgfocoaaW.PrintWords Lb

theorem Inv.up_lt {up sz le : List Nat} {sets : Int} {L : List Nat} (h : Inv up sz le sets L) {i : Nat} (hi : i < L.length) : at0 up i < L.length := by
  obtain ⟨k, r, hr⟩ := h.root i hi
  cases hr with
  | root _ h1 h2 => rw [h2]; exact hi
  | step _ _ _ _ _ h3 => have := h3.lt; rw [h.lu] at this; exact this
theorem halve_to {up : List Nat} {x k r : Nat} (h : Rt up (k + 1) x r) (hx : at0 up x ≠ x) : ∃ k', k' ≤ k ∧ Rt (up.set x (at0 up (at0 up x))) k' (at0 up (at0 up x)) r := by
  have hal : x < up.length := h.lt
  obtain ⟨m, e, h1⟩ := h.parts hx
  obtain rfl : k = m := by omega
  by_cases hp : at0 up (at0 up x) = at0 up x
  · obtain ⟨k', hk', h2⟩ := halve hx hal _ _ _ h1
    refine ⟨k', hk', ?_⟩
    rw [hp]
    rw [hp] at h2
    exact h2
  · obtain ⟨m2, e2, h2⟩ := h1.parts hp
    obtain ⟨k', hk', h3⟩ := halve hx hal _ _ _ h2
    exact ⟨k', by omega, h3⟩

set_option maxRecDepth 100000 in
set_option maxHeartbeats 4000000 in
theorem top_in {w : World} {b g1 g2 g3 n : Nat} {A1 A2 A3 : Option Addr} {c1 c2 c3 : Nat} {up sz le : List Nat} {sets : Int} {L : List Nat} (h : Un w b g1 g2 g3 n A1 A2 A3 c1 c2 c3 up sz le sets) (hI : Inv up sz le sets L) (hl : L.length = n) (hn : n ≤ 4194304) (a : Nat) (ha : a < n) :
    Calls Try.prog 23 #[.pointer (some ⟨b, 0, none⟩), .int .i64 (a : Int)] w fun e w' => ∃ r : Nat, e = .returned (.int .i64 (r : Int)) ∧ ∃ up' : List Nat, Un w' b g1 g2 g3 n A1 A2 A3 c1 c2 c3 up' sz le sets ∧ Inv up' sz le sets L ∧ (∃ k, Rt up' k a r) ∧ (∀ y q k, Rt up k y q → ∃ k', Rt up' k' y q) ∧ Chg (fun k => k = g1) w w' := by
  obtain ⟨k0, r0, hr0⟩ := hI.root a (by omega)
  have HR0 := Aside0.mk hr0
  have H := Aside0.mk h
  have HI := Aside0.mk hI
  have HL := Aside0.mk hl
  have HA := Aside0.mk ha
  have HC0 := Aside0.mk (Chg.refl (fun k => k = g1) w)
  have hge : (0 : Int) ≤ (a : Int) := by omega
  have hlt : (a : Int) < (n : Int) := by omega
  have hd1 : decide (n ≤ a) = false := decide_eq_false (by omega)
  have hd2 : decide ((n : Int) ≤ (a : Int)) = false := decide_eq_false (by omega)
  have hd3 : decide ((a : Int) < 0) = false := decide_eq_false (by omega)
  clear h hI hl hr0
  go_enter Try.func23, Try.ntmps23
  go_wp2_with fail
  refine (len_in H.out).mono ?_
  rintro e w1 ⟨rfl, rfl⟩
  go_wp2
  clear hge hlt ha hd1 hd2 hd3
  go_loopg [1] k0 (fun gk v wr => ∃ (x : Nat) (up1 : List Nat) (k : Nat), v = .int .i64 (x : Int) ∧ Aside0 (Un wr b g1 g2 g3 n A1 A2 A3 c1 c2 c3 up1 sz le sets) ∧ Aside0 (Inv up1 sz le sets L) ∧ Aside0 (Rt up1 k x r0) ∧ Aside0 (k ≤ gk) ∧ Aside0 (∀ y q k, Rt up k y q → ∃ k', Rt up1 k' y q) ∧ Aside0 (Chg (fun k => k = g1) w wr))
  case atStart => exact ⟨a, up, k0, rfl, H, HI, HR0, ⟨Nat.le_refl _⟩, ⟨fun y q k h => ⟨k, h⟩⟩, HC0⟩
  case round =>
    obtain ⟨x, up1, k, rfl, U, I, R, K, S, C⟩ := hrel
    have hx : x < n := by have := R.out.lt; rw [I.out.lu, HL.out] at this; exact this
    have hy : at0 up1 x < n := by have := I.out.up_lt (i := x) (by rw [HL.out]; exact hx); rw [HL.out] at this; exact this
    have hz : at0 up1 (at0 up1 x) < n := by have := I.out.up_lt (i := at0 up1 x) (by rw [HL.out]; exact hy); rw [HL.out] at this; exact this
    obtain ⟨e1, hcx, hfx⟩ := U.out.at1 hx
    obtain ⟨_, hcy, hfy⟩ := U.out.at1 hy
    subst e1
    have h0 := U.out.c0
    have HY : Aside0 (∃ y, at0 up1 x = y ∧ ∃ z, at0 up1 y = z) := ⟨⟨_, rfl, _, rfl⟩⟩
    obtain ⟨y, hyE, z, hzE⟩ := HY.out
    rw [hyE] at hcx hcy hfy hy hz
    rw [hzE] at hcy hz
    have hx1 : (x : Int) < (n : Int) := by omega
    have hy1 : (y : Int) < (n : Int) := by omega
    have hz1 : (z : Int) < (n : Int) := by omega
    have hnn : (n : Int) ≤ 4194304 := by omega
    have hcap := U.out.len.2.2.2.1
    have YE := Aside0.mk hyE
    have ZE := Aside0.mk hzE
    have HX := Aside0.mk hx
    clear hyE hzE
    by_cases hxy : y = x
    · subst hxy
      obtain rfl : z = y := by rw [← ZE.out, YE.out]
      go_wp2
      have hEnd : r0 = z := by
        cases R.out with
        | root _ _ _ => rfl
        | step _ _ _ _ h4 _ => exact absurd YE.out h4
      go_ret
      exact ⟨z, rfl, up1, U.out, I.out, hEnd ▸ S.out _ _ _ HR0.out, S.out, C.out⟩
    · have hxy1 : ¬ (y : Int) = (x : Int) := by omega
      have hg : ¬ b = g1 := fun e => (U.out.ne (by omega)).1 e
      have hg' : ¬ g1 = b := fun e => hg e.symm
      obtain ⟨m, rfl, _⟩ := R.out.parts (by rw [YE.out]; exact hxy)
      have HXY := Aside0.mk hxy
      cases gk with
      | zero => exact absurd K.out (by omega)
      | succ k1 =>
        clear hxy
        go_wp2_with fail
        go_region
        go_wp2
        have hU := (U.out.put1 HX.out z).drew
        have hne : at0 up1 x ≠ x := by rw [YE.out]; exact HXY.out
        have hI := I.out.halved (a := x) hne (by rw [HL.out]; exact HX.out)
        obtain ⟨k', hk', hR⟩ := halve_to R.out hne
        have hS : ∀ y q k, Rt up k y q → ∃ k', Rt (up1.set x (at0 up1 (at0 up1 x))) k' y q := fun y q k h => by
          obtain ⟨k2, h2⟩ := S.out y q k h
          obtain ⟨k3, _, h3⟩ := halve hne (by rw [I.out.lu, HL.out]; exact HX.out) _ _ _ h2
          exact ⟨k3, h3⟩
        rw [YE.out, ZE.out] at hI hR hS
        have hC : Chg (fun k => k = g1) w ((wr.setCell ⟨g1, x, none⟩ (.int .i32 (z : Int))).drew) := (C.out.set (.inl rfl) _).drew
        have hK := K.out
        go_roundg k1
        case measure => omega
        case rel => exact ⟨z, up1.set x z, k', rfl, ⟨hU⟩, ⟨hI⟩, ⟨hR⟩, ⟨by omega⟩, ⟨hS⟩, ⟨hC⟩⟩
end Go.Proofs.Ytmjecgkmgfocoaa
