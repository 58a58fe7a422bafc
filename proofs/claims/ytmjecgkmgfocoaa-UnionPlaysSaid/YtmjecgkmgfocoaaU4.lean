/- The union by its names: Name, Size, Same. Conditions: what lies in memory as told. -/
import Derived.Test.YtmjecgkmgfocoaaU3
namespace Go.Proofs.Ytmjecgkmgfocoaa
open Go.RowKit Go.Proofs.YtmjecgkmgfocoaaW.PrintWords Lb

def UF (b g1 g2 g3 : Nat) : Nat → Prop := fun k => k = b ∨ k = g1 ∨ k = g2 ∨ k = g3
/-- A union that stands for names L. -/
def Uo (w : World) (b g1 g2 g3 : Nat) (L : List Nat) : Prop := ∃ (n : Nat) (A1 A2 A3 : Option Addr) (c1 c2 c3 : Nat) (up sz le : List Nat) (sets : Int), L.length = n ∧ n ≤ 4194304 ∧ Un w b g1 g2 g3 n A1 A2 A3 c1 c2 c3 up sz le sets ∧ Inv up sz le sets L
section
variable {w w1 : World} {b g1 g2 g3 : Nat} {L : List Nat}
theorem Uo.keep {G : Nat → Prop} (h : Uo w b g1 g2 g3 L) (hc : Chg G w w1) (hd : ∀ k, UF b g1 g2 g3 k → ¬ G k) : Uo w1 b g1 g2 g3 L := by
  obtain ⟨n, A1, A2, A3, c1, c2, c3, up, sz, le, sets, h1, h2, h3, h4⟩ := h
  exact ⟨n, A1, A2, A3, c1, c2, c3, up, sz, le, sets, h1, h2, h3.keep hc (hd _ (.inl rfl)) (hd _ (.inr (.inl rfl))) (hd _ (.inr (.inr (.inl rfl)))) (hd _ (.inr (.inr (.inr rfl)))), h4⟩
theorem Uo.below (h : Uo w b g1 g2 g3 L) (hb : Below w.heap.size w w1) : Uo w1 b g1 g2 g3 L := h.keep (Chg.of_below (F := Non) hb) (fun _ _ e => e)
theorem Uo.lt (h : Uo w b g1 g2 g3 L) : ∀ k, UF b g1 g2 g3 k → k < w.heap.size := by
  obtain ⟨n, A1, A2, A3, c1, c2, c3, up, sz, le, sets, h1, h2, h3, h4⟩ := h
  rintro k (rfl | rfl | rfl | rfl)
  · exact h3.l0
  · exact h3.l1
  · exact h3.l2
  · exact h3.l3
theorem Uo.nm (h : Uo w b g1 g2 g3 L) : Nm L := by
  obtain ⟨n, A1, A2, A3, c1, c2, c3, up, sz, le, sets, h1, h2, h3, h4⟩ := h
  exact h4.nm
theorem nameP_out {a : Int} (h : ¬ (0 ≤ a ∧ a < (L.length : Int))) : nameP L a = -1 := if_neg h
theorem sizeP_out {a : Int} (h : ¬ (0 ≤ a ∧ a < (L.length : Int))) : sizeP L a = 0 := if_neg h
theorem nameP_in {i : Nat} (h : i < L.length) : nameP L (i : Int) = (at0 L i : Nat) := by rw [nameP, if_pos (by omega), Int.toNat_natCast]
theorem sizeP_in {i : Nat} (h : i < L.length) : sizeP L (i : Int) = (L.count (at0 L i) : Nat) := by rw [sizeP, if_pos (by omega), Int.toNat_natCast]

set_option maxRecDepth 100000 in
set_option maxHeartbeats 4000000 in
theorem name_ok (h : Uo w b g1 g2 g3 L) (a : Int) : Calls Try.prog 12 #[.pointer (some ⟨b, 0, none⟩), .int .i64 a] w fun e w' => e = .returned (.int .i64 (nameP L a)) ∧ Uo w' b g1 g2 g3 L ∧ Chg (UF b g1 g2 g3) w w' := by
  have HH := Aside0.mk h
  obtain ⟨n, A1, A2, A3, c1, c2, c3, up, sz, le, sets, h1, h2, h3, h4⟩ := h
  have HL := Aside0.mk h1
  have HN := Aside0.mk h2
  have HU := Aside0.mk h3
  have HI := Aside0.mk h4
  clear h1 h2 h3 h4
  by_cases ha : 0 ≤ a ∧ a < (n : Int)
  · obtain ⟨i, rfl⟩ := Int.eq_ofNat_of_zero_le ha.1
    have hi : i < n := by omega
    have HV : Aside0 (nameP L (i : Int) = (at0 L i : Nat)) := ⟨nameP_in (by rw [HL.out]; exact hi)⟩
    have HiN := Aside0.mk hi
    clear ha hi
    go_enter Try.func12, Try.ntmps12
    go_wp2_with fail
    refine (top_in HU.out HI.out HL.out HN.out i HiN.out).mono ?_
    rintro e w2 ⟨r, rfl, up', hU, hI, ⟨k, hR⟩, _, hC⟩
    have hr : r < n := by have := hR.top.1; rw [hI.lu, HL.out] at this; exact this
    obtain ⟨rfl, hcell, _⟩ := hU.at3 hr
    have hc2 := hU.c2'
    have hnm := hI.name _ _ _ hR
    rw [hnm] at hcell
    have HV2 := HV.out
    have HU2 := Aside0.mk hU
    have HI2 := Aside0.mk hI
    have HC2 := Aside0.mk hC
    have hcap := hU.len.2.2.2.2.2
    have hle : at0 L i ≤ i := hI.nm.le i (by rw [HL.out]; exact HiN.out)
    have hin := HiN.out
    have hN := HN.out
    generalize at0 L i = v at *
    have hv : (v : Int) ≤ 4194304 := by omega
    have hr1 : (r : Int) < (n : Int) := by omega
    have hr0 : (0 : Int) ≤ (r : Int) := by omega
    have HV3 := Aside0.mk HV2
    clear hU hI hR hC hnm hle HV2 HV hin hN
    go_wp2
    go_ret
    exact ⟨ret_int HV3.out.symm, ⟨n, _, _, _, c1, c2, c3, up', sz, le, sets, HL.out, HN.out, HU2.out, HI2.out⟩, HC2.out.mono (fun k e => .inl (.inr (.inl e)))⟩
  · have HV : Aside0 (nameP L a = -1) := ⟨nameP_out (by rw [HL.out]; exact ha)⟩
    have HA := Aside0.mk ha
    clear ha
    go_enter Try.func12, Try.ntmps12
    go_wp2_with fail
    refine (top_out HU.out a HA.out).mono ?_
    rintro e w2 ⟨rfl, rfl⟩
    go_wp2
    go_ret
    exact ⟨ret_int HV.out.symm, HH.out, Chg.refl _ _⟩
set_option maxRecDepth 100000 in
set_option maxHeartbeats 4000000 in
theorem size_ok (h : Uo w b g1 g2 g3 L) (a : Int) : Calls Try.prog 15 #[.pointer (some ⟨b, 0, none⟩), .int .i64 a] w fun e w' => e = .returned (.int .i64 (sizeP L a)) ∧ Uo w' b g1 g2 g3 L ∧ Chg (UF b g1 g2 g3) w w' := by
  have HH := Aside0.mk h
  obtain ⟨n, A1, A2, A3, c1, c2, c3, up, sz, le, sets, h1, h2, h3, h4⟩ := h
  have HL := Aside0.mk h1
  have HN := Aside0.mk h2
  have HU := Aside0.mk h3
  have HI := Aside0.mk h4
  clear h1 h2 h3 h4
  by_cases ha : 0 ≤ a ∧ a < (n : Int)
  · obtain ⟨i, rfl⟩ := Int.eq_ofNat_of_zero_le ha.1
    have hi : i < n := by omega
    have HV : Aside0 (sizeP L (i : Int) = (L.count (at0 L i) : Nat)) := ⟨sizeP_in (by rw [HL.out]; exact hi)⟩
    have HiN := Aside0.mk hi
    clear ha hi
    go_enter Try.func15, Try.ntmps15
    go_wp2_with fail
    refine (top_in HU.out HI.out HL.out HN.out i HiN.out).mono ?_
    rintro e w2 ⟨r, rfl, up', hU, hI, ⟨k, hR⟩, _, hC⟩
    have hr : r < n := by have := hR.top.1; rw [hI.lu, HL.out] at this; exact this
    obtain ⟨rfl, hcell, _⟩ := hU.at2 hr
    have hc2 := hU.c1'
    have hnm := hI.size _ _ _ hR
    rw [hnm] at hcell
    have HV2 := HV.out
    have HU2 := Aside0.mk hU
    have HI2 := Aside0.mk hI
    have HC2 := Aside0.mk hC
    have hcap := hU.len.2.2.2.2.1
    have hle : L.count (at0 L i) ≤ L.length := List.count_le_length
    rw [HL.out] at hle
    have hN := HN.out
    generalize L.count (at0 L i) = v at *
    have hv : (v : Int) ≤ 4194304 := by omega
    have hr1 : (r : Int) < (n : Int) := by omega
    have hr0 : (0 : Int) ≤ (r : Int) := by omega
    have HV3 := Aside0.mk HV2
    clear hU hI hR hC hnm hle HV2 HV hN
    go_wp2
    go_ret
    exact ⟨ret_int HV3.out.symm, ⟨n, _, _, _, c1, c2, c3, up', sz, le, sets, HL.out, HN.out, HU2.out, HI2.out⟩, HC2.out.mono (fun k e => .inl (.inr (.inl e)))⟩
  · have HV : Aside0 (sizeP L a = 0) := ⟨sizeP_out (by rw [HL.out]; exact ha)⟩
    have HA := Aside0.mk ha
    clear ha
    go_enter Try.func15, Try.ntmps15
    go_wp2_with fail
    refine (top_out HU.out a HA.out).mono ?_
    rintro e w2 ⟨rfl, rfl⟩
    go_wp2
    go_ret
    exact ⟨ret_int HV.out.symm, HH.out, Chg.refl _ _⟩
theorem sets_ok (h : Uo w b g1 g2 g3 L) : Calls Try.prog 11 #[.pointer (some ⟨b, 0, none⟩)] w fun e w' => e = .returned (.int .i64 (setsOf L : Nat)) ∧ w = w' := by
  obtain ⟨n, A1, A2, A3, c1, c2, c3, up, sz, le, sets, h1, h2, h3, h4⟩ := h
  rw [← h4.sets]
  exact sets_in h3
theorem len_ok (h : Uo w b g1 g2 g3 L) : Calls Try.prog 21 #[.pointer (some ⟨b, 0, none⟩)] w fun e w' => e = .returned (.int .i64 (L.length : Nat)) ∧ w = w' := by
  obtain ⟨n, A1, A2, A3, c1, c2, c3, up, sz, le, sets, h1, h2, h3, h4⟩ := h
  rw [h1]
  exact len_in h3
theorem name_nil (w : World) (a : Int) : Calls Try.prog 12 #[.pointer none, .int .i64 a] w fun e w' => e = .returned (.int .i64 (-1)) ∧ w = w' := by
  go_enter Try.func12, Try.ntmps12
  go_wp2_with fail
  refine (top_nil _ a).mono ?_
  rintro e w2 ⟨rfl, rfl⟩
  go_wp2
  go_ret
  exact ⟨rfl, rfl⟩
theorem size_nil (w : World) (a : Int) : Calls Try.prog 15 #[.pointer none, .int .i64 a] w fun e w' => e = .returned (.int .i64 0) ∧ w = w' := by
  go_enter Try.func15, Try.ntmps15
  go_wp2_with fail
  refine (top_nil _ a).mono ?_
  rintro e w2 ⟨rfl, rfl⟩
  go_wp2
  go_ret
  exact ⟨rfl, rfl⟩
theorem same_nil (w : World) (a c : Int) : Calls Try.prog 14 #[.pointer none, .int .i64 a, .int .i64 c] w fun e w' => e = .returned (.bool false) ∧ w = w' := by
  go_enter Try.func14, Try.ntmps14
  go_wp2_with fail
  refine (top_nil _ a).mono ?_
  rintro e w2 ⟨rfl, rfl⟩
  go_wp2_with fail
  refine (top_nil _ c).mono ?_
  rintro e w2 ⟨rfl, rfl⟩
  go_wp2
  go_ret
  exact ⟨rfl, rfl⟩
theorem join_nil (w : World) (a c : Int) : Calls Try.prog 13 #[.pointer none, .int .i64 a, .int .i64 c] w fun e w' => e = .returned (.bool false) ∧ w = w' := by
  go_enter Try.func13, Try.ntmps13
  go_wp2_with fail
  refine (top_nil _ a).mono ?_
  rintro e w2 ⟨rfl, rfl⟩
  go_wp2_with fail
  refine (top_nil _ c).mono ?_
  rintro e w2 ⟨rfl, rfl⟩
  go_wp2
  go_ret
  exact ⟨rfl, rfl⟩
end
end Go.Proofs.Ytmjecgkmgfocoaa
