/- The union's Same and Join by names. Conditions: what lies in memory as told. -/
import Derived.Test.YtmjecgkmgfocoaaU4
namespace Go.Proofs.Ytmjecgkmgfocoaa
open Go.RowKit Go.Proofs.YtmjecgkmgfocoaaW.PrintWords Lb
section
variable {w w1 : World} {b g1 g2 g3 : Nat} {L : List Nat}
theorem sameP_no1 {a c : Int} (h : ¬ (0 ≤ a ∧ a < (L.length : Int))) : sameP L a c = false ∧ canP L a c = false := by
  have : isM L a = false := by rw [← Bool.not_eq_true, isM_iff]; exact h
  simp [sameP, canP, this]
theorem sameP_no2 {a c : Int} (h : ¬ (0 ≤ c ∧ c < (L.length : Int))) : sameP L a c = false ∧ canP L a c = false := by
  have : isM L c = false := by rw [← Bool.not_eq_true, isM_iff]; exact h
  simp [sameP, canP, this]
theorem sameP_in {i j : Nat} (hi : i < L.length) (hj : j < L.length) : sameP L (i : Int) (j : Int) = (at0 L i == at0 L j) ∧ canP L (i : Int) (j : Int) = !(at0 L i == at0 L j) := by
  have h1 : isM L (i : Int) = true := (isM_iff _ _).2 (by omega)
  have h2 : isM L (j : Int) = true := (isM_iff _ _).2 (by omega)
  simp [sameP, canP, h1, h2]
theorem joinP_no {a c : Int} (h : canP L a c = false) : joinP L a c = L := by rw [joinP, if_neg (by rw [h]; simp)]
theorem joinP_yes {i j : Nat} (hi : i < L.length) (hj : j < L.length) (hne : at0 L i ≠ at0 L j) : joinP L (i : Int) (j : Int) = joinN L i j := by
  rw [joinP, if_pos (by rw [(sameP_in hi hj).2]; simp [hne]), Int.toNat_natCast, Int.toNat_natCast]
/-- Two asked for: where each stands. -/
def Two (w w' : World) (b g1 g2 g3 n : Nat) (A1 A2 A3 : Option Addr) (c1 c2 c3 : Nat) (sz le : List Nat) (sets : Int) (L : List Nat) (i j r s : Nat) : Prop :=
  ∃ up, Un w' b g1 g2 g3 n A1 A2 A3 c1 c2 c3 up sz le sets ∧ Inv up sz le sets L ∧ r < n ∧ s < n ∧ at0 up r = r ∧ at0 up s = s ∧ at0 L r = at0 L i ∧ at0 L s = at0 L j ∧ (at0 L i = at0 L j ↔ r = s) ∧ Chg (fun k => k = g1) w w'
theorem two_of {w w1 w2 : World} {b g1 g2 g3 n : Nat} {A1 A2 A3 : Option Addr} {c1 c2 c3 : Nat} {u1 u2 sz le : List Nat} {sets : Int} {L : List Nat} {i j r s : Nat} (hl : L.length = n)
    (p1 : ∃ k, Rt u1 k i r) (p2 : Chg (fun k => k = g1) w w1)
    (q1 : Un w2 b g1 g2 g3 n A1 A2 A3 c1 c2 c3 u2 sz le sets) (q2 : Inv u2 sz le sets L) (q3 : ∃ k, Rt u2 k j s) (q4 : ∀ y q k, Rt u1 k y q → ∃ k', Rt u2 k' y q) (q5 : Chg (fun k => k = g1) w1 w2) : Two w w2 b g1 g2 g3 n A1 A2 A3 c1 c2 c3 sz le sets L i j r s := by
  obtain ⟨k1, h1⟩ := p1
  obtain ⟨k2, h2⟩ := q3
  obtain ⟨k3, h3⟩ := q4 _ _ _ h1
  have t1 := h3.top
  have t2 := h2.top
  rw [q2.lu, hl] at t1 t2
  exact ⟨u2, q1, q2, t1.1, t2.1, t1.2, t2.2, (q2.at_root h3).symm, (q2.at_root h2).symm, q2.same _ _ _ _ _ _ h3 h2, p2.trans q5 (fun _ e => .inl e)⟩
theorem join_fin {w w3 : World} {b g1 g2 g3 n : Nat} {A1 A2 A3 : Option Addr} {c1 c2 c3 : Nat} {up sz le : List Nat} {sets : Int} {L M : List Nat} (nq p c X Y V : Nat)
    (hl : L.length = n) (hn : n ≤ 4194304) (hU : Un w3 b g1 g2 g3 n A1 A2 A3 c1 c2 c3 up sz le sets) (hI : Inv up sz le sets L) (hp : p < n) (hc : c < n) (rp : at0 up p = p) (rc : at0 up c = c) (hne : p ≠ c) (hX : at0 sz p = X) (hY : at0 sz c = Y) (hV : V = min (at0 le p) (at0 le c)) (hM : joinN L p c = M) (hC : Chg (fun k => k = g1) w w3) :
    Uo ((((((w3.drewN nq).setCell ⟨g1, c, none⟩ (.int .i32 (p : Int))).setCell ⟨g2, p, none⟩ (.int .i32 ((X : Int) + (Y : Int)))).setCell ⟨g3, p, none⟩ (.int .i32 (V : Int))).setCell ⟨b, 3, none⟩ (.int .i64 (sets - 1))).drew.drew) b g1 g2 g3 M ∧
    Chg (UF b g1 g2 g3) w ((((((w3.drewN nq).setCell ⟨g1, c, none⟩ (.int .i32 (p : Int))).setCell ⟨g2, p, none⟩ (.int .i32 ((X : Int) + (Y : Int)))).setCell ⟨g3, p, none⟩ (.int .i32 (V : Int))).setCell ⟨b, 3, none⟩ (.int .i64 (sets - 1))).drew.drew) := by
  have h0 : Un (w3.drewN nq) b g1 g2 g3 n A1 A2 A3 c1 c2 c3 up sz le sets := hU.keep ((Chg.refl Non w3).drewN nq) (fun e => e) (fun e => e) (fun e => e) (fun e => e)
  have h1 := (((((h0.put1 hc p).put2 hp (X + Y)).put3 hp V).putS (by omega) (sets - 1)).drew).drew
  rw [Int.natCast_add] at h1
  have h2 := (hI.joined (p := p) (c := c) (by omega) (by omega) rp rc hne).2
  rw [hX, hY, ← hV, hM] at h2
  refine ⟨⟨n, A1, A2, A3, c1, c2, c3, _, _, _, _, ?_, hn, h1, h2⟩, ?_⟩
  · rw [← hM, joinN_len]; exact hl
  · exact ((((((((hC.mono (G := UF b g1 g2 g3) (fun k e => .inl (.inr (.inl e)))).drewN nq).set (.inl (.inr (.inl rfl))) _).set (.inl (.inr (.inr (.inl rfl)))) _).set (.inl (.inr (.inr (.inr rfl)))) _).set (.inl (.inl rfl)) _).drew).drew)
theorem joinN_of {L : List Nat} {i j p c : Nat} (h1 : at0 L p = at0 L i) (h2 : at0 L c = at0 L j) : joinN L p c = joinN L i j := by rw [joinN, joinN, h1, h2]
theorem two_counts (L : List Nat) (x y : Nat) (h : x ≠ y) : L.count x + L.count y ≤ L.length := by
  induction L with
  | nil => simp
  | cons z L ih =>
    rw [List.count_cons, List.count_cons, List.length_cons]
    by_cases e : z = x
    · subst e; simp [h]; omega
    · simp only [beq_iff_eq, e, if_false]
      split <;> omega
theorem bool_eq {a c : Bool} (h : a = c) : Ending.returned (.bool a) = .returned (.bool c) := by rw [h]
set_option maxRecDepth 100000 in
set_option maxHeartbeats 4000000 in
theorem same_ok (h : Uo w b g1 g2 g3 L) (a c : Int) : Calls Try.prog 14 #[.pointer (some ⟨b, 0, none⟩), .int .i64 a, .int .i64 c] w fun e w' => e = .returned (.bool (sameP L a c)) ∧ Uo w' b g1 g2 g3 L ∧ Chg (UF b g1 g2 g3) w w' := by
  have HH := Aside0.mk h
  obtain ⟨n, A1, A2, A3, c1, c2, c3, up, sz, le, sets, h1, h2, h3, h4⟩ := h
  have HL := Aside0.mk h1
  have HN := Aside0.mk h2
  have HU := Aside0.mk h3
  have HI := Aside0.mk h4
  clear h1 h2 h3 h4
  by_cases ha : 0 ≤ a ∧ a < (n : Int)
  case neg =>
    have HV := Aside0.mk (sameP_no1 (L := L) (a := a) (c := c) (by rw [HL.out]; exact ha))
    have HA := Aside0.mk ha
    clear ha
    by_cases hc : 0 ≤ c ∧ c < (n : Int)
    · obtain ⟨j, rfl⟩ := Int.eq_ofNat_of_zero_le hc.1
      have HJ : Aside0 (j < n) := ⟨by omega⟩
      clear hc
      go_enter Try.func14, Try.ntmps14
      go_wp2_with fail
      refine (top_out HU.out a HA.out).mono ?_
      rintro e w2 ⟨rfl, rfl⟩
      go_wp2_with fail
      refine (top_in HU.out HI.out HL.out HN.out j HJ.out).mono ?_
      rintro e w2 ⟨r, rfl, up', hU, hI, _, _, hC⟩
      have HU2 := Aside0.mk hU
      have HI2 := Aside0.mk hI
      have HC2 := Aside0.mk hC
      have hr0 : (0 : Int) ≤ (r : Int) := by omega
      clear hU hI hC
      go_wp2
      go_ret
      exact ⟨bool_eq HV.out.1.symm, ⟨n, _, _, _, c1, c2, c3, up', sz, le, sets, HL.out, HN.out, HU2.out, HI2.out⟩, HC2.out.mono (fun k e => .inl (.inr (.inl e)))⟩
    · have HC := Aside0.mk hc
      clear hc
      go_enter Try.func14, Try.ntmps14
      go_wp2_with fail
      refine (top_out HU.out a HA.out).mono ?_
      rintro e w2 ⟨rfl, rfl⟩
      go_wp2_with fail
      refine (top_out HU.out c HC.out).mono ?_
      rintro e w2 ⟨rfl, rfl⟩
      go_wp2
      go_ret
      exact ⟨bool_eq HV.out.1.symm, HH.out, Chg.refl _ _⟩
  case pos =>
    obtain ⟨i, rfl⟩ := Int.eq_ofNat_of_zero_le ha.1
    have HA : Aside0 (i < n) := ⟨by omega⟩
    clear ha
    by_cases hc : 0 ≤ c ∧ c < (n : Int)
    case neg =>
      have HV := Aside0.mk (sameP_no2 (L := L) (a := (i : Int)) (c := c) (by rw [HL.out]; exact hc))
      have HC := Aside0.mk hc
      clear hc
      go_enter Try.func14, Try.ntmps14
      go_wp2_with fail
      refine (top_in HU.out HI.out HL.out HN.out i HA.out).mono ?_
      rintro e w2 ⟨r, rfl, up', hU, hI, _, _, hC⟩
      have HU2 := Aside0.mk hU
      have HI2 := Aside0.mk hI
      have HC2 := Aside0.mk hC
      have hr0 : (0 : Int) ≤ (r : Int) := by omega
      have hr1 : ¬ (r : Int) = -1 := by omega
      clear hU hI hC
      go_wp2_with fail
      refine (top_out HU2.out c HC.out).mono ?_
      rintro e w3 ⟨rfl, rfl⟩
      go_wp2
      go_ret
      exact ⟨bool_eq HV.out.1.symm, ⟨n, _, _, _, c1, c2, c3, up', sz, le, sets, HL.out, HN.out, HU2.out, HI2.out⟩, HC2.out.mono (fun k e => .inl (.inr (.inl e)))⟩
    case pos =>
      obtain ⟨j, rfl⟩ := Int.eq_ofNat_of_zero_le hc.1
      have HJ : Aside0 (j < n) := ⟨by omega⟩
      have HV := Aside0.mk (sameP_in (L := L) (i := i) (j := j) (by rw [HL.out]; exact HA.out) (by rw [HL.out]; exact HJ.out))
      clear hc
      go_enter Try.func14, Try.ntmps14
      go_wp2_with fail
      refine (top_in HU.out HI.out HL.out HN.out i HA.out).mono ?_
      rintro e w2 ⟨r, rfl, u1, hU, hI, hR, _, hC⟩
      have HU2 := Aside0.mk hU
      have HI2 := Aside0.mk hI
      have HC2 := Aside0.mk hC
      have HR2 := Aside0.mk hR
      clear hU hI hC hR
      go_wp2_with fail
      refine (top_in HU2.out HI2.out HL.out HN.out j HJ.out).mono ?_
      rintro e w3 ⟨s, rfl, u2, hU, hI, hR, hS, hC⟩
      have HT := Aside0.mk (two_of HL.out HR2.out HC2.out hU hI hR hS hC)
      clear hU hI hC hR hS HU2 HI2 HC2 HR2
      have hr0 : (0 : Int) ≤ (r : Int) := by omega
      have hs0 : (0 : Int) ≤ (s : Int) := by omega
      by_cases hrs : r = s
      · subst hrs
        go_wp2
        go_ret
        obtain ⟨u, t1, t2, _, _, _, _, _, _, t9, t10⟩ := HT.out
        exact ⟨bool_eq (by rw [HV.out.1, t9.2 rfl]; simp), ⟨n, _, _, _, c1, c2, c3, u, sz, le, sets, HL.out, HN.out, t1, t2⟩, t10.mono (fun k e => .inl (.inr (.inl e)))⟩
      · have HRS := Aside0.mk hrs
        have hrs1 : ¬ (r : Int) = (s : Int) := by omega
        have hrs2 : ((r : Int) == (s : Int)) = false := beq_eq_false_iff_ne.2 hrs1
        clear hrs
        go_wp2
        go_ret
        obtain ⟨u, t1, t2, _, _, _, _, _, _, t9, t10⟩ := HT.out
        exact ⟨bool_eq (by rw [HV.out.1, beq_eq_false_iff_ne.2 (fun e => HRS.out (t9.1 e))]), ⟨n, _, _, _, c1, c2, c3, u, sz, le, sets, HL.out, HN.out, t1, t2⟩, t10.mono (fun k e => .inl (.inr (.inl e)))⟩

set_option maxRecDepth 100000 in
set_option maxHeartbeats 4000000 in
theorem join_ok (h : Uo w b g1 g2 g3 L) (a c : Int) : Calls Try.prog 13 #[.pointer (some ⟨b, 0, none⟩), .int .i64 a, .int .i64 c] w fun e w' => e = .returned (.bool (canP L a c)) ∧ Uo w' b g1 g2 g3 (joinP L a c) ∧ Chg (UF b g1 g2 g3) w w' := by
  have HH := Aside0.mk h
  obtain ⟨n, A1, A2, A3, c1, c2, c3, up, sz, le, sets, h1, h2, h3, h4⟩ := h
  have HL := Aside0.mk h1
  have HN := Aside0.mk h2
  have HU := Aside0.mk h3
  have HI := Aside0.mk h4
  clear h1 h2 h3 h4
  by_cases ha : 0 ≤ a ∧ a < (n : Int)
  case neg =>
    have HV := Aside0.mk (sameP_no1 (L := L) (a := a) (c := c) (by rw [HL.out]; exact ha))
    have HA := Aside0.mk ha
    clear ha
    by_cases hc : 0 ≤ c ∧ c < (n : Int)
    · obtain ⟨j, rfl⟩ := Int.eq_ofNat_of_zero_le hc.1
      have HJ : Aside0 (j < n) := ⟨by omega⟩
      clear hc
      go_enter Try.func13, Try.ntmps13
      go_wp2_with fail
      refine (top_out HU.out a HA.out).mono ?_
      rintro e w2 ⟨rfl, rfl⟩
      go_wp2_with fail
      refine (top_in HU.out HI.out HL.out HN.out j HJ.out).mono ?_
      rintro e w2 ⟨r, rfl, up', hU, hI, _, _, hC⟩
      have HU2 := Aside0.mk hU
      have HI2 := Aside0.mk hI
      have HC2 := Aside0.mk hC
      have hr0 : (0 : Int) ≤ (r : Int) := by omega
      clear hU hI hC
      go_wp2
      go_ret
      exact ⟨bool_eq HV.out.2.symm, ⟨n, _, _, _, c1, c2, c3, up', sz, le, sets, by rw [joinP_no HV.out.2]; exact HL.out, HN.out, HU2.out, by rw [joinP_no HV.out.2]; exact HI2.out⟩, HC2.out.mono (fun k e => .inl (.inr (.inl e)))⟩
    · have HC := Aside0.mk hc
      clear hc
      go_enter Try.func13, Try.ntmps13
      go_wp2_with fail
      refine (top_out HU.out a HA.out).mono ?_
      rintro e w2 ⟨rfl, rfl⟩
      go_wp2_with fail
      refine (top_out HU.out c HC.out).mono ?_
      rintro e w2 ⟨rfl, rfl⟩
      go_wp2
      go_ret
      exact ⟨bool_eq HV.out.2.symm, by rw [joinP_no HV.out.2]; exact HH.out, Chg.refl _ _⟩
  case pos =>
    obtain ⟨i, rfl⟩ := Int.eq_ofNat_of_zero_le ha.1
    have HA : Aside0 (i < n) := ⟨by omega⟩
    clear ha
    by_cases hc : 0 ≤ c ∧ c < (n : Int)
    case neg =>
      have HV := Aside0.mk (sameP_no2 (L := L) (a := (i : Int)) (c := c) (by rw [HL.out]; exact hc))
      have HC := Aside0.mk hc
      clear hc
      go_enter Try.func13, Try.ntmps13
      go_wp2_with fail
      refine (top_in HU.out HI.out HL.out HN.out i HA.out).mono ?_
      rintro e w2 ⟨r, rfl, up', hU, hI, _, _, hC⟩
      have HU2 := Aside0.mk hU
      have HI2 := Aside0.mk hI
      have HC2 := Aside0.mk hC
      have hr0 : (0 : Int) ≤ (r : Int) := by omega
      have hr1 : ¬ (r : Int) = -1 := by omega
      clear hU hI hC
      go_wp2_with fail
      refine (top_out HU2.out c HC.out).mono ?_
      rintro e w3 ⟨rfl, rfl⟩
      go_wp2
      go_ret
      exact ⟨bool_eq HV.out.2.symm, ⟨n, _, _, _, c1, c2, c3, up', sz, le, sets, by rw [joinP_no HV.out.2]; exact HL.out, HN.out, HU2.out, by rw [joinP_no HV.out.2]; exact HI2.out⟩, HC2.out.mono (fun k e => .inl (.inr (.inl e)))⟩
    case pos =>
      obtain ⟨j, rfl⟩ := Int.eq_ofNat_of_zero_le hc.1
      have HJ : Aside0 (j < n) := ⟨by omega⟩
      have HV := Aside0.mk (sameP_in (L := L) (i := i) (j := j) (by rw [HL.out]; exact HA.out) (by rw [HL.out]; exact HJ.out))
      clear hc
      go_enter Try.func13, Try.ntmps13
      go_wp2_with fail
      refine (top_in HU.out HI.out HL.out HN.out i HA.out).mono ?_
      rintro e w2 ⟨r, rfl, u1, hU, hI, hR, _, hC⟩
      have HU2 := Aside0.mk hU
      have HI2 := Aside0.mk hI
      have HC2 := Aside0.mk hC
      have HR2 := Aside0.mk hR
      clear hU hI hC hR
      go_wp2_with fail
      refine (top_in HU2.out HI2.out HL.out HN.out j HJ.out).mono ?_
      rintro e w3 ⟨s, rfl, u2, hU, hI, hR, hS, hC⟩
      have HT := Aside0.mk (two_of HL.out HR2.out HC2.out hU hI hR hS hC)
      clear hU hI hC hR hS HU2 HI2 HC2 HR2
      have hr0 : (0 : Int) ≤ (r : Int) := by omega
      have hs0 : (0 : Int) ≤ (s : Int) := by omega
      by_cases hrs : r = s
      · subst hrs
        go_wp2
        go_ret
        obtain ⟨u, t1, t2, _, _, _, _, _, _, t9, t10⟩ := HT.out
        have hno : canP L (i : Int) (j : Int) = false := by rw [HV.out.2, t9.2 rfl]; simp
        exact ⟨bool_eq hno.symm, ⟨n, _, _, _, c1, c2, c3, u, sz, le, sets, by rw [joinP_no hno]; exact HL.out, HN.out, t1, by rw [joinP_no hno]; exact t2⟩, t10.mono (fun k e => .inl (.inr (.inl e)))⟩
      · have HRS := Aside0.mk hrs
        have hrs1 : ¬ (r : Int) = (s : Int) := by omega
        have hrs2 : ((r : Int) == (s : Int)) = false := beq_eq_false_iff_ne.2 hrs1
        obtain ⟨u, hU, hI, hr, hs, rr, rs, nr, ns, hiff, hC⟩ := HT.out
        have hij : at0 L i ≠ at0 L j := fun e => hrs (hiff.1 e)
        have hyes : canP L (i : Int) (j : Int) = true := by rw [HV.out.2]; simp [hij]
        have hjoin := joinP_yes (L := L) (by rw [HL.out]; exact HA.out) (by rw [HL.out]; exact HJ.out) hij
        have hszr : at0 sz r = L.count (at0 L i) := by rw [← nr]; exact hI.size _ _ _ (.root r (by rw [hI.lu, HL.out]; exact hr) rr)
        have hszs : at0 sz s = L.count (at0 L j) := by rw [← ns]; exact hI.size _ _ _ (.root s (by rw [hI.lu, HL.out]; exact hs) rs)
        have hcount := two_counts L _ _ hij
        have hler : at0 le r = at0 L i := by rw [← nr]; exact hI.name _ _ _ (.root r (by rw [hI.lu, HL.out]; exact hr) rr)
        have hles : at0 le s = at0 L j := by rw [← ns]; exact hI.name _ _ _ (.root s (by rw [hI.lu, HL.out]; exact hs) rs)
        have hle1 := hI.nm.le i (by rw [HL.out]; exact HA.out)
        have hle2 := hI.nm.le j (by rw [HL.out]; exact HJ.out)
        obtain ⟨e1, _, hf1r⟩ := hU.at1 hr
        obtain ⟨_, _, hf1s⟩ := hU.at1 hs
        obtain ⟨e2, hsr, hf2r⟩ := hU.at2 hr
        obtain ⟨_, hss, hf2s⟩ := hU.at2 hs
        obtain ⟨e3, hlr, hf3r⟩ := hU.at3 hr
        obtain ⟨_, hls, hf3s⟩ := hU.at3 hs
        subst e1 e2 e3
        have h0 := hU.c0
        have h1 := hU.c1'
        have h2 := hU.c2'
        have h3 := hU.c3'
        have hfb := blk_frozen hU.blk 3
        have hcap1 := hU.len.2.2.2.1
        have hcap2 := hU.len.2.2.2.2.1
        have hcap3 := hU.len.2.2.2.2.2
        obtain ⟨n1, n2, n3, n4, n5, n6⟩ := hU.ne (by omega)
        have n1' := Ne.symm n1
        have n2' := Ne.symm n2
        have n3' := Ne.symm n3
        have n4' := Ne.symm n4
        have n5' := Ne.symm n5
        have n6' := Ne.symm n6
        have hsets := hI.sets
        have hsb : setsOf L ≤ L.length := by unfold setsOf; exact Nat.le_trans List.countP_le_length (by simp)
        have HU2 := Aside0.mk hU
        have HI2 := Aside0.mk hI
        have HC2 := Aside0.mk hC
        have HYES := Aside0.mk hyes
        have HJOIN := Aside0.mk hjoin
        have HNR := Aside0.mk nr
        have HNS := Aside0.mk ns
        have HRR := Aside0.mk rr
        have HRST := Aside0.mk rs
        have HRN := Aside0.mk hr
        have HSN := Aside0.mk hs
        have hN := HN.out
        have hAn := HA.out
        have hJn := HJ.out
        rw [HL.out] at hcount hsb
        rw [hler] at hlr
        rw [hles] at hls
        rw [hszr] at hsr
        rw [hszs] at hss
        have HSZR := Aside0.mk hszr
        have HSZS := Aside0.mk hszs
        have HLER := Aside0.mk hler
        have HLES := Aside0.mk hles
        generalize L.count (at0 L i) = X at hcount hsr hss HSZR HSZS
        generalize L.count (at0 L j) = Y at hcount hsr hss HSZR HSZS
        have HNR2 := HNR.out
        generalize hP : at0 L i = P at hle1 hlr hls HLER HLES
        generalize hQ : at0 L j = Q at hle2 hlr hls HLER HLES
        have HPE := Aside0.mk hP
        have HQE := Aside0.mk hQ
        have bX : (X : Int) + (Y : Int) ≤ 4194304 := by omega
        have bP : (P : Int) ≤ 4194304 := by omega
        have bQ : (Q : Int) ≤ 4194304 := by omega
        have bs0 : 0 ≤ sets := by omega
        have bs1 : sets ≤ 4194304 := by omega
        have br : (r : Int) < (n : Int) := by omega
        have bs : (s : Int) < (n : Int) := by omega
        have bn : (n : Int) ≤ 4194304 := by omega
        have hrs3 : ¬ r = s := hrs
        have hrs4 : ¬ s = r := fun e => hrs e.symm
        clear hrs hcount hle1 hle2 hP hQ hsets hsb hU hI hC hyes hjoin nr ns rr rs hr hs hN hAn hJn hszr hszs hler hles HNR2 hiff hij HT
        have hmul : ∀ x y : Nat, x < y → ((x : Int) < (y : Int)) := fun x y h => by omega
        by_cases hXY : X < Y
        · have bXY : (X : Int) < (Y : Int) := by omega
          clear hmul hXY
          go_wp2_with fail
          go_quiet (fail)
          go_wp2_with fail
          go_region
          go_wp2_with fail
          go_region
          go_wp2
          all_goals
            have hv := HLER.out
            have hv2 := HLES.out
            go_ret
            refine ⟨bool_eq HYES.out.symm, ?_⟩
            rw [HJOIN.out]
            exact join_fin nq s r Y X _ HL.out HN.out HU2.out HI2.out HSN.out HRN.out HRST.out HRR.out (fun e => hrs4 e) HSZS.out HSZR.out (by omega) ((joinN_of HNS.out HNR.out).trans (joinN_comm _ _ _)) HC2.out
        · have bXY : (Y : Int) ≤ (X : Int) := by omega
          have bXY' : decide ((X : Int) < (Y : Int)) = false := decide_eq_false (by omega)
          clear hmul hXY
          go_wp2_with fail
          go_quiet (fail)
          go_wp2_with fail
          go_region
          go_wp2_with fail
          go_region
          go_wp2
          all_goals
            have hv := HLER.out
            have hv2 := HLES.out
            go_ret
            refine ⟨bool_eq HYES.out.symm, ?_⟩
            rw [HJOIN.out]
            exact join_fin nq r s X Y _ HL.out HN.out HU2.out HI2.out HRN.out HSN.out HRR.out HRST.out (fun e => hrs3 e) HSZR.out HSZS.out (by omega) (joinN_of HNR.out HNS.out) HC2.out
end
end Go.Proofs.Ytmjecgkmgfocoaa
