/- TerrainAgain's walk. Conditions: a list of kinds, any number of classes. -/
import Derived.Test.YtlnchdelcadmoaaT9
namespace Go.Proofs.Ytlnchdelcadmoaa
open Go.RowKit Go.Proofs.YtlnchdelcadmoaaW.PrintWords Go.Proofs.YtlnchdelcadmoaaW.PrintLast Go.Proofs.YtlnchdelcadmoaaW.PrintMore Lb

/-- Is one of the first t kinds one that class x may stand on, at cost n? -/
def metP (l : List Kind) (cl x n : Int) : Nat → Bool
  | 0 => false
  | t + 1 => metP l cl x n t || (mayP l cl x (t : Int) && (costP l (t : Int) == n))
theorem metP_ex {l : List Kind} {cl x n : Int} {t j : Nat} (hj : j < t) (h1 : mayP l cl x (j : Int) = true) (h2 : costP l (j : Int) = n) : metP l cl x n t = true := by
  induction t with
  | zero => omega
  | succ t ih =>
    unfold metP
    by_cases e : j = t
    · subst e
      rw [h1, h2]
      simp
    · rw [ih (by omega)]
      rfl
theorem metP_no {l : List Kind} {cl x n : Int} (h : ∀ j : Nat, mayP l cl x (j : Int) = true → costP l (j : Int) ≠ n) (t : Nat) : metP l cl x n t = false := by
  induction t with
  | zero => rfl
  | succ t ih =>
    unfold metP
    rw [ih, Bool.false_or]
    cases e : mayP l cl x (t : Int)
    · rfl
    · rw [Bool.true_and]
      exact beq_eq_false_iff_ne.2 (h t e)
theorem may_parts {l : List Kind} {cl x : Int} {y : Int} (h : mayP l cl x y = true) : 0 ≤ x ∧ x < cl ∧ 0 ≤ y ∧ y < (l.length : Int) ∧ bit (kAt l y.toNat).mask x.toNat = true := by
  simp only [mayP, Bool.and_eq_true, decide_eq_true_eq] at h
  exact ⟨h.1.1.1.1, h.1.1.1.2, h.1.1.2, h.1.2, h.2⟩
/-- Who may stand: not less than the least. -/
theorem least_le {l : List Kind} {cl x y : Int} (h : rightP l cl = true) (hm : mayP l cl x y = true) : 0 < leastP l cl x ∧ leastP l cl x ≤ costP l y := by
  obtain ⟨h1, h2, h3, h4, h5⟩ := may_parts hm
  have hk : kAt l y.toNat ∈ l := List.mem_of_getElem? (kAt_some (by omega))
  rw [leastP, if_pos ⟨h1, h2⟩, costP, if_pos ⟨h3, h4⟩]
  rcases leastC_is l x.toNat (right_cost h) with ⟨_, e⟩ | ⟨e, ⟨k0, hk0, hb0, he0⟩, e3⟩
  · rw [e _ hk] at h5; cases h5
  · have := right_cost h k0 hk0
    exact ⟨by omega, e3 _ hk h5⟩
theorem met_all {l : List Kind} {cl x : Int} (h : rightP l cl = true) : metP l cl x (leastP l cl x) l.length = decide (0 < leastP l cl x) := by
  by_cases hp : 0 < leastP l cl x
  · rw [decide_eq_true hp]
    have hx : 0 ≤ x ∧ x < cl := by
      unfold leastP at hp
      split at hp
      · assumption
      · omega
    have he : leastP l cl x = leastC l x.toNat := by rw [leastP, if_pos hx]
    rcases leastC_is l x.toNat (right_cost h) with ⟨e, _⟩ | ⟨e, ⟨k0, hk0, hb0, he0⟩, e3⟩
    · omega
    · obtain ⟨j, hj, ej⟩ := List.mem_iff_getElem.1 hk0
      have hkj : kAt l j = k0 := by simp [kAt, hj, ej]
      refine metP_ex (j := j) hj ?_ ?_
      · simp [mayP, hx.1, hx.2, hj, hkj, hb0]
      · rw [costP, if_pos ⟨by omega, by omega⟩, Int.toNat_natCast, hkj, he0, he]
  · rw [decide_eq_false hp]
    refine metP_no (fun j hj hc => ?_) _
    have := least_le h hj
    omega

set_option maxRecDepth 100000 in
set_option maxHeartbeats 8000000 in
theorem again_walk (w : World) (A : Option Addr) (c : Nat) (l : List Kind) (cl : Int) (hC : kdK.C w A l.length l) (hm : ∀ k ∈ l, k.mask < 256) : Calls Try.prog 6 #[.slice A l.length c, .int .i64 cl] w fun e w' => e = .returned (.bool true) ∧ Below w.heap.size w w' := by
  have hmax : (l.length : Int) ≤ 9223372036854775807 := by have := hC.2.1; unfold maxLen at this; omega
  have HCl := Aside0.mk hC
  have HM := Aside0.mk hm
  obtain ⟨n, hn⟩ : ∃ n, l.length = n := ⟨_, rfl⟩
  have HN := Aside0.mk hn
  rw [hn] at hmax ⊢
  have HCn : Aside0 (kdK.C w A n l) := ⟨by rw [← hn]; exact hC⟩
  clear hC hm
  go_enter Try.func6, Try.ntmps6
  go_wp2_with fail
  refine (awake_yes _).mono ?_
  rintro e w1 ⟨rfl, hb⟩
  have HB1 := Aside0.mk hb
  clear hb
  by_cases h100 : (100 : Int) < (n : Int)
  · clear hn
    go_wp2
    go_ret
    exact ⟨rfl, HB1.out⟩
  have h100' : (n : Int) ≤ 100 := by omega
  clear h100 hn
  go_wp2_with fail
  cases hr : rightP l cl
  · have HR := Aside0.mk hr
    clear hr
    refine (new_no (Kd.C_below HCn.out HB1.out) HN.out HM.out HR.out).mono ?_
    rintro e w2 ⟨rfl, hb⟩
    have HB2 := Aside0.mk (below_next HB1.out hb)
    clear hb
    go_wp2
    go_ret
    exact ⟨rfl, HB2.out⟩
  · have HR := Aside0.mk hr
    have hp := right_parts hr
    have hn16 : (n : Int) ≤ 16 := by have := HN.out; omega
    have hcl8 : cl ≤ 8 := hp.2.2.2.1
    have hcl1 : 1 ≤ cl := hp.2.2.1
    clear hr hp
    refine (new_yes (Kd.C_below HCn.out HB1.out) HN.out HM.out HR.out).mono ?_
    rintro e w2 ⟨b, F, rfl, hT, hF, hb⟩
    have HB2 := Aside0.mk (below_next HB1.out hb)
    have HT2 := Aside0.mk hT
    clear hb hT hF
    go_wp2_with fail
    refine (all_T HT2.out).mono ?_
    rintro e w3 ⟨v, rfl, A', c', F', rfl, hR, _, _, hb⟩
    rw [HN.out] at hR ⊢
    have HB3 := Aside0.mk (below_next HB2.out hb)
    have HT3 := Aside0.mk (HT2.out.below hb)
    have HR3 : Aside0 (kdK.C w3 A' n l) := ⟨by have := (Kd.R_reads' hR).2.2; rwa [HN.out] at this⟩
    clear hb hR
    go_wp2_with fail
    refine (classes_T HT3.out).mono ?_
    rintro e w4 ⟨rfl, rfl⟩
    go_wp2_with fail
    refine (new_yes HR3.out HN.out HM.out HR.out).mono ?_
    rintro e w4 ⟨b2, F2, rfl, hT, hF, hb⟩
    have HB4 := Aside0.mk (below_next HB3.out hb)
    have HT4 := Aside0.mk (HT3.out.below hb)
    have HU4 := Aside0.mk hT
    clear hb hT hF
    go_wp2_with fail
    refine (kinds_T HU4.out).mono ?_
    rintro e w5 ⟨rfl, rfl⟩
    rw [HN.out]
    go_wp2_with fail
    refine (kinds_T HT4.out).mono ?_
    rintro e w5 ⟨rfl, rfl⟩
    rw [HN.out]
    go_wp2_with fail
    refine (kinds_T HT4.out).mono ?_
    rintro e w5 ⟨rfl, rfl⟩
    rw [HN.out]
    go_wp2_with fail
    refine (classes_T HT4.out).mono ?_
    rintro e w5 ⟨rfl, rfl⟩
    go_wp2
    go_loopg [9] (cl + 2).toNat (fun gk v wr => ∃ x : Int, v = .int .i64 x ∧ Aside0 (x + (gk : Int) = cl + 1) ∧ Aside0 (-1 ≤ x) ∧ Aside0 (Below w.heap.size w wr) ∧ Aside0 (TabO wr F b l cl) ∧ Aside0 (TabO wr F2 b2 l cl))
    case atStart => exact ⟨-1, rfl, ⟨by omega⟩, ⟨by omega⟩, HB4, HT4, HU4⟩
    case round =>
      obtain ⟨x, rfl, HX, HX1, HBx, HTx, HUx⟩ := hrel
      have hX := HX.out
      have hx1 := HX1.out
      have hx9 : x ≤ 9 := by omega
      cases gk with
      | zero =>
        have hx : cl < x := by omega
        clear hX
        go_wp2_with fail
        refine (classes_T HTx.out).mono ?_
        rintro e w5 ⟨rfl, rfl⟩
        go_wp2
        go_ret
        exact ⟨rfl, HBx.out⟩
      | succ k1 =>
        have hx : x ≤ cl := by omega
        clear hX
        go_wp2_with fail
        refine (classes_T HTx.out).mono ?_
        rintro e w5 ⟨rfl, rfl⟩
        go_wp2_with fail
        refine (least_T HTx.out x).mono ?_
        rintro e w5 ⟨rfl, hb⟩
        have HB5 := Aside0.mk (below_next HBx.out hb)
        have HT5 := Aside0.mk (HTx.out.below hb)
        have HU5 := Aside0.mk (HUx.out.below hb)
        clear hb
        go_wp2_with fail
        refine (least_T HU5.out x).mono ?_
        rintro e w6 ⟨rfl, hb⟩
        have HB6 := Aside0.mk (below_next HB5.out hb)
        have HT6 := Aside0.mk (HT5.out.below hb)
        have HU6 := Aside0.mk (HU5.out.below hb)
        obtain ⟨q, hq⟩ : ∃ q, q = leastP l cl x := ⟨_, rfl⟩
        rw [← hq]
        have HQ := Aside0.mk hq
        clear hb hq
        obtain ⟨ok, hok⟩ : ∃ ok, ok = decide (0 < q) := ⟨_, rfl⟩
        have HOK := Aside0.mk hok
        rw [← hok]
        clear hok
        go_wp2
        obtain ⟨ko, rfl⟩ : ∃ ko, ko = k1 := ⟨_, rfl⟩
        go_loopg [14, 15, 16] (n + 2) (fun gk v14 v15 v16 wr => ∃ y : Int, v16 = .int .i64 y ∧ v15 = .bool false ∧ v14 = .bool (metP l cl x q y.toNat) ∧ Aside0 (y + (gk : Int) = (n : Int) + 1) ∧ Aside0 (-1 ≤ y) ∧ Aside0 (wr = w6))
        case atStart => exact ⟨-1, rfl, rfl, rfl, ⟨by omega⟩, ⟨by omega⟩, ⟨rfl⟩⟩
        case round =>
          obtain ⟨y, rfl, rfl, rfl, HY, HY1, HW⟩ := hrel
          have hw := HW.out
          subst hw
          have hY := HY.out
          have hy1 := HY1.out
          have hy17 : y ≤ 17 := by omega
          cases gk with
          | zero =>
            have hy : (n : Int) < y := by omega
            have hmet : metP l cl x q y.toNat = ok := by
              rw [HOK.out]
              have e : y.toNat = l.length + 1 := by have := HN.out; omega
              rw [e, metP, HQ.out, met_all HR.out]
              have : mayP l cl x (l.length : Int) = false := by simp [mayP]
              rw [this]
              simp
            rw [hmet]
            clear hY hmet
            go_wp2_with fail
            refine (kinds_T HT6.out).mono ?_
            rintro e w7 ⟨rfl, rfl⟩
            rw [HN.out]
            go_wp2
            go_roundg ko
            case measure => omega
            case rel => exact ⟨x + 1, by go_num, ⟨by have := HX.out; omega⟩, ⟨by omega⟩, HB6, HT6, HU6⟩
          | succ k2 =>
            have hy : y ≤ (n : Int) := by omega
            have HNx : Aside0 (metP l cl x q (y + 1).toNat = (metP l cl x q y.toNat || (mayP l cl x y && (costP l y == q)))) := ⟨by
              rcases Int.lt_or_le y 0 with h | h
              · have e : y = -1 := by omega
                subst e
                have : mayP l cl x (-1) = false := by
                  cases h : mayP l cl x (-1)
                  · rfl
                  · have := may_parts h; omega
                rw [this]
                rfl
              · obtain ⟨j, rfl⟩ := Int.eq_ofNat_of_zero_le h
                rw [show ((j : Int) + 1).toNat = j + 1 by omega, metP, Int.toNat_natCast]⟩
            obtain ⟨mt, hmt⟩ : ∃ mt, mt = metP l cl x q y.toNat := ⟨_, rfl⟩
            rw [← hmt] at HNx ⊢
            clear hY hmt
            go_wp2_with fail
            refine (kinds_T HT6.out).mono ?_
            rintro e w7 ⟨rfl, rfl⟩
            rw [HN.out]
            go_wp2_with fail
            refine (may_T HT6.out x y).mono ?_
            rintro e w7 ⟨rfl, rfl⟩
            go_wp2_with fail
            refine (may_T HU6.out x y).mono ?_
            rintro e w7 ⟨rfl, rfl⟩
            go_wp2_with fail
            refine (cost_T HT6.out y).mono ?_
            rintro e w7 ⟨rfl, rfl⟩
            go_wp2_with fail
            refine (cost_T HU6.out y).mono ?_
            rintro e w7 ⟨rfl, rfl⟩
            go_wp2_with fail
            refine (may_T HT6.out x y).mono ?_
            rintro e w7 ⟨rfl, rfl⟩
            cases hmay : mayP l cl x y
            · have HE : Aside0 (metP l cl x q (y + 1).toNat = mt) := ⟨by rw [HNx.out, hmay]; simp⟩
              clear hmay
              go_wp2
              go_roundg k2
              case measure => omega
              case rel => exact ⟨y + 1, by go_num, rfl, by rw [HE.out], ⟨by have := HY.out; omega⟩, ⟨by omega⟩, ⟨rfl⟩⟩
            · have hl := least_le HR.out hmay
              rw [← HQ.out] at hl
              obtain ⟨hl1, hl2⟩ := hl
              have hl3 : decide (costP l y < q) = false := decide_eq_false (by omega)
              have HL4 : Aside0 (Value.bool (!ok) = .bool false) := ⟨by rw [HOK.out, decide_eq_true hl1]; rfl⟩
              clear hl1
              have HE : Aside0 (metP l cl x q (y + 1).toNat = (mt || (costP l y == q))) := ⟨by rw [HNx.out, hmay]; simp⟩
              clear hmay
              cases mt
              · go_wp2_with fail
                refine (cost_T HT6.out y).mono ?_
                rintro e w7 ⟨rfl, rfl⟩
                go_wp2_with fail
                refine (cost_T HT6.out y).mono ?_
                rintro e w7 ⟨rfl, rfl⟩
                go_wp2
                go_roundg k2
                case measure => omega
                case rel => exact ⟨y + 1, by go_num, HL4.out, by rw [HE.out]; rfl, ⟨by have := HY.out; omega⟩, ⟨by omega⟩, ⟨rfl⟩⟩
              · go_wp2_with fail
                refine (cost_T HT6.out y).mono ?_
                rintro e w7 ⟨rfl, rfl⟩
                go_wp2
                go_roundg k2
                case measure => omega
                case rel => exact ⟨y + 1, by go_num, HL4.out, by rw [HE.out]; rfl, ⟨by have := HY.out; omega⟩, ⟨by omega⟩, ⟨rfl⟩⟩
end Go.Proofs.Ytlnchdelcadmoaa
