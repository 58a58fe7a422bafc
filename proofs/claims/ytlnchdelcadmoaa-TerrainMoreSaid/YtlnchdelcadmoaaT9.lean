/- Least costs by what they are; TerrainSwaps's walk. Conditions: a list of kinds, any number of classes. -/
import Derived.Test.YtlnchdelcadmoaaT6
namespace Go.Proofs.Ytlnchdelcadmoaa
open Go.RowKit Go.Proofs.YtlnchdelcadmoaaW.PrintWords Go.Proofs.YtlnchdelcadmoaaW.PrintLast Go.Proofs.YtlnchdelcadmoaaW.PrintMore Lb

/-- n is the least cost for class c. -/
def Lc (l : List Kind) (c : Nat) (n : Int) : Prop :=
  (n = 0 ∧ ∀ k ∈ l, bit k.mask c = false) ∨ (n ≠ 0 ∧ (∃ k ∈ l, bit k.mask c = true ∧ k.cost = n) ∧ ∀ k ∈ l, bit k.mask c = true → n ≤ k.cost)
theorem leastC_char (l : List Kind) (c : Nat) (h : ∀ k ∈ l, 1 ≤ k.cost) : ∀ i, i ≤ l.length → Lc (l.take i) c (leastC (l.take i) c)
  | 0, _ => .inl ⟨by simp [leastC], fun k hk => by simp at hk⟩
  | i + 1, hi => by
    have ih := leastC_char l c h i (by omega)
    rw [leastC_take (by omega)]
    have e : l.take (i + 1) = l.take i ++ [kAt l i] := by
      rw [List.take_succ_eq_append_getElem (by omega)]
      simp [kAt, show i < l.length by omega]
    have hk1 : 1 ≤ (kAt l i).cost := h _ (List.mem_of_getElem? (kAt_some (by omega)))
    generalize leastC (l.take i) c = n at ih
    rw [e]
    generalize kAt l i = K at hk1
    unfold lstep
    by_cases hb : bit K.mask c = true
    · by_cases hs : n = 0 ∨ K.cost < n
      · rw [if_pos ⟨hb, hs⟩]
        refine .inr ⟨by omega, ⟨K, by simp, hb, rfl⟩, fun k hk hkb => ?_⟩
        rcases List.mem_append.1 hk with hk | hk
        · rcases ih with ⟨_, ih2⟩ | ⟨ih1, _, ih3⟩
          · rw [ih2 k hk] at hkb; cases hkb
          · have := ih3 k hk hkb
            omega
        · simp at hk
          subst hk
          omega
      · rw [if_neg (fun e => hs e.2)]
        rcases ih with ⟨ih1, _⟩ | ⟨ih1, ⟨k0, hk0, hb0, he0⟩, ih3⟩
        · exact absurd (.inl ih1) hs
        · refine .inr ⟨ih1, ⟨k0, by simp [hk0], hb0, he0⟩, fun k hk hkb => ?_⟩
          rcases List.mem_append.1 hk with hk | hk
          · exact ih3 k hk hkb
          · simp at hk
            subst hk
            omega
    · rw [if_neg (fun e => hb e.1)]
      rcases ih with ⟨ih1, ih2⟩ | ⟨ih1, ⟨k0, hk0, hb0, he0⟩, ih3⟩
      · refine .inl ⟨ih1, fun k hk => ?_⟩
        rcases List.mem_append.1 hk with hk | hk
        · exact ih2 k hk
        · simp at hk
          subst hk
          simpa using hb
      · refine .inr ⟨ih1, ⟨k0, by simp [hk0], hb0, he0⟩, fun k hk hkb => ?_⟩
        rcases List.mem_append.1 hk with hk | hk
        · exact ih3 k hk hkb
        · simp at hk
          subst hk
          exact absurd hkb hb
theorem leastC_is (l : List Kind) (c : Nat) (h : ∀ k ∈ l, 1 ≤ k.cost) : Lc l c (leastC l c) := by
  have := leastC_char l c h l.length (Nat.le_refl _)
  rwa [List.take_length] at this
theorem Lc_uniq {l m : List Kind} {c : Nat} {n p : Int} (h : Lc l c n) (k : Lc m c p) (e : ∀ x, x ∈ l ↔ x ∈ m) : n = p := by
  rcases h with ⟨h1, h2⟩ | ⟨h1, ⟨x, hx, hxb, hxc⟩, h3⟩ <;> rcases k with ⟨k1, k2⟩ | ⟨k1, ⟨y, hy, hyb, hyc⟩, k3⟩
  · omega
  · have := h2 y ((e y).2 hy)
    rw [hyb] at this; cases this
  · have := k2 x ((e x).1 hx)
    rw [hxb] at this; cases this
  · have a := h3 y ((e y).2 hy) hyb
    have b := k3 x ((e x).1 hx) hxb
    omega
theorem right_cost {l : List Kind} {cl : Int} (h : rightP l cl = true) : ∀ k ∈ l, 1 ≤ k.cost := fun k hk => (okK_parts ((right_parts h).2.2.2.2 k hk)).1
theorem right_rev (l : List Kind) (cl : Int) : rightP l.reverse cl = rightP l cl := by simp [rightP]
theorem least_rev {l : List Kind} {cl : Int} (h : rightP l cl = true) (x : Int) : leastP l.reverse cl x = leastP l cl x := by
  unfold leastP
  rw [Lc_uniq (leastC_is l.reverse x.toNat (fun k hk => right_cost h k (List.mem_reverse.1 hk))) (leastC_is l x.toNat (right_cost h)) (fun k => List.mem_reverse)]
theorem kAt_rev {l : List Kind} {i j : Nat} (hi : i < l.length) (hj : j = l.length - 1 - i) : kAt l.reverse j = kAt l i := by
  unfold kAt
  rw [List.getD_eq_getElem?_getD, List.getD_eq_getElem?_getD, List.getElem?_reverse (by omega)]
  congr 2
  omega
theorem may_rev {l : List Kind} {cl x : Int} {i j : Nat} (hi : i < l.length) (hj : j = l.length - 1 - i) : mayP l.reverse cl x (j : Int) = mayP l cl x (i : Int) := by
  have h1 : (j : Int) < (l.length : Int) := by omega
  have h2 : (i : Int) < (l.length : Int) := by omega
  simp [mayP, h2, kAt_rev hi hj, show j < l.length by omega]
theorem cost_rev {l : List Kind} {i j : Nat} (hi : i < l.length) (hj : j = l.length - 1 - i) : costP l.reverse (j : Int) = costP l (i : Int) := by
  unfold costP
  rw [if_pos ⟨by omega, by rw [List.length_reverse]; omega⟩, if_pos ⟨by omega, by omega⟩, Int.toNat_natCast, Int.toNat_natCast, kAt_rev hi hj]

set_option maxRecDepth 100000 in
set_option maxHeartbeats 4000000 in
theorem swaps_walk (w : World) (A : Option Addr) (c : Nat) (l : List Kind) (cl : Int) (hC : kdK.C w A l.length l) (hm : ∀ k ∈ l, k.mask < 256) : Calls Try.prog 9 #[.slice A l.length c, .int .i64 cl] w fun e w' => e = .returned (.bool true) ∧ Below w.heap.size w w' := by
  have hmax : (l.length : Int) ≤ 9223372036854775807 := by have := hC.2.1; unfold maxLen at this; omega
  have HCl := Aside0.mk hC
  have HM := Aside0.mk hm
  obtain ⟨n, hn⟩ : ∃ n, l.length = n := ⟨_, rfl⟩
  have HN := Aside0.mk hn
  rw [hn] at hmax ⊢
  have HCn : Aside0 (kdK.C w A n l) := ⟨by rw [← hn]; exact hC⟩
  clear hC hm
  go_enter Try.func9, Try.ntmps9
  go_wp2_with fail
  refine (awake_yes _).mono ?_
  rintro e w1 ⟨rfl, hb⟩
  have HB1 := Aside0.mk hb
  clear hb
  by_cases h16 : (16 : Int) < (n : Int)
  · clear hn
    go_wp2
    go_ret
    exact ⟨rfl, HB1.out⟩
  have h16' : (n : Int) ≤ 16 := by omega
  clear h16 hn
  go_wp2
  go_loopg [5, 6] n (fun gk v5 v6 wr => ∃ (j n5 c5 : Nat) (z : Int) (A5 : Option Addr) (H : Nat → Prop), v6 = .int .i64 z ∧ v5 = .slice A5 n5 c5 ∧ Aside0 (j + gk = n) ∧ Aside0 (z = (n : Int) - 1 - (j : Int)) ∧ Aside0 (n5 = j) ∧ Aside0 (kdK.R 29 wr 0 H (.slice A5 n5 c5) (l.reverse.take j)) ∧ Aside0 (∀ k, H k → w.heap.size ≤ k) ∧ Aside0 (Below w.heap.size w wr))
  case atStart => exact ⟨0, 0, 0, _, none, fun _ => False, rfl, rfl, ⟨by omega⟩, ⟨by omega⟩, ⟨rfl⟩, ⟨by rw [List.take_zero]; exact Kd.R_nil _ _ _ _ _⟩, ⟨fun _ e => e.elim⟩, HB1⟩
  case round =>
    obtain ⟨j, n5, c5, z, A5, H, rfl, rfl, HJ, HZ, HN5, HR, HH, HB⟩ := hrel
    have hJ := HJ.out
    cases gk with
    | succ k1 =>
      have hz := HZ.out
      obtain ⟨k, rfl⟩ := Int.eq_ofNat_of_zero_le (show 0 ≤ z by omega)
      have hk : (k : Int) < (n : Int) := by omega
      have hk16 : (k : Int) ≤ 16 := by omega
      obtain ⟨g, o, rfl, a0, a1⟩ := kind_at (Kd.C_below HCn.out HB.out) k (by omega)
      have HX : Aside0 (l.reverse.take (j + 1) = l.reverse.take j ++ [kAt l k]) := ⟨by
        have hjn : j < l.reverse.length := by rw [List.length_reverse]; have := HN.out; omega
        rw [List.take_succ_eq_append_getElem hjn]
        congr 2
        have := kAt_rev (l := l) (i := k) (j := j) (by have := HN.out; omega) (by have := HN.out; omega)
        rw [← this]
        simp [kAt, show j < l.length by have := HN.out; omega]⟩
      clear hJ hz
      go_wp2_with ((with_reducible refine gate_builtin (b := .append) (xs := #[.tmp 29, .tmp 34]) rfl ?_); at_builtin; go_must (refine R_push kdK (W := wr) 0 H rfl (.tmp 29) (.tmp 34) 22 29 (.agg #[.int .i64 0, .int .u8 0]) 16 rfl Try.underlying22 info29 rfl (by decide) (by omega) (.slice A5 n5 c5) (l.reverse.take j) (kAt l k) [.int .i64 (kAt l k).cost, .int .u8 ((kAt l k).mask : Int)] (fun _ => False) rfl rfl rfl (fun _ h => h.elim) HR.out (Nat.zero_le _) (by rw [List.length_take]; have := HJ.out; omega) ?_; intro v1 w4 F4 hR hlt hnew hC; obtain ⟨A4, n4, c4, hv, HN4, _, _, HR4⟩ := R_outN hR; subst hv; have HX4 := Aside0.mk hC; have HW4 := Aside0.mk hnew; clear hR hlt hnew hC))
      go_roundg k1
      case measure => omega
      case rel =>
        refine ⟨j + 1, n4, c4, (k : Int) - 1, A4, F4, by go_num, rfl, ⟨by have := HJ.out; omega⟩, ⟨by have := HZ.out; omega⟩, ⟨by rw [HN4.out, List.length_append, List.length_take, List.length_reverse]; have := HN.out; have := HJ.out; simp; omega⟩, ⟨?_⟩, ⟨fun k hk => (HW4.out k hk).elim (fun e => HH.out k e) (fun e => Nat.le_trans HB.out.size e)⟩, ⟨HB.out.trans (HX4.out.below HB.out.size HH.out)⟩⟩
        rw [HX.out]
        exact HR4.out
    | zero =>
      have hz := HZ.out
      have hzn : z < 0 := by omega
      have HRv : Aside0 (kdK.C wr A5 n l.reverse) := ⟨by
        have h1 := (Kd.R_reads' HR.out).2.2
        rw [List.take_of_length_le (by rw [List.length_reverse]; have := HN.out; omega), List.length_reverse, HN.out] at h1
        exact h1⟩
      have hn5 : n5 = n := by have := HN5.out; omega
      subst hn5
      have HMr : Aside0 (∀ k ∈ l.reverse, k.mask < 256) := ⟨fun k hk => HM.out k (List.mem_reverse.1 hk)⟩
      have HNr : Aside0 (l.reverse.length = n5) := ⟨by rw [List.length_reverse, HN.out]⟩
      clear hJ hz HR HH
      go_wp2_with fail
      cases hr : rightP l cl
      · have HR := Aside0.mk hr
        have HR2 : Aside0 (rightP l.reverse cl = false) := ⟨by rw [right_rev, hr]⟩
        clear hr
        refine (new_no (Kd.C_below HCn.out HB.out) HN.out HM.out HR.out).mono ?_
        rintro e w2 ⟨rfl, hb⟩
        have HB2 := Aside0.mk (below_next HB.out hb)
        have HC2 := Aside0.mk (Kd.C_below HRv.out hb)
        clear hb
        go_wp2_with fail
        refine (new_no HC2.out HNr.out HMr.out HR2.out).mono ?_
        rintro e w3 ⟨rfl, hb⟩
        have HB3 := Aside0.mk (below_next HB2.out hb)
        clear hb
        go_wp2
        go_loopg [11] 8 (fun gk v wr => ∃ x : Nat, v = .int .i64 (x : Int) ∧ Aside0 (x + gk = 8) ∧ Aside0 (Below w.heap.size w wr))
        case atStart => exact ⟨0, rfl, ⟨rfl⟩, HB3⟩
        case round =>
          obtain ⟨x, rfl, HX, HBx⟩ := hrel
          have hX := HX.out
          cases gk with
          | zero =>
            have hx : (8 : Int) ≤ (x : Int) := by omega
            clear hX
            go_wp2
            go_ret
            exact ⟨rfl, HBx.out⟩
          | succ k1 =>
            have hx : (x : Int) < 8 := by omega
            clear hX
            go_wp2_with fail
            refine (least_nil _ (x : Int)).mono ?_
            rintro e w4 ⟨rfl, rfl⟩
            go_wp2_with fail
            refine (least_nil _ (x : Int)).mono ?_
            rintro e w4 ⟨rfl, rfl⟩
            go_wp2
            obtain ⟨wo, rfl⟩ : ∃ wo, wo = wr := ⟨_, rfl⟩
            obtain ⟨ko, rfl⟩ : ∃ ko, ko = k1 := ⟨_, rfl⟩
            go_loopg [16] n5 (fun gk v wr => ∃ y : Nat, v = .int .i64 (y : Int) ∧ Aside0 (y + gk = n5) ∧ Aside0 (wr = wo))
            case atStart => exact ⟨0, rfl, ⟨by omega⟩, ⟨rfl⟩⟩
            case round =>
              obtain ⟨y, rfl, HY, HW⟩ := hrel
              have hw := HW.out
              subst hw
              have hY := HY.out
              cases gk with
              | zero =>
                have hy : (n5 : Int) ≤ (y : Int) := by omega
                clear hY
                go_wp2
                go_roundg ko
                case measure => omega
                case rel => exact ⟨x + 1, by go_num, ⟨by have := HX.out; omega⟩, HBx⟩
              | succ k2 =>
                have hy : (y : Int) < (n5 : Int) := by omega
                obtain ⟨j, hj⟩ : ∃ j : Nat, (n5 : Int) - 1 - (y : Int) = (j : Int) := ⟨n5 - 1 - y, by omega⟩
                clear hY
                go_wp2_with fail
                refine (may_nil _ (x : Int) (y : Int)).mono ?_
                rintro e w4 ⟨rfl, rfl⟩
                go_wp2_with fail
                refine (may_nil _ (x : Int) _).mono ?_
                rintro e w4 ⟨rfl, rfl⟩
                go_wp2_with fail
                refine (cost_nil _ (y : Int)).mono ?_
                rintro e w4 ⟨rfl, rfl⟩
                go_wp2_with fail
                refine (cost_nil _ _).mono ?_
                rintro e w4 ⟨rfl, rfl⟩
                go_wp2
                go_roundg k2
                case measure => omega
                case rel => exact ⟨y + 1, by go_num, ⟨by have := HY.out; omega⟩, ⟨rfl⟩⟩
      · have HR := Aside0.mk hr
        have HR2 : Aside0 (rightP l.reverse cl = true) := ⟨by rw [right_rev, hr]⟩
        clear hr
        refine (new_yes (Kd.C_below HCn.out HB.out) HN.out HM.out HR.out).mono ?_
        rintro e w2 ⟨b, F, rfl, hT, hF, hb⟩
        have HB2 := Aside0.mk (below_next HB.out hb)
        have HC2 := Aside0.mk (Kd.C_below HRv.out hb)
        have HT2 := Aside0.mk hT
        clear hb hT hF
        go_wp2_with fail
        refine (new_yes HC2.out HNr.out HMr.out HR2.out).mono ?_
        rintro e w3 ⟨b2, F2, rfl, hT, hF, hb⟩
        have HB3 := Aside0.mk (below_next HB2.out hb)
        have HT3 := Aside0.mk (HT2.out.below hb)
        have HU3 := Aside0.mk hT
        clear hb hT hF
        go_wp2
        go_loopg [11] 8 (fun gk v wr => ∃ x : Nat, v = .int .i64 (x : Int) ∧ Aside0 (x + gk = 8) ∧ Aside0 (Below w.heap.size w wr) ∧ Aside0 (TabO wr F b l cl) ∧ Aside0 (TabO wr F2 b2 l.reverse cl))
        case atStart => exact ⟨0, rfl, ⟨rfl⟩, HB3, HT3, HU3⟩
        case round =>
          obtain ⟨x, rfl, HX, HBx, HTx, HUx⟩ := hrel
          have hX := HX.out
          cases gk with
          | zero =>
            have hx : (8 : Int) ≤ (x : Int) := by omega
            clear hX
            go_wp2
            go_ret
            exact ⟨rfl, HBx.out⟩
          | succ k1 =>
            have hx : (x : Int) < 8 := by omega
            clear hX
            go_wp2_with fail
            refine (least_T HTx.out (x : Int)).mono ?_
            rintro e w4 ⟨rfl, hb⟩
            have HB4 := Aside0.mk (below_next HBx.out hb)
            have HT4 := Aside0.mk (HTx.out.below hb)
            have HU4 := Aside0.mk (HUx.out.below hb)
            clear hb
            go_wp2_with fail
            refine (least_T HU4.out (x : Int)).mono ?_
            rintro e w5 ⟨rfl, hb⟩
            rw [least_rev HR.out]
            have HB5 := Aside0.mk (below_next HB4.out hb)
            have HT5 := Aside0.mk (HT4.out.below hb)
            have HU5 := Aside0.mk (HU4.out.below hb)
            clear hb
            generalize leastP l cl (x : Int) = q
            go_wp2
            obtain ⟨ko, rfl⟩ : ∃ ko, ko = k1 := ⟨_, rfl⟩
            go_loopg [16] n5 (fun gk v wr => ∃ y : Nat, v = .int .i64 (y : Int) ∧ Aside0 (y + gk = n5) ∧ Aside0 (wr = w5))
            case atStart => exact ⟨0, rfl, ⟨by omega⟩, ⟨rfl⟩⟩
            case round =>
              obtain ⟨y, rfl, HY, HW⟩ := hrel
              have hw := HW.out
              subst hw
              have hY := HY.out
              cases gk with
              | zero =>
                have hy : (n5 : Int) ≤ (y : Int) := by omega
                clear hY
                go_wp2
                go_roundg ko
                case measure => omega
                case rel => exact ⟨x + 1, by go_num, ⟨by have := HX.out; omega⟩, HB5, HT5, HU5⟩
              | succ k2 =>
                have hy : (y : Int) < (n5 : Int) := by omega
                obtain ⟨j, hj⟩ : ∃ j : Nat, (n5 : Int) - 1 - (y : Int) = (j : Int) := ⟨n5 - 1 - y, by omega⟩
                have HYl : Aside0 (y < l.length) := ⟨by have := HN.out; omega⟩
                have HJ2 : Aside0 (j = l.length - 1 - y) := ⟨by have := HN.out; omega⟩
                clear hY
                go_wp2_with fail
                refine (may_T HT5.out (x : Int) (y : Int)).mono ?_
                rintro e w4 ⟨rfl, rfl⟩
                go_wp2_with fail
                refine (may_T HU5.out (x : Int) (j : Int)).mono ?_
                rintro e w4 ⟨rfl, rfl⟩
                rw [may_rev HYl.out HJ2.out]
                go_wp2_with fail
                refine (cost_T HT5.out (y : Int)).mono ?_
                rintro e w4 ⟨rfl, rfl⟩
                go_wp2_with fail
                refine (cost_T HU5.out (j : Int)).mono ?_
                rintro e w4 ⟨rfl, rfl⟩
                rw [cost_rev HYl.out HJ2.out]
                clear hj
                go_wp2
                go_roundg k2
                case measure => omega
                case rel => exact ⟨y + 1, by go_num, ⟨by have := HY.out; omega⟩, ⟨rfl⟩⟩
end Go.Proofs.Ytlnchdelcadmoaa
