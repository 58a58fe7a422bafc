/- ReportTwice's walk. Conditions: the list reads as told. -/
import Derived.Test.YtmndgaibdcllgaaF4
import Derived.Test.YtmndgaibdcllgaaF5
namespace Go.Proofs.Ytmndgaibdcllgaa
open Go.RowKit Go.Proofs.YtmndgaibdcllgaaW.PrintWords Lb

section
variable {α : Type} (l : List α) (a b : Int)
theorem twice_same : (firstP (firstP l a).1 b).1 = (firstP l (if b < a then b else a)).1 := by
  unfold firstP
  simp only [List.take_take]
  congr 1
  split <;> omega
theorem twice_trunc : (firstP l (if b < a then b else a)).2 = ((firstP l a).2 || (firstP (firstP l a).1 b).2) := by
  unfold firstP
  simp only [List.length_take]
  rw [Bool.eq_iff_iff]
  simp only [Bool.or_eq_true, decide_eq_true_eq]
  split <;> omega
theorem twice_tells : (firstP l a).2 = decide ((if a < 0 then 0 else a) < (l.length : Int)) := by
  unfold firstP
  rw [Bool.eq_iff_iff]
  simp only [decide_eq_true_eq]
  split <;> omega
theorem twice_all (h : (firstP l a).2 = false) : (firstP l a).1 = l := by
  unfold firstP at *
  simp only [decide_eq_false_iff_not] at h
  rcases Nat.eq_zero_or_pos l.length with h0 | h0
  · rw [List.eq_nil_of_length_eq_zero h0]
    simp
  · exact List.take_of_length_le (by omega)
end

set_option maxHeartbeats 1500000 in
set_option maxRecDepth 100000 in
theorem twice_walk (w : World) (A : Option Addr) (c : Nat) (l : List ByteArray) (a b : Int) (hC : Kd.string.C w A l.length l) (hc : l.length ≤ c) (hmax : l.length ≤ 9223372036854775807) (ha0 : -9223372036854775808 ≤ a) (ha1 : a ≤ 9223372036854775807) (hb0 : -9223372036854775808 ≤ b) (hb1 : b ≤ 9223372036854775807) :
    Calls Try.prog 5 #[.slice A l.length c, .int .i64 a, .int .i64 b] w fun e w' => e = .returned (.bool true) ∧ Below w.heap.size w w' := by
  have HC := Aside0.mk hC
  have HCc := Aside0.mk hc
  have HM := Aside0.mk hmax
  clear hC hc hmax
  go_enter Try.func5, Try.ntmps5
  go_wp2_with fail
  refine (awake_yes _).mono ?_
  rintro e w1 ⟨rfl, hB⟩
  have HB1 := Aside0.mk hB
  have HL1 := Aside0.mk (C_list1 9 30 (Kd.C_below HC.out hB) HCc.out)
  clear hB
  go_wp2_with fail
  refine (great_any _ _ 1 [l] 1 rfl HL1.out (by omega) (fun x hx => by rw [List.mem_singleton.1 hx]; exact HM.out)).mono ?_
  rintro e w2 ⟨g, rfl, HG, rfl⟩
  have HB2 := Aside0.mk (below_alloc HB1.out (Obj.cells #[.slice A l.length c] 30))
  cases g with
  | true =>
    go_wp2
    go_ret
    exact ⟨rfl, HB2.out⟩
  | false =>
    have hsm := (HG.out rfl).2
    have hl : l.length ≤ 200 := by simpa using hsm
    clear HG hsm HL1
    go_wp2_with fail
    refine (first_str _ A c l _ rfl a (Kd.C_below HC.out HB2.out) HCc.out (by omega) ha0 ha1).mono ?_
    rintro e w2 ⟨v, rfl, hR, hB⟩
    obtain ⟨A2, n2, c2, hv, HN2, HL2, HC2, HR2⟩ := R_outN hR
    subst hv
    have HB3 := Aside0.mk (HB2.out.trans (hB.mono HB2.out.size))
    have hn2 : n2 ≤ 200 := by rw [HN2.out]; unfold firstP; simp only [List.length_take]; omega
    obtain ⟨t, ht⟩ : ∃ t, (firstP l a).2 = t := ⟨_, rfl⟩
    obtain ⟨x, hx⟩ : ∃ x, (firstP l a).1 = x := ⟨_, rfl⟩
    have HT := Aside0.mk ht
    have HX := Aside0.mk hx
    rw [hx] at HN2 HC2 HR2
    rw [ht]
    clear hR hB hx ht HB2
    go_wp2_with fail
    refine (first_str w2 A2 c2 x n2 HN2.out.symm b HC2.out (by rw [← HN2.out]; exact HL2.out) (by rw [← HN2.out]; omega) hb0 hb1).mono ?_
    rintro e w3 ⟨v, rfl, hR, hB⟩
    obtain ⟨A3, n3, c3, hv, HN3, HL3, HC3, HR3⟩ := R_outN hR
    subst hv
    have HB4 := Aside0.mk (HB3.out.trans (hB.mono HB3.out.size))
    have HC23 := Aside0.mk (Kd.C_below HC2.out hB)
    have hn3 : n3 ≤ 200 := by rw [HN3.out]; unfold firstP; simp only [List.length_take]; rw [← HN2.out]; omega
    obtain ⟨u, hu⟩ : ∃ t, (firstP x b).2 = t := ⟨_, rfl⟩
    obtain ⟨y, hy⟩ : ∃ y, (firstP x b).1 = y := ⟨_, rfl⟩
    have HU := Aside0.mk hu
    have HY := Aside0.mk hy
    rw [hy] at HN3 HC3 HR3
    rw [hu]
    clear hR hB hu hy HB3 HC2
    have HS := Aside0.mk ((twice_same l a b).symm.trans (by rw [HX.out, HY.out]))
    have HV := Aside0.mk ((twice_trunc l a b).trans (by rw [HX.out, HT.out, HU.out]))
    by_cases hba : b < a
    · rw [if_pos hba] at HS HV
      go_wp2_with fail
      refine (first_str w3 A c l _ rfl b (Kd.C_below HC.out HB4.out) HCc.out (by omega) hb0 hb1).mono ?_
      rintro e w4 ⟨v, rfl, hR, hB⟩
      rw [HS.out] at hR
      rw [HV.out]
      obtain ⟨A4, n4, c4, hv, HN4, HL4, HC4, HR4⟩ := R_outN hR
      subst hv
      have HB5 := Aside0.mk (HB4.out.trans (hB.mono HB4.out.size))
      have HC34 := Aside0.mk (Kd.C_below HC3.out hB)
      have HC24 := Aside0.mk (Kd.C_below HC23.out hB)
      have hn4 : n4 ≤ 200 := by rw [HN4.out, ← HN3.out]; exact hn3
      clear hR hB HS HV HB4 HC3 HC23
      go_wp2_with fail
      refine (same_any w4 A3 A4 c3 c4 y y n3 n4 HN3.out.symm HN4.out.symm (by omega) (by omega) HC34.out HC4.out).mono ?_
      rintro e w5 ⟨hr, hB⟩
      obtain rfl : e = .returned (.bool true) := by rw [hr, decide_eq_true rfl]
      have HB6 := Aside0.mk (HB5.out.trans (hB.mono HB5.out.size))
      have HC25 := Aside0.mk (Kd.C_below HC24.out hB)
      clear hr hB HB5 HC24 HC34 HC4
      by_cases hneg : a < 0
      · have ht := twice_tells l a
        rw [HT.out, if_pos hneg] at ht
        cases t with
        | true =>
          have h0 : (0 : Int) < (l.length : Int) := of_decide_eq_true ht.symm
          have hx0 : n2 = 0 := by rw [HN2.out, ← HX.out]; unfold firstP; rw [show a.toNat = 0 by omega]; rfl
          subst hx0
          clear ht
          cases u
          all_goals
            go_wp2
            go_ret
            exact ⟨rfl, HB6.out⟩
        | false =>
          have h0 : ¬ (0 : Int) < (l.length : Int) := of_decide_eq_false ht.symm
          have hxl : x = l := by rw [← HX.out]; exact twice_all l a HT.out
          obtain rfl : l = [] := List.eq_nil_of_length_eq_zero (by omega)
          subst hxl
          obtain rfl : n2 = 0 := HN2.out
          clear ht h0
          cases u
          all_goals
            go_wp2_with fail
            refine (same_any w5 A2 A c2 c [] [] 0 0 rfl rfl (by omega) (by omega) HC25.out (Kd.C_below HC.out HB6.out)).mono ?_
            rintro e w6 ⟨hr, hB⟩
            obtain rfl : e = .returned (.bool true) := by rw [hr, decide_eq_true rfl]
            have HB7 := Aside0.mk (HB6.out.trans (hB.mono HB6.out.size))
            clear hr hB
            go_wp2
            go_ret
            exact ⟨rfl, HB7.out⟩
      · have ht := twice_tells l a
        rw [HT.out, if_neg hneg] at ht
        cases t with
        | true =>
          have h0 : a < (l.length : Int) := of_decide_eq_true ht.symm
          have hx0 : (n2 : Int) = a := by rw [HN2.out, ← HX.out]; unfold firstP; simp only [List.length_take]; omega
          obtain ⟨a', rfl⟩ : ∃ a' : Nat, a = (a' : Int) := ⟨a.toNat, by omega⟩
          obtain rfl : n2 = a' := by omega
          clear ht hx0
          cases u
          all_goals
            go_wp2_with fail
            refine (first_str w5 A c l _ rfl ((n2 : Int) + 1) (Kd.C_below HC.out HB6.out) HCc.out (by omega) (by omega) (by omega)).mono ?_
            rintro e w6 ⟨v, rfl, hR, hB⟩
            obtain ⟨A7, n7, c7, hv, HN7, HL7, HC7, HR7⟩ := R_outN hR
            have hm : (firstP l ((n2 : Int) + 1)).1 = l.take (n2 + 1) := by unfold firstP; rfl
            rw [hm] at HN7 HC7
            have hL7 : (l.take (n2 + 1)).length = n2 + 1 := by rw [List.length_take]; omega
            obtain rfl : n7 = n2 + 1 := by rw [HN7.out, hL7]
            subst hv
            have HB7 := Aside0.mk (HB6.out.trans (hB.mono HB6.out.size))
            have HC26 := Aside0.mk (Kd.C_below HC25.out hB)
            obtain ⟨q, hq⟩ : ∃ q, (firstP l ((n2 : Int) + 1)).2 = q := ⟨_, rfl⟩
            rw [hq]
            obtain ⟨ad7, hA7, hc7⟩ := C_one ByteArray.empty HC7.out n2 (by rw [hL7]; omega)
            subst hA7
            obtain ⟨ad, hA, hcl⟩ := C_one ByteArray.empty (Kd.C_below HC.out HB7.out) n2 (by omega)
            subst hA
            have hge : (l.take (n2 + 1)).getD n2 ByteArray.empty = l.getD n2 ByteArray.empty := by
              simp only [List.getD_eq_getElem?_getD]
              rw [List.getElem?_take_of_lt (by omega)]
            rw [hge] at hc7
            obtain ⟨s, hs⟩ : ∃ s, l.getD n2 ByteArray.empty = s := ⟨_, rfl⟩
            rw [hs] at hc7 hcl
            obtain ⟨ie, hie, _⟩ := info_parts info9
            have hcut := cut_to (P := Try.prog) 30 9 .i64 Try.underlying30 hie (some ad7) (n2 + 1) c7 (n2 : Int) (by omega) (by omega) HL7.out
            rw [Int.toNat_natCast] at hcut
            have hC8 := Kd.C_take HC7.out (m := n2) (by rw [hL7]; omega)
            rw [List.take_take, show min n2 (n2 + 1) = n2 by omega] at hC8
            have hX2 : x = l.take n2 := by rw [← HX.out]; unfold firstP; rfl
            have HC8 := Aside0.mk hC8
            have HX2 := Aside0.mk hX2
            have HTk := Aside0.mk (show (l.take n2).length = n2 by rw [List.length_take]; omega)
            have hi0 : (0 : Int) ≤ (n2 : Int) := by omega
            have hi1 : (n2 : Int) < (n2 : Int) + 1 := by omega
            have hi2 : (n2 : Int) < (l.length : Int) := h0
            clear hR hB hm hL7 hq hge hs hie hC8 hX2
            go_wp2
            go_quiet ((go_at_call 13; refine Calls.quiet_of (((same_quiet _ (some ad7) A2 c7 c2 (l.take n2) x n2 n2 HTk.out HN2.out.symm (by omega) (by omega) (Kd.C_drewN HC8.out _) (Kd.C_drewN HC26.out _))).mono fun e w' ⟨he, hw⟩ => ⟨by rw [he, decide_eq_true HX2.out.symm], hw⟩)))
            go_wp2
            go_ret
            exact ⟨rfl, pw_below_drewN HB7.out _⟩
        | false =>
          have h0 : ¬ a < (l.length : Int) := of_decide_eq_false ht.symm
          have hxl : x = l := by rw [← HX.out]; exact twice_all l a HT.out
          clear ht
          cases u
          all_goals
            go_wp2_with fail
            refine (same_any w5 A2 A c2 c x l n2 _ HN2.out.symm rfl (by omega) (by omega) HC25.out (Kd.C_below HC.out HB6.out)).mono ?_
            rintro e w6 ⟨hr, hB⟩
            obtain rfl : e = .returned (.bool true) := by rw [hr, decide_eq_true hxl]
            have HB7 := Aside0.mk (HB6.out.trans (hB.mono HB6.out.size))
            have HXL := Aside0.mk hxl
            obtain rfl : n2 = l.length := (by have := HN2.out; rw [hxl] at this; omega)
            clear hr hB hxl
            by_cases hz : (l.length : Int) = 0
            · have hz1 : ((l.length : Int) == 0) = true := beq_iff_eq.2 hz
              clear hz
              go_wp2
              go_ret
              exact ⟨ret_bool (by simp), HB7.out⟩
            · have hz1 : ((l.length : Int) == 0) = false := beq_eq_false_iff_ne.2 hz
              clear hz
              go_wp2
              go_ret
              exact ⟨ret_bool (by simp), HB7.out⟩
    · rw [if_neg hba] at HS HV
      go_wp2_with fail
      refine (first_str w3 A c l _ rfl a (Kd.C_below HC.out HB4.out) HCc.out (by omega) ha0 ha1).mono ?_
      rintro e w4 ⟨v, rfl, hR, hB⟩
      rw [HS.out] at hR
      rw [HV.out]
      obtain ⟨A4, n4, c4, hv, HN4, HL4, HC4, HR4⟩ := R_outN hR
      subst hv
      have HB5 := Aside0.mk (HB4.out.trans (hB.mono HB4.out.size))
      have HC34 := Aside0.mk (Kd.C_below HC3.out hB)
      have HC24 := Aside0.mk (Kd.C_below HC23.out hB)
      have hn4 : n4 ≤ 200 := by rw [HN4.out, ← HN3.out]; exact hn3
      clear hR hB HS HV HB4 HC3 HC23
      go_wp2_with fail
      refine (same_any w4 A3 A4 c3 c4 y y n3 n4 HN3.out.symm HN4.out.symm (by omega) (by omega) HC34.out HC4.out).mono ?_
      rintro e w5 ⟨hr, hB⟩
      obtain rfl : e = .returned (.bool true) := by rw [hr, decide_eq_true rfl]
      have HB6 := Aside0.mk (HB5.out.trans (hB.mono HB5.out.size))
      have HC25 := Aside0.mk (Kd.C_below HC24.out hB)
      clear hr hB HB5 HC24 HC34 HC4
      by_cases hneg : a < 0
      · have ht := twice_tells l a
        rw [HT.out, if_pos hneg] at ht
        cases t with
        | true =>
          have h0 : (0 : Int) < (l.length : Int) := of_decide_eq_true ht.symm
          have hx0 : n2 = 0 := by rw [HN2.out, ← HX.out]; unfold firstP; rw [show a.toNat = 0 by omega]; rfl
          subst hx0
          clear ht
          cases u
          all_goals
            go_wp2
            go_ret
            exact ⟨rfl, HB6.out⟩
        | false =>
          have h0 : ¬ (0 : Int) < (l.length : Int) := of_decide_eq_false ht.symm
          have hxl : x = l := by rw [← HX.out]; exact twice_all l a HT.out
          obtain rfl : l = [] := List.eq_nil_of_length_eq_zero (by omega)
          subst hxl
          obtain rfl : n2 = 0 := HN2.out
          clear ht h0
          cases u
          all_goals
            go_wp2_with fail
            refine (same_any w5 A2 A c2 c [] [] 0 0 rfl rfl (by omega) (by omega) HC25.out (Kd.C_below HC.out HB6.out)).mono ?_
            rintro e w6 ⟨hr, hB⟩
            obtain rfl : e = .returned (.bool true) := by rw [hr, decide_eq_true rfl]
            have HB7 := Aside0.mk (HB6.out.trans (hB.mono HB6.out.size))
            clear hr hB
            go_wp2
            go_ret
            exact ⟨rfl, HB7.out⟩
      · have ht := twice_tells l a
        rw [HT.out, if_neg hneg] at ht
        cases t with
        | true =>
          have h0 : a < (l.length : Int) := of_decide_eq_true ht.symm
          have hx0 : (n2 : Int) = a := by rw [HN2.out, ← HX.out]; unfold firstP; simp only [List.length_take]; omega
          obtain ⟨a', rfl⟩ : ∃ a' : Nat, a = (a' : Int) := ⟨a.toNat, by omega⟩
          obtain rfl : n2 = a' := by omega
          clear ht hx0
          cases u
          all_goals
            go_wp2_with fail
            refine (first_str w5 A c l _ rfl ((n2 : Int) + 1) (Kd.C_below HC.out HB6.out) HCc.out (by omega) (by omega) (by omega)).mono ?_
            rintro e w6 ⟨v, rfl, hR, hB⟩
            obtain ⟨A7, n7, c7, hv, HN7, HL7, HC7, HR7⟩ := R_outN hR
            have hm : (firstP l ((n2 : Int) + 1)).1 = l.take (n2 + 1) := by unfold firstP; rfl
            rw [hm] at HN7 HC7
            have hL7 : (l.take (n2 + 1)).length = n2 + 1 := by rw [List.length_take]; omega
            obtain rfl : n7 = n2 + 1 := by rw [HN7.out, hL7]
            subst hv
            have HB7 := Aside0.mk (HB6.out.trans (hB.mono HB6.out.size))
            have HC26 := Aside0.mk (Kd.C_below HC25.out hB)
            obtain ⟨q, hq⟩ : ∃ q, (firstP l ((n2 : Int) + 1)).2 = q := ⟨_, rfl⟩
            rw [hq]
            obtain ⟨ad7, hA7, hc7⟩ := C_one ByteArray.empty HC7.out n2 (by rw [hL7]; omega)
            subst hA7
            obtain ⟨ad, hA, hcl⟩ := C_one ByteArray.empty (Kd.C_below HC.out HB7.out) n2 (by omega)
            subst hA
            have hge : (l.take (n2 + 1)).getD n2 ByteArray.empty = l.getD n2 ByteArray.empty := by
              simp only [List.getD_eq_getElem?_getD]
              rw [List.getElem?_take_of_lt (by omega)]
            rw [hge] at hc7
            obtain ⟨s, hs⟩ : ∃ s, l.getD n2 ByteArray.empty = s := ⟨_, rfl⟩
            rw [hs] at hc7 hcl
            obtain ⟨ie, hie, _⟩ := info_parts info9
            have hcut := cut_to (P := Try.prog) 30 9 .i64 Try.underlying30 hie (some ad7) (n2 + 1) c7 (n2 : Int) (by omega) (by omega) HL7.out
            rw [Int.toNat_natCast] at hcut
            have hC8 := Kd.C_take HC7.out (m := n2) (by rw [hL7]; omega)
            rw [List.take_take, show min n2 (n2 + 1) = n2 by omega] at hC8
            have hX2 : x = l.take n2 := by rw [← HX.out]; unfold firstP; rfl
            have HC8 := Aside0.mk hC8
            have HX2 := Aside0.mk hX2
            have HTk := Aside0.mk (show (l.take n2).length = n2 by rw [List.length_take]; omega)
            have hi0 : (0 : Int) ≤ (n2 : Int) := by omega
            have hi1 : (n2 : Int) < (n2 : Int) + 1 := by omega
            have hi2 : (n2 : Int) < (l.length : Int) := h0
            clear hR hB hm hL7 hq hge hs hie hC8 hX2
            go_wp2
            go_quiet ((go_at_call 13; refine Calls.quiet_of (((same_quiet _ (some ad7) A2 c7 c2 (l.take n2) x n2 n2 HTk.out HN2.out.symm (by omega) (by omega) (Kd.C_drewN HC8.out _) (Kd.C_drewN HC26.out _))).mono fun e w' ⟨he, hw⟩ => ⟨by rw [he, decide_eq_true HX2.out.symm], hw⟩)))
            go_wp2
            go_ret
            exact ⟨rfl, pw_below_drewN HB7.out _⟩
        | false =>
          have h0 : ¬ a < (l.length : Int) := of_decide_eq_false ht.symm
          have hxl : x = l := by rw [← HX.out]; exact twice_all l a HT.out
          clear ht
          cases u
          all_goals
            go_wp2_with fail
            refine (same_any w5 A2 A c2 c x l n2 _ HN2.out.symm rfl (by omega) (by omega) HC25.out (Kd.C_below HC.out HB6.out)).mono ?_
            rintro e w6 ⟨hr, hB⟩
            obtain rfl : e = .returned (.bool true) := by rw [hr, decide_eq_true hxl]
            have HB7 := Aside0.mk (HB6.out.trans (hB.mono HB6.out.size))
            have HXL := Aside0.mk hxl
            obtain rfl : n2 = l.length := (by have := HN2.out; rw [hxl] at this; omega)
            clear hr hB hxl
            by_cases hz : (l.length : Int) = 0
            · have hz1 : ((l.length : Int) == 0) = true := beq_iff_eq.2 hz
              clear hz
              go_wp2
              go_ret
              exact ⟨ret_bool (by simp), HB7.out⟩
            · have hz1 : ((l.length : Int) == 0) = false := beq_eq_false_iff_ne.2 hz
              clear hz
              go_wp2
              go_ret
              exact ⟨ret_bool (by simp), HB7.out⟩
end Go.Proofs.Ytmndgaibdcllgaa
