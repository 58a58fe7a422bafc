/- TerrainBits's walk. Conditions: a list of kinds, any number of classes. -/
import Derived.Test.YtlnchdelcadmoaaT6
namespace Go.Proofs.Ytlnchdelcadmoaa
open Go.RowKit Go.Proofs.YtlnchdelcadmoaaW.PrintWords Go.Proofs.YtlnchdelcadmoaaW.PrintLast Go.Proofs.YtlnchdelcadmoaaW.PrintMore Lb

theorem mod_step (m c : Nat) : m % 2 ^ (c + 1) = m % 2 ^ c + if bit m c = true then 2 ^ c else 0 := by
  rw [Nat.pow_succ, Nat.mod_mul, bit]
  have h := Nat.mod_two_eq_zero_or_one (m / 2 ^ c)
  rcases h with h | h
  · rw [h]; simp
  · rw [h]; simp
theorem may_bit {l : List Kind} {cl : Int} (h : rightP l cl = true) {c k : Nat} (hk : k < l.length) : mayP l cl (c : Int) (k : Int) = bit (kAt l k).mask c := by
  obtain ⟨_, _, h1, h8, hall⟩ := right_parts h
  by_cases hc : (c : Int) < cl
  · simp [mayP, hc, hk]
  · have hm := (okK_parts (hall _ (List.mem_of_getElem? (kAt_some hk)))).2.2
    rw [mask_bit hm (by omega)]
    simp [mayP, hc]
set_option maxRecDepth 100000 in
set_option maxHeartbeats 4000000 in
theorem bits_walk (w : World) (A : Option Addr) (c : Nat) (l : List Kind) (cl : Int) (hC : kdK.C w A l.length l) (hm : ∀ k ∈ l, k.mask < 256) : Calls Try.prog 8 #[.slice A l.length c, .int .i64 cl] w fun e w' => e = .returned (.bool true) ∧ Below w.heap.size w w' := by
  have hmax : (l.length : Int) ≤ 9223372036854775807 := by have := hC.2.1; unfold maxLen at this; omega
  have HCl := Aside0.mk hC
  have HM := Aside0.mk hm
  obtain ⟨n, hn⟩ : ∃ n, l.length = n := ⟨_, rfl⟩
  have HN := Aside0.mk hn
  rw [hn] at hmax ⊢
  clear hC hm
  go_enter Try.func8, Try.ntmps8
  go_wp2_with fail
  refine (awake_yes _).mono ?_
  rintro e w1 ⟨rfl, hb⟩
  have HB1 := Aside0.mk hb
  clear hb
  by_cases h100 : (100 : Int) < (n : Int)
  · clear hn
    go_wp2
    go_ret
    exact ⟨rfl, HB1.out⟩
  have h100' : (n : Int) ≤ 100 := by omega
  clear h100 hn
  go_wp2_with fail
  cases hr : rightP l cl
  · have HR := Aside0.mk hr
    clear hr
    refine (new_no (Kd.C_below (by rw [← HN.out]; exact HCl.out) HB1.out) HN.out HM.out HR.out).mono ?_
    rintro e w2 ⟨rfl, hb⟩
    have HB2 := Aside0.mk (below_next HB1.out hb)
    clear hb
    go_wp2
    go_ret
    exact ⟨rfl, HB2.out⟩
  · have HR := Aside0.mk hr
    clear hr
    refine (new_yes (Kd.C_below (by rw [← HN.out]; exact HCl.out) HB1.out) HN.out HM.out HR.out).mono ?_
    rintro e w2 ⟨b, F, rfl, hT, hF, hb⟩
    have HB2 := Aside0.mk (below_next HB1.out hb)
    have HT2 := Aside0.mk hT
    clear hb hT hF
    go_wp2
    go_loopg [7] n (fun gk v wr => ∃ i : Nat, v = .int .i64 (i : Int) ∧ Aside0 (i + gk = n) ∧ Aside0 (TabO wr F b l cl) ∧ Aside0 (Below w.heap.size w wr))
    case atStart => exact ⟨0, rfl, ⟨by omega⟩, HT2, HB2⟩
    case round =>
      obtain ⟨i, rfl, HI, HT, HB⟩ := hrel
      have hI := HI.out
      cases gk with
      | zero =>
        have hi : (n : Int) ≤ (i : Int) := by omega
        clear hI
        go_wp2_with fail
        refine (kinds_T HT.out).mono ?_
        rintro e w3 ⟨rfl, rfl⟩
        rw [HN.out]
        go_wp2_with fail
        refine (classes_T HT.out).mono ?_
        rintro e w3 ⟨rfl, rfl⟩
        go_wp2
        go_ret
        exact ⟨rfl, HB.out⟩
      | succ k1 =>
        have hi : (i : Int) < (n : Int) := by omega
        have hi0 : (0 : Int) ≤ (i : Int) := by omega
        have hin : i < n := by omega
        have HIL : Aside0 (i < l.length) := ⟨by have := HN.out; omega⟩
        have hmk : (kAt l i).mask < 256 := HM.out _ (List.mem_of_getElem? (kAt_some HIL.out))
        obtain ⟨K, hK⟩ : ∃ K, K = kAt l i := ⟨_, rfl⟩
        rw [← hK] at hmk
        have HK := Aside0.mk hK
        clear hI hK
        go_wp2
        obtain ⟨wo, rfl⟩ : ∃ wo, wo = wr := ⟨_, rfl⟩
        obtain ⟨ko, rfl⟩ : ∃ ko, ko = k1 := ⟨_, rfl⟩
        go_loopg [8, 9, 10] 8 (fun gk v8 v9 v10 wr => ∃ c q p : Nat, v10 = .int .i64 (c : Int) ∧ v8 = .int .i64 (q : Int) ∧ v9 = .int .i64 (p : Int) ∧ Aside0 (c + gk = 8) ∧ Aside0 (q = K.mask % 2 ^ c) ∧ Aside0 (p = 2 ^ c) ∧ Aside0 (wr = wo))
        case atStart => exact ⟨0, 0, 1, rfl, rfl, rfl, ⟨rfl⟩, ⟨by simp [Nat.mod_one]⟩, ⟨rfl⟩, ⟨rfl⟩⟩
        case round =>
          obtain ⟨c, q, p, rfl, rfl, rfl, HCc, HQ, HP, HW⟩ := hrel
          have hw := HW.out
          subst hw
          have hCc := HCc.out
          have hq : (q : Int) ≤ 255 := by have := HQ.out; have := Nat.mod_le K.mask (2 ^ c); omega
          have hp : (p : Int) ≤ 256 := by
            have := HP.out
            have h8 : 2 ^ c ≤ 2 ^ 8 := Nat.pow_le_pow_right (by omega) (by omega)
            omega
          cases gk with
          | succ k2 =>
            have hc : (c : Int) < 8 := by omega
            have HS := Aside0.mk (mod_step K.mask c)
            have HPo := Aside0.mk (show 2 * p = 2 ^ (c + 1) by rw [HP.out, Nat.pow_succ]; omega)
            clear hCc
            go_wp2_with fail
            refine (may_T HT.out (c : Int) (i : Int)).mono ?_
            rintro e w3 ⟨rfl, rfl⟩
            rw [may_bit HR.out HIL.out, ← HK.out]
            cases hbit : bit K.mask c
            · have HX : Aside0 (q = K.mask % 2 ^ (c + 1)) := ⟨by rw [HS.out, hbit, if_neg (by simp), ← HQ.out]; rfl⟩
              clear hbit
              go_wp2
              go_roundg k2
              case measure => omega
              case rel => exact ⟨c + 1, q, 2 * p, by go_num, rfl, by go_num, ⟨by have := HCc.out; omega⟩, HX, HPo, ⟨rfl⟩⟩
            · have HX : Aside0 (q + p = K.mask % 2 ^ (c + 1)) := ⟨by rw [HS.out, hbit, if_pos rfl, ← HQ.out, ← HP.out]⟩
              clear hbit
              go_wp2
              go_roundg k2
              case measure => omega
              case rel => exact ⟨c + 1, q + p, 2 * p, by go_num, by go_num, by go_num, ⟨by have := HCc.out; omega⟩, HX, HPo, ⟨rfl⟩⟩
          | zero =>
            have hc : (8 : Int) ≤ (c : Int) := by omega
            have h8 : c = 8 := by omega
            have hqm : q = K.mask := by
              have := HQ.out
              rw [h8] at this
              rw [this]
              exact Nat.mod_eq_of_lt hmk
            subst h8
            obtain ⟨g, o, rfl, a0, a1⟩ := kind_at (Kd.C_below (by rw [← HN.out]; exact HCl.out) HB.out) i hin
            rw [← HK.out] at a0 a1
            have HV : Aside0 (costP l (i : Int) = K.cost) := ⟨by rw [costP, if_pos ⟨hi0, by have := HIL.out; omega⟩, Int.toNat_natCast, HK.out]⟩
            rw [hqm]
            clear hCc hq hqm
            go_wp2_with fail
            go_quiet ((go_at_call 15; refine Calls.quiet_of_same (v := .int .i64 K.cost) ((cost_T (HT.out.below (pw_below_drewN (Below.refl _ _) _)) (i : Int)).mono fun e w' ⟨he, hw⟩ => ⟨he.trans (ret_int HV.out), hw.symm⟩)))
            go_wp2
            go_roundg ko
            case measure => omega
            case rel => exact ⟨i + 1, by go_num, ⟨by have := HI.out; omega⟩, ⟨HT.out.below (pw_below_drewN (Below.refl _ _) _)⟩, ⟨HB.out.trans (pw_below_drewN (Below.refl _ _) _)⟩⟩
end Go.Proofs.Ytlnchdelcadmoaa
