/- The document's bit, Right, May, Least. Conditions: the list lies in memory as told. -/
import Derived.Test.YtlnchdelcadmoaaT3
namespace Go.Proofs.Ytlnchdelcadmoaa
open Go.RowKit Go.Proofs.YtlnchdelcadmoaaW.PrintWords Go.Proofs.YtlnchdelcadmoaaW.PrintLast Go.Proofs.YtlnchdelcadmoaaW.PrintMore Lb

theorem ret_bool' {a b : Bool} (h : a = b) : Ending.returned (.bool a) = .returned (.bool b) := by rw [h]
set_option maxHeartbeats 1000000 in
theorem bit_ok (w : World) (m c : Nat) (hm : m < 256) (hc : c < 8) : Calls Try.prog 24 #[.int .u8 (m : Int), .int .i64 (c : Int)] w fun e w' => e = .returned (.bool (bit m c)) ∧ w = w' := by
  have hm' : (m : Int) ≤ 255 := by omega
  have hc' : (c : Int) < 8 := by omega
  go_enter Try.func24, Try.ntmps24
  go_wp2
  go_loopg [5, 6] c (fun gk v5 v6 wr => ∃ i q : Nat, v6 = .int .i64 (i : Int) ∧ v5 = .int .i64 (q : Int) ∧ Aside0 (i + gk = c) ∧ Aside0 (q = m / 2 ^ i) ∧ Aside0 (wr = w))
  case atStart => exact ⟨0, m, rfl, rfl, ⟨by omega⟩, ⟨by simp⟩, ⟨rfl⟩⟩
  case round =>
    obtain ⟨i, q, rfl, rfl, HI, HQ, HW⟩ := hrel
    have hw := HW.out
    subst hw
    have hI := HI.out
    have hq : (q : Int) ≤ 255 := by have := HQ.out; have := Nat.div_le_self m (2 ^ i); omega
    have hq0 : (0 : Int) ≤ (q : Int) := by omega
    cases gk with
    | zero =>
      have hi : (c : Int) ≤ (i : Int) := by omega
      have hic : i = c := by omega
      subst hic
      have hii : ¬ (i : Int) < (i : Int) := by omega
      clear hI
      go_wp2
      go_ret
      refine ⟨ret_bool ?_, rfl⟩
      rw [bit, ← HQ.out, Bool.eq_iff_iff]
      simp
      omega
    | succ k1 =>
      have hi : (i : Int) < (c : Int) := by omega
      clear hI
      go_wp2
      go_roundg k1
      case measure => omega
      case rel => exact ⟨i + 1, q / 2, by go_num, by simp, ⟨by have := HI.out; omega⟩, ⟨by rw [HQ.out, Nat.pow_succ, Nat.div_div_eq_div_mul]⟩, ⟨rfl⟩⟩

theorem mask_zero : ∀ (m : Fin 256) (C : Fin 9), (∀ c : Fin 8, (C : Nat) ≤ (c : Nat) → bit m c = false) → (m : Nat) / 2 ^ (C : Nat) = 0 := by decide +kernel
theorem mask_bit {m C c : Nat} (h : m / 2 ^ C = 0) (hc : C ≤ c) : bit m c = false := by
  have h2 : m < 2 ^ C := by
    rcases Nat.lt_or_ge m (2 ^ C) with e | e
    · exact e
    · have := Nat.div_pos e (Nat.two_pow_pos _)
      omega
  have h3 : m < 2 ^ c := Nat.lt_of_lt_of_le h2 (Nat.pow_le_pow_right (by omega) hc)
  rw [bit, Nat.div_eq_of_lt h3]
  rfl

set_option maxRecDepth 100000 in
set_option maxHeartbeats 2000000 in
theorem right_ok (w : World) (A : Option Addr) (n c : Nat) (l : List Kind) (cl : Int) (hC : kdK.C w A n l) (hn : l.length = n) (hm : ∀ k ∈ l, k.mask < 256) : Calls Try.prog 17 #[.slice A n c, .int .i64 cl] w fun e w' => e = .returned (.bool (rightP l cl)) ∧ w = w' := by
  have HCl := Aside0.mk hC
  have HN := Aside0.mk hn
  have HM := Aside0.mk hm
  by_cases h1 : n = 0
  · have HV : Aside0 (rightP l cl = false) := ⟨right_no (by omega)⟩
    subst h1
    clear hC hn hm
    go_enter Try.func17, Try.ntmps17
    go_wp2
    go_ret
    exact ⟨ret_bool HV.out.symm, rfl⟩
  have h1' : ((n : Int) == 0) = false := beq_eq_false_iff_ne.2 (by omega)
  by_cases h2 : (16 : Int) < (n : Int)
  · have HV : Aside0 (rightP l cl = false) := ⟨right_no (by omega)⟩
    clear hC hn hm h1
    go_enter Try.func17, Try.ntmps17
    go_wp2
    go_ret
    exact ⟨ret_bool HV.out.symm, rfl⟩
  by_cases h3 : cl < 1
  · have HV : Aside0 (rightP l cl = false) := ⟨right_no (by omega)⟩
    have h2' : (n : Int) ≤ 16 := by omega
    clear hC hn hm h1 h2
    go_enter Try.func17, Try.ntmps17
    go_wp2
    go_ret
    exact ⟨ret_bool HV.out.symm, rfl⟩
  by_cases h4 : 8 < cl
  · have HV : Aside0 (rightP l cl = false) := ⟨right_no (by omega)⟩
    have h2' : (n : Int) ≤ 16 := by omega
    have h3' : 1 ≤ cl := by omega
    clear hC hn hm h1 h2 h3
    go_enter Try.func17, Try.ntmps17
    go_wp2
    go_ret
    exact ⟨ret_bool HV.out.symm, rfl⟩
  obtain ⟨C, rfl⟩ := Int.eq_ofNat_of_zero_le (show 0 ≤ cl by omega)
  have h0' : (1 : Int) ≤ (n : Int) := by omega
  have h2' : (n : Int) ≤ 16 := by omega
  have h3' : (1 : Int) ≤ (C : Int) := by omega
  have h4' : (C : Int) ≤ 8 := by omega
  clear hC hn hm h1 h2 h3 h4
  go_enter Try.func17, Try.ntmps17
  go_wp2
  go_loopg [5] n (fun gk v wr => ∃ i : Nat, v = .int .i64 (i : Int) ∧ Aside0 (i + gk = n) ∧ Aside0 (wr = w) ∧ Aside0 (∀ j, j < i → okK (C : Int) (kAt l j) = true))
  case atStart => exact ⟨0, rfl, ⟨by omega⟩, ⟨rfl⟩, ⟨fun j hj => by omega⟩⟩
  case round =>
    obtain ⟨i, rfl, HI, HW, HOk⟩ := hrel
    have hw := HW.out
    subst hw
    have hI := HI.out
    cases gk with
    | zero =>
      have hi : (n : Int) ≤ (i : Int) := by omega
      have HV : Aside0 (rightP l (C : Int) = true) := ⟨right_all (by have := HN.out; omega) (by have := HN.out; omega) h3' h4' (fun j hj => HOk.out j (by have := HN.out; omega))⟩
      clear hI
      go_wp2
      go_ret
      exact ⟨ret_bool HV.out.symm, rfl⟩
    | succ k1 =>
      have hi : (i : Int) < (n : Int) := by omega
      have hin : i < n := by omega
      obtain ⟨g, o, rfl, a0, a1⟩ := kind_at HCl.out i hin
      have hmk : (kAt l i).mask < 256 := HM.out _ (List.mem_of_getElem? (kAt_some (by have := HN.out; omega)))
      obtain ⟨K, hK⟩ : ∃ K, K = kAt l i := ⟨_, rfl⟩
      rw [← hK] at a0 a1 hmk
      have HK := Aside0.mk hK
      have HIL : Aside0 (i < l.length) := ⟨by have := HN.out; omega⟩
      clear hI hK
      by_cases e1 : K.cost < 1
      · have HV : Aside0 (rightP l (C : Int) = false) := ⟨right_bad HIL.out (by rw [← HK.out]; simp only [okK, Bool.and_eq_false_iff, decide_eq_false_iff_not]; omega)⟩
        go_wp2
        go_ret
        exact ⟨ret_bool HV.out.symm, rfl⟩
      by_cases e2 : 255 < K.cost
      · have HV : Aside0 (rightP l (C : Int) = false) := ⟨right_bad HIL.out (by rw [← HK.out]; simp only [okK, Bool.and_eq_false_iff, decide_eq_false_iff_not]; omega)⟩
        have e1' : 1 ≤ K.cost := by omega
        clear e1
        go_wp2
        go_ret
        exact ⟨ret_bool HV.out.symm, rfl⟩
      have e1' : 1 ≤ K.cost := by omega
      have e2' : K.cost ≤ 255 := by omega
      clear e1 e2
      go_wp2_with fail
      obtain ⟨wo, rfl⟩ : ∃ wo, wo = wr := ⟨_, rfl⟩
      obtain ⟨ko, rfl⟩ : ∃ ko, ko = k1 := ⟨_, rfl⟩
      go_loopg [6] (8 - C) (fun gk v wr => ∃ m : Nat, v = .int .i64 (m : Int) ∧ Aside0 (m + gk = 8) ∧ Aside0 (C ≤ m) ∧ Aside0 (wr = wo) ∧ Aside0 (∀ j, C ≤ j → j < m → bit K.mask j = false))
      case atStart => exact ⟨C, rfl, ⟨by omega⟩, ⟨Nat.le_refl _⟩, ⟨rfl⟩, ⟨fun j h1 h2 => by omega⟩⟩
      case round =>
        obtain ⟨m, rfl, HMm, HCm, HWm, HBm⟩ := hrel
        have hw := HWm.out
        subst hw
        have hMm := HMm.out
        cases gk with
        | zero =>
          have hm : (8 : Int) ≤ (m : Int) := by omega
          have HOK : Aside0 (okK (C : Int) K = true) := ⟨by
            have hz := mask_zero ⟨K.mask, hmk⟩ ⟨C, by omega⟩ (fun c hc => HBm.out c hc (by omega))
            simp only [okK, Bool.and_eq_true, decide_eq_true_eq]
            exact ⟨⟨e1', e2'⟩, by rw [Int.toNat_natCast]; exact hz⟩⟩
          clear hMm
          go_wp2
          go_roundg ko
          case measure => omega
          case rel =>
            refine ⟨i + 1, by go_num, ⟨by have := HI.out; omega⟩, ⟨rfl⟩, ⟨fun j hj => ?_⟩⟩
            by_cases e : j < i
            · exact HOk.out j e
            · have : j = i := by omega
              rw [this, ← HK.out]
              exact HOK.out
        | succ k2 =>
          have hm : (m : Int) < 8 := by omega
          have hm0 : (0 : Int) ≤ (m : Int) := by omega
          clear hMm
          go_wp2_with fail
          refine (bit_ok _ K.mask m hmk (by omega)).mono ?_
          rintro e w4 ⟨rfl, rfl⟩
          cases hbit : bit K.mask m
          · have HBit := Aside0.mk hbit
            clear hbit
            go_wp2
            go_roundg k2
            case measure => omega
            case rel =>
              refine ⟨m + 1, by go_num, ⟨by have := HMm.out; omega⟩, ⟨by have := HCm.out; omega⟩, ⟨rfl⟩, ⟨fun j h1 h2 => ?_⟩⟩
              by_cases e : j < m
              · exact HBm.out j h1 e
              · have : j = m := by omega
                rw [this]
                exact HBit.out
          · have HV : Aside0 (rightP l (C : Int) = false) := ⟨right_bad HIL.out (by
              rw [← HK.out]
              cases e : okK (C : Int) K
              · rfl
              · have h := (okK_parts e).2.2
                rw [Int.toNat_natCast] at h
                rw [mask_bit h HCm.out] at hbit
                cases hbit)⟩
            clear hbit
            go_wp2
            go_ret
            exact ⟨ret_bool HV.out.symm, rfl⟩
end Go.Proofs.Ytlnchdelcadmoaa
