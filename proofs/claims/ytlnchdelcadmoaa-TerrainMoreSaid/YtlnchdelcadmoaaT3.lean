/- New's contract. Conditions: the list lies in memory as told. -/
import Derived.Test.YtlnchdelcadmoaaT2
import Derived.BigRegion
import Derived.ChangeAlike
namespace Go.Proofs.Ytlnchdelcadmoaa
open Go.RowKit Go.Proofs.YtlnchdelcadmoaaW.PrintWords Go.Proofs.YtlnchdelcadmoaaW.PrintLast Go.Proofs.YtlnchdelcadmoaaW.PrintMore Lb

/-- What New answers. -/
def NewPost (w : World) (l : List Kind) (cl : Int) (e : Ending) (w' : World) : Prop :=
  (rightP l cl = true ∧ ∃ (b : Nat) (F : Nat → Prop), e = .returned (.tuple #[.pointer (some ⟨b, 0, none⟩), .int .i64 0]) ∧ TabO w' F b l cl ∧ (∀ k, F k → w.heap.size ≤ k) ∧ Below w.heap.size w w') ∨
  (rightP l cl = false ∧ e = .returned (.tuple #[.pointer none, .int .i64 1]) ∧ Below w.heap.size w w')
theorem right_no {l : List Kind} {cl : Int} (h : ¬ (1 ≤ l.length ∧ l.length ≤ 16 ∧ 1 ≤ cl ∧ cl ≤ 8)) : rightP l cl = false := by
  cases e : rightP l cl
  · rfl
  · have := right_parts e
    exact absurd ⟨this.1, this.2.1, this.2.2.1, this.2.2.2.1⟩ h
theorem right_bad {l : List Kind} {cl : Int} {i : Nat} (hi : i < l.length) (h : okK cl (kAt l i) = false) : rightP l cl = false := by
  cases e : rightP l cl
  · rfl
  · have := (right_parts e).2.2.2.2 _ (List.mem_of_getElem? (kAt_some hi))
    rw [h] at this
    cases this
theorem right_all {l : List Kind} {cl : Int} (h1 : 1 ≤ l.length) (h2 : l.length ≤ 16) (h3 : 1 ≤ cl) (h4 : cl ≤ 8) (h : ∀ j, j < l.length → okK cl (kAt l j) = true) : rightP l cl = true := by
  simp only [rightP, Bool.and_eq_true, decide_eq_true_eq, List.all_eq_true]
  refine ⟨⟨⟨⟨h1, h2⟩, h3⟩, h4⟩, fun k hk => ?_⟩
  obtain ⟨j, hj, e⟩ := List.mem_iff_getElem.1 hk
  have := h j hj
  rw [show kAt l j = k by simp [kAt, hj, e]] at this
  exact this
theorem kind_at {w : World} {A : Option Addr} {n : Nat} {l : List Kind} (h : kdK.C w A n l) (i : Nat) (hi : i < n) :
    ∃ g o, A = some ⟨g, o, none⟩ ∧ w.cell? ⟨g, o + i * 2, none⟩ = some (.int .i64 (kAt l i).cost) ∧ w.cell? ⟨g, o + i * 2 + 1, none⟩ = some (.int .u8 ((kAt l i).mask : Int)) := by
  obtain ⟨ad, c, e, _, hK, hc⟩ := Kd.C_get h ⟨0, 0⟩ (i : Int) (by omega) (by omega)
  simp only [Int.toNat_natCast] at hK hc
  have hk : c = encK (kAt l i) := hK
  subst hk
  have hc' : ∀ j u, (encK (kAt l i))[j]? = some u → w.cell? (ad.add (i * 2 + j)) = some u := hc
  obtain ⟨g, o, sp⟩ := ad
  have hsp : sp = none := by
    obtain ⟨ad0, c0, e0, _, hK0, hc0⟩ := Kd.C_get h ⟨0, 0⟩ (0 : Int) (by omega) (by omega)
    have hk0 : c0 = encK (kAt l 0) := hK0
    subst hk0
    rw [e] at e0
    injection e0 with e0
    subst e0
    have h1 : w.cell? ⟨g, o, sp⟩ = some (.int .i64 (kAt l 0).cost) := hc0 0 _ rfl
    unfold World.cell? at h1
    split at h1
    · cases sp with
      | none => rfl
      | some x => simp at h1
    · cases h1
  subst hsp
  have add_flat : ∀ k, (Addr.mk g o none).add k = ⟨g, o + k, none⟩ := fun k => by
    unfold Addr.add
    split
    · next h => subst h; rfl
    · rfl
  refine ⟨g, o, e, ?_, ?_⟩
  · have := hc' 0 _ rfl; rwa [add_flat] at this
  · have := hc' 1 _ rfl; rwa [add_flat, ← Nat.add_assoc] at this

set_option maxRecDepth 100000 in
set_option maxHeartbeats 4000000 in
theorem new_any (w : World) (A : Option Addr) (n c : Nat) (l : List Kind) (cl : Int) (hC : kdK.C w A n l) (hn : l.length = n) (hm : ∀ k ∈ l, k.mask < 256) : Calls Try.prog 11 #[.slice A n c, .int .i64 cl] w (NewPost w l cl) := by
  have HCl := Aside0.mk hC
  have HN := Aside0.mk hn
  have HM := Aside0.mk hm
  by_cases h1 : (n : Int) < 1
  · have HV : Aside0 (rightP l cl = false) := ⟨right_no (by omega)⟩
    clear hC hn hm
    go_enter Try.func11, Try.ntmps11
    go_wp2
    go_ret2
    exact .inr ⟨HV.out, rfl, Below.refl _ _⟩
  by_cases h2 : (16 : Int) < (n : Int)
  · have HV : Aside0 (rightP l cl = false) := ⟨right_no (by omega)⟩
    have h1' : (1 : Int) ≤ (n : Int) := by omega
    clear hC hn hm h1
    go_enter Try.func11, Try.ntmps11
    go_wp2
    go_ret2
    exact .inr ⟨HV.out, rfl, Below.refl _ _⟩
  by_cases h3 : cl < 1
  · have HV : Aside0 (rightP l cl = false) := ⟨right_no (by omega)⟩
    have h1' : (1 : Int) ≤ (n : Int) := by omega
    have h2' : (n : Int) ≤ 16 := by omega
    clear hC hn hm h1 h2
    go_enter Try.func11, Try.ntmps11
    go_wp2
    go_ret2
    exact .inr ⟨HV.out, rfl, Below.refl _ _⟩
  by_cases h4 : 8 < cl
  · have HV : Aside0 (rightP l cl = false) := ⟨right_no (by omega)⟩
    have h1' : (1 : Int) ≤ (n : Int) := by omega
    have h2' : (n : Int) ≤ 16 := by omega
    have h3' : 1 ≤ cl := by omega
    clear hC hn hm h1 h2 h3
    go_enter Try.func11, Try.ntmps11
    go_wp2
    go_ret2
    exact .inr ⟨HV.out, rfl, Below.refl _ _⟩
  obtain ⟨C, rfl⟩ := Int.eq_ofNat_of_zero_le (show 0 ≤ cl by omega)
  have h1' : (1 : Int) ≤ (n : Int) := by omega
  have h2' : (n : Int) ≤ 16 := by omega
  have h3' : (1 : Int) ≤ (C : Int) := by omega
  have h4' : (C : Int) ≤ 8 := by omega
  have hC8 : C ≤ 8 := by omega
  clear hC hn hm h1 h2 h3 h4
  go_enter Try.func11, Try.ntmps11
  go_wp2_with fail
  refine (clone_ok w A n c l HCl.out HN.out (by omega)).mono ?_
  rintro e w2 ⟨v, rfl, A', c', F', rfl, hR, hF', hlt, hb⟩
  rw [HN.out] at hR ⊢
  have HF : Aside0 (∀ k, (F' k ∨ k = w2.heap.size) → w.heap.size ≤ k) := ⟨fun k hk => hk.elim (fun e => hF' k e) (fun e => by have := hb.size; omega)⟩
  have HB2 := Aside0.mk hb
  have HT : Aside0 (Tb (w2.alloc (.cells #[.slice A' n c', .int .i64 (C : Int), .int .i64 0, .int .i64 0, .int .i64 0, .int .i64 0, .int .i64 0, .int .i64 0, .int .i64 0, .int .i64 0] 42)) (fun k => F' k ∨ k = w2.heap.size) w2.heap.size l (C : Int) (lsAt l (C : Int) 0 0) A' c') := ⟨by
    refine ⟨fun k hk => ?_, .inr rfl, ?_, ?_⟩
    · rcases hk with e | e
      · have := hlt k e; simp; omega
      · subst e; simp
    · rw [lsAt_zero, HN.out]
      exact blk_new w2 _
    · rw [HN.out]
      exact Kd.R_mono (R_chg hR ((Chg.refl Non w2).alloc _) (fun _ _ e => e)) (fun k e => .inl e)⟩
  clear hR hF' hlt hb
  go_wp2
  have HB3 : Aside0 (Below w.heap.size w (w2.alloc (.cells #[.slice A' n c', .int .i64 (C : Int), .int .i64 0, .int .i64 0, .int .i64 0, .int .i64 0, .int .i64 0, .int .i64 0, .int .i64 0, .int .i64 0] 42))) := ⟨below_alloc HB2.out _⟩
  go_loopg [33] n (fun gk v wr => ∃ i : Nat, v = .int .i64 (i : Int) ∧ Aside0 (i + gk = n) ∧ Aside0 (Tb wr (fun k => F' k ∨ k = w2.heap.size) w2.heap.size l (C : Int) (lsAt l (C : Int) i 0) A' c') ∧ Aside0 (Below w.heap.size w wr) ∧ Aside0 (∀ j, j < i → okK (C : Int) (kAt l j) = true))
  case atStart => exact ⟨0, rfl, ⟨by omega⟩, HT, HB3, ⟨fun j hj => by omega⟩⟩
  case round =>
    obtain ⟨i, rfl, HI, HTi, HBi, HOk⟩ := hrel
    have hI := HI.out
    cases gk with
    | zero =>
      have hi : (n : Int) ≤ (i : Int) := by omega
      have hin : i = n := by omega
      subst hin
      have HV : Aside0 (rightP l (C : Int) = true) := ⟨right_all (by have := HN.out; omega) (by have := HN.out; omega) h3' h4' (fun j hj => HOk.out j (by have := HN.out; omega))⟩
      clear hI
      go_wp2
      go_ret2
      exact .inl ⟨HV.out, w2.heap.size, _, rfl, ⟨⟨A', c', by have := HTi.out; unfold leasts; rw [HN.out]; exact this⟩, HV.out⟩, HF.out, HBi.out⟩
    | succ k1 =>
      have hi : (i : Int) < (n : Int) := by omega
      have hin : i < n := by omega
      obtain ⟨g, o, rfl, a0, a1⟩ := kind_at (Kd.C_below HCl.out HBi.out) i hin
      have hmk : (kAt l i).mask < 256 := HM.out _ (List.mem_of_getElem? (kAt_some (by have := HN.out; omega)))
      have hmk' : ((kAt l i).mask : Int) ≤ 255 := by omega
      obtain ⟨K, hK⟩ : ∃ K, K = kAt l i := ⟨_, rfl⟩
      rw [← hK] at a0 a1 hmk hmk'
      have HK := Aside0.mk hK
      clear hI hK
      cases hok : okK (C : Int) K
      · have HV : Aside0 (rightP l (C : Int) = false) := ⟨right_bad (i := i) (by have := HN.out; omega) (by rw [← HK.out]; exact hok)⟩
        have hq : K.cost < 1 ∨ (1 ≤ K.cost ∧ 255 < K.cost) ∨ (1 ≤ K.cost ∧ K.cost ≤ 255 ∧ ((K.mask : Int) / 2 ^ C != 0) = true) := by
          by_cases e1 : K.cost < 1
          · exact .inl e1
          · by_cases e2 : 255 < K.cost
            · exact .inr (.inl ⟨by omega, e2⟩)
            · refine .inr (.inr ⟨by omega, by omega, ?_⟩)
              simp only [okK, Bool.and_eq_false_iff, decide_eq_false_iff_not] at hok
              rw [Int.toNat_natCast] at hok
              have e3 : ¬ K.mask / 2 ^ C = 0 := by
                rcases hok with (h | h) | h
                · omega
                · omega
                · exact h
              have e : ((K.mask : Int) / 2 ^ C) = ((K.mask / 2 ^ C : Nat) : Int) := by simp
              rw [e, bne_iff_ne]
              omega
        clear hok
        rcases hq with q1 | ⟨q1, q2⟩ | ⟨q1, q2, q3⟩
        all_goals
          go_wp2
          go_ret2
          exact .inr ⟨HV.out, rfl, below_alloc HBi.out _⟩
      · obtain ⟨q1, q2, q3'⟩ := okK_parts hok
        rw [Int.toNat_natCast] at q3'
        have q3 : ((K.mask : Int) / 2 ^ C != 0) = false := by
          have e : ((K.mask : Int) / 2 ^ C) = ((K.mask / 2 ^ C : Nat) : Int) := by simp
          rw [e, q3']
          rfl
        have HOK := Aside0.mk hok
        clear hok q3'
        have hz8 := blk_new wr (.cells #[.int .i64 K.cost, .int .u8 (K.mask : Int)] 29)
        have HZ8 := Aside0.mk hz8
        have HT0 := Aside0.mk (HTi.out.keep ((Chg.refl Non wr).alloc (.cells #[.int .i64 K.cost, .int .u8 (K.mask : Int)] 29)) (fun _ _ e => e))
        have HB0 := Aside0.mk (below_alloc HBi.out (.cells #[.int .i64 K.cost, .int .u8 (K.mask : Int)] 29))
        have hNF : ¬ (F' wr.heap.size ∨ wr.heap.size = w2.heap.size) := fun e => by have := HTi.out.lt _ e; omega
        have HNF := Aside0.mk hNF
        clear hz8 hNF
        go_wp2_with fail
        obtain ⟨wo, rfl⟩ : ∃ wo, wo = wr := ⟨_, rfl⟩
        obtain ⟨ko, rfl⟩ : ∃ ko, ko = k1 := ⟨_, rfl⟩
        go_loopg [54] C (fun gk v wr => ∃ m : Nat, v = .int .i64 (m : Int) ∧ Aside0 (m + gk = C) ∧ Aside0 (Tb wr (fun k => F' k ∨ k = w2.heap.size) w2.heap.size l (C : Int) (lsAt l (C : Int) i m) A' c') ∧ Aside0 (Below w.heap.size w wr) ∧ Aside0 (wr.heap[wo.heap.size]? = some (.cells #[.int .i64 K.cost, .int .u8 (K.mask : Int)] 29 (0, 0))))
        case atStart => exact ⟨0, rfl, ⟨by omega⟩, HT0, HB0, HZ8⟩
        case round =>
          obtain ⟨m, rfl, HMm, HTm, HBm, HZm⟩ := hrel
          have hMm := HMm.out
          cases gk with
          | zero =>
            have hm : (C : Int) ≤ (m : Int) := by omega
            have hmC : m = C := by omega
            subst hmC
            clear hMm
            go_wp2
            go_roundg ko
            case measure => omega
            case rel =>
              refine ⟨i + 1, by go_num, ⟨by have := HI.out; omega⟩, ⟨by rw [← lsAt_next l _ i m rfl]; exact HTm.out⟩, HBm, ⟨fun j hj => ?_⟩⟩
              by_cases e : j < i
              · exact HOk.out j e
              · have : j = i := by omega
                rw [this, ← HK.out]
                exact HOK.out
          | succ k2 =>
            have hm : (m : Int) < (C : Int) := by omega
            have hm8 : (m : Int) < 8 := by omega
            have hm8n : m < 8 := by omega
            have c0 : wr.cell? ⟨wo.heap.size, 0, none⟩ = some (.int .i64 K.cost) := by rw [blk_cell HZm.out]; rfl
            have c1 : wr.cell? ⟨wo.heap.size, 1, none⟩ = some (.int .u8 (K.mask : Int)) := by rw [blk_cell HZm.out]; rfl
            have t2 := HTm.out.c2 m (by rw [lsAt_len]; exact hm8n)
            rw [lsAt_get l _ i m m hm8n, if_pos hm, if_neg (show ¬ m < m by omega)] at t2
            have HIL : Aside0 (i < l.length) := ⟨by have := HN.out; omega⟩
            have hfz := blk_frozen HTm.out.blk (2 + m)
            obtain ⟨q, hq⟩ : ∃ q, q = leastC (l.take i) m := ⟨_, rfl⟩
            rw [← hq] at t2
            have HQ := Aside0.mk hq
            have hbb := bits_bit K.mask m hmk
            clear hMm hq
            cases hbit : bit K.mask m
            · have HS : Aside0 (lsAt l (C : Int) i m = lsAt l (C : Int) i (m + 1)) := ⟨lsAt_same HIL.out (by rw [lstep, if_neg (by rw [← HK.out, hbit]; simp)])⟩
              rw [hbit] at hbb
              clear hbit
              go_wp2_with fail
              go_quiet (fail)
              go_wp2
              go_roundg k2
              case measure => omega
              case rel => exact ⟨m + 1, by go_num, ⟨by have := HMm.out; omega⟩, ⟨by rw [← HS.out]; exact HTm.out.keep ((Chg.refl Non wr).drewN _) (fun _ _ e => e)⟩, ⟨HBm.out.trans (pw_below_drewN (Below.refl _ _) _)⟩, ⟨HZm.out⟩⟩
            · rw [hbit] at hbb
              have HBit := Aside0.mk hbit
              clear hbit
              by_cases hst : q = 0 ∨ K.cost < q
              · have HS : Aside0 ((lsAt l (C : Int) i m).set m K.cost = lsAt l (C : Int) i (m + 1)) := ⟨lsAt_set HIL.out hm _ (by rw [lstep, ← HK.out, ← HQ.out, if_pos ⟨HBit.out, hst⟩])⟩
                have hcs : ((q == 0) = true) ∨ ((q == 0) = false ∧ K.cost < q) := by
                  by_cases e : q = 0
                  · exact .inl (beq_iff_eq.2 e)
                  · exact .inr ⟨beq_eq_false_iff_ne.2 e, by omega⟩
                clear hst
                rcases hcs with hs1 | ⟨hs1, hs2⟩
                all_goals
                  go_wp2_with fail
                  go_quiet (fail)
                  go_wp2_with fail
                  go_region
                  go_wp2
                  go_roundg k2
                  case measure => omega
                  case rel =>
                    have hT := (HTm.out.keep ((Chg.refl Non wr).drewN (nq + 1)) (fun _ _ e => e)).set m K.cost
                    have hC : Chg (fun k => k = w2.heap.size) wr ((wr.drewN (nq + 1)).setCell ⟨w2.heap.size, 2 + m, none⟩ (.int .i64 K.cost)) := ((Chg.refl (fun k => k = w2.heap.size) wr).drewN (nq + 1)).set (p := ⟨w2.heap.size, 2 + m, none⟩) (.inl rfl) _
                    exact ⟨m + 1, by go_num, ⟨by have := HMm.out; omega⟩, ⟨by rw [← HS.out]; exact hT⟩, ⟨HBm.out.trans (hC.below HBm.out.size (fun k e => by rw [e]; exact HB2.out.size))⟩, ⟨hC.blk HZm.out (fun e => HNF.out (.inr e))⟩⟩
              · have HS : Aside0 (lsAt l (C : Int) i m = lsAt l (C : Int) i (m + 1)) := ⟨lsAt_same HIL.out (by rw [lstep, ← HK.out, ← HQ.out, if_neg (fun e => hst e.2)])⟩
                have hs1 : (q == 0) = false := beq_eq_false_iff_ne.2 (fun e => hst (.inl e))
                have hs2 : q ≤ K.cost := by omega
                have hs3 : decide (K.cost < q) = false := decide_eq_false (by omega)
                clear hst
                go_wp2_with fail
                go_quiet (fail)
                go_wp2
                go_roundg k2
                case measure => omega
                case rel => exact ⟨m + 1, by go_num, ⟨by have := HMm.out; omega⟩, ⟨by rw [← HS.out]; exact HTm.out.keep ((Chg.refl Non wr).drewN _) (fun _ _ e => e)⟩, ⟨HBm.out.trans (pw_below_drewN (Below.refl _ _) _)⟩, ⟨HZm.out⟩⟩
end Go.Proofs.Ytlnchdelcadmoaa
