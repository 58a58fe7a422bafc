/- Kinds as arguments; TerrainTells's and TerrainNobody's walks. Conditions: a list of kinds, any numbers. -/
import Derived.Test.YtlnchdelcadmoaaT5
import Derived.Test.YtlnchdelcadmoaaOpen
namespace Go.Proofs.Ytlnchdelcadmoaa
open Go.RowKit Go.Proofs.YtlnchdelcadmoaaW.PrintWords Go.Proofs.YtlnchdelcadmoaaW.PrintLast Go.Proofs.YtlnchdelcadmoaaW.PrintMore Lb

def KWf (k : Kind) : Prop := (-9223372036854775808 ≤ k.cost ∧ k.cost ≤ 9223372036854775807) ∧ k.mask < 256
theorem opens_kind : Opn.Opens Try.prog kdK 29 KWf := by
  intro H enc w base spare held fuel cs y h hz
  obtain ⟨xs, n, _, rfl, hl, hlen, hf⟩ := DataW.trod_struct Try.underlying29 h
  have hl2 : cs.length = 2 := hl.trans (by kernel_rfl)
  match cs, hl2, xs, hlen with
  | [c0, c1], _, [y0, y1], _ =>
    have h0 := hf 0 _ rfl
    have h1 := hf 1 _ rfl
    simp only [List.map_cons, List.map_nil, DataW.weights, Try.underlying29, List.mem_append, DataW.weightsEach] at hz
    obtain ⟨a, e0, w0⟩ := Opn.opens_int Try.underlying3 H enc w base spare held n _ _ h0 (fun z hz' => hz z (by simp; exact .inl hz'))
    obtain ⟨b, e1, w1⟩ := Opn.opens_int Try.underlying5 H enc w base spare held n _ _ h1 (fun z hz' => hz z (by simp; exact .inr hz'))
    have e0' : [c0] = [Value.int .i64 a] := e0
    have e1' : [c1] = [Value.int .u8 b] := e1
    injection e0' with e0'
    injection e1' with e1'
    subst e0' e1'
    have h8 := u8_wf w1
    refine ⟨⟨a, b.toNat⟩, ?_, i64_wf w0, ?_⟩
    · show [Value.int .i64 a, Value.int .u8 b] = [Value.int .i64 a, Value.int .u8 ((b.toNat : Nat) : Int)]
      rw [Int.toNat_of_nonneg h8.1]
    · show b.toNat < 256
      omega

set_option maxRecDepth 100000 in
set_option maxHeartbeats 4000000 in
theorem tells_walk (w : World) (A : Option Addr) (c : Nat) (l : List Kind) (cl x y : Int) (hC : kdK.C w A l.length l) (hm : ∀ k ∈ l, k.mask < 256) : Calls Try.prog 4 #[.slice A l.length c, .int .i64 cl, .int .i64 x, .int .i64 y] w fun e w' => e = .returned (.bool true) ∧ Below w.heap.size w w' := by
  have hmax : (l.length : Int) ≤ 9223372036854775807 := by have := hC.2.1; unfold maxLen at this; omega
  have HCl := Aside0.mk hC
  have HM := Aside0.mk hm
  obtain ⟨n, hn⟩ : ∃ n, l.length = n := ⟨_, rfl⟩
  have HN := Aside0.mk hn
  rw [hn] at hmax ⊢
  clear hC hm
  go_enter Try.func4, Try.ntmps4
  go_wp2_with fail
  refine (awake_yes _).mono ?_
  rintro e w1 ⟨rfl, hb⟩
  have HB1 := Aside0.mk hb
  clear hb
  by_cases h100 : (100 : Int) < (n : Int)
  · clear hn
    go_wp2
    go_ret
    exact ⟨rfl, HB1.out⟩
  have h100' : (n : Int) ≤ 100 := by omega
  clear h100 hn
  go_wp2_with fail
  cases hr : rightP l cl
  · have HR := Aside0.mk hr
    clear hr
    refine (new_no (Kd.C_below (by rw [← HN.out]; exact HCl.out) HB1.out) HN.out HM.out HR.out).mono ?_
    rintro e w2 ⟨rfl, hb⟩
    have HB2 := Aside0.mk (below_next HB1.out hb)
    clear hb
    go_wp2_with fail
    refine (right_ok _ A n c l cl (Kd.C_below (by rw [← HN.out]; exact HCl.out) HB2.out) HN.out HM.out).mono ?_
    rintro e w3 ⟨rfl, rfl⟩
    rw [HR.out]
    go_wp2
    go_ret
    exact ⟨rfl, HB2.out⟩
  · have HR := Aside0.mk hr
    have HP := Aside0.mk (right_parts hr)
    clear hr
    refine (new_yes (Kd.C_below (by rw [← HN.out]; exact HCl.out) HB1.out) HN.out HM.out HR.out).mono ?_
    rintro e w2 ⟨b, F, rfl, hT, hF, hb⟩
    have HB2 := Aside0.mk (below_next HB1.out hb)
    have HT2 := Aside0.mk hT
    have HC2 : Aside0 (kdK.C w2 A n l) := ⟨Kd.C_below (by rw [← HN.out]; exact HCl.out) HB2.out⟩
    clear hb hT hF
    go_wp2_with fail
    refine (right_ok _ A n c l cl HC2.out HN.out HM.out).mono ?_
    rintro e w3 ⟨rfl, rfl⟩
    rw [HR.out]
    go_wp2_with fail
    refine (kinds_T HT2.out).mono ?_
    rintro e w3 ⟨rfl, rfl⟩
    rw [HN.out]
    go_wp2_with fail
    refine (classes_T HT2.out).mono ?_
    rintro e w3 ⟨rfl, rfl⟩
    go_wp2_with fail
    refine (all_T HT2.out).mono ?_
    rintro e w3 ⟨v, rfl, A', c', F', rfl, hR, _, _, hb⟩
    rw [HN.out] at hR ⊢
    have HB3 := Aside0.mk (below_next HB2.out hb)
    have HT3 := Aside0.mk (HT2.out.below hb)
    have HC3 := Aside0.mk (Kd.C_below HC2.out hb)
    have HR3 : Aside0 (kdK.C w3 A' n l) := ⟨by have := (Kd.R_reads' hR).2.2; rwa [HN.out] at this⟩
    clear hb hR
    go_wp2_with fail
    refine (same_eq _ A' A n c' c l HR3.out HC3.out (by omega)).mono ?_
    rintro e w4 ⟨rfl, hb⟩
    have HB4 := Aside0.mk (below_next HB3.out hb)
    have HT4 := Aside0.mk (HT3.out.below hb)
    have HC4 := Aside0.mk (Kd.C_below HC3.out hb)
    clear hb
    go_wp2_with fail
    refine (may_T HT4.out x y).mono ?_
    rintro e w5 ⟨rfl, rfl⟩
    go_wp2_with fail
    refine (rmay_ok _ A n c l cl x y HC4.out HN.out HM.out HP.out.2.2.2.1).mono ?_
    rintro e w5 ⟨rfl, rfl⟩
    go_wp2_with fail
    refine (least_T HT4.out x).mono ?_
    rintro e w5 ⟨rfl, hb⟩
    have HB5 := Aside0.mk (below_next HB4.out hb)
    have HT5 := Aside0.mk (HT4.out.below hb)
    have HC5 := Aside0.mk (Kd.C_below HC4.out hb)
    clear hb
    go_wp2_with fail
    refine (rleast_ok _ A n c l cl x HC5.out HN.out HM.out HP.out.2.2.2.1 (by omega)).mono ?_
    rintro e w6 ⟨rfl, rfl⟩
    generalize leastP l cl x = q
    by_cases hy : 0 ≤ y ∧ y < (n : Int)
    · obtain ⟨hy0, hy1⟩ := hy
      obtain ⟨i, rfl⟩ := Int.eq_ofNat_of_zero_le hy0
      obtain ⟨g, o, rfl, a0, a1⟩ := kind_at HC5.out i (by omega)
      have HV : Aside0 (costP l (i : Int) = (kAt l i).cost) := ⟨by rw [costP, if_pos ⟨hy0, by rw [HN.out]; exact hy1⟩, Int.toNat_natCast]⟩
      go_wp2_with fail
      refine (cost_T HT5.out (i : Int)).mono ?_
      rintro e w6 ⟨rfl, rfl⟩
      rw [HV.out]
      go_wp2
      go_ret
      exact ⟨rfl, HB5.out⟩
    · have HV : Aside0 (costP l y = 0) := ⟨by rw [costP, if_neg (by rw [HN.out]; exact hy)]⟩
      have hy' : y < 0 ∨ (0 ≤ y ∧ (n : Int) ≤ y) := by omega
      clear hy
      rcases hy' with hy1 | ⟨hy1, hy2⟩
      all_goals
        go_wp2_with fail
        refine (cost_T HT5.out y).mono ?_
        rintro e w6 ⟨rfl, rfl⟩
        rw [HV.out]
        go_wp2
        go_ret
        exact ⟨rfl, HB5.out⟩

set_option maxRecDepth 100000 in
set_option maxHeartbeats 4000000 in
theorem nobody_walk (w : World) (x y : Int) : Calls Try.prog 5 #[.int .i64 x, .int .i64 y] w fun e w' => e = .returned (.bool true) ∧ Below w.heap.size w w' := by
  go_enter Try.func5, Try.ntmps5
  go_wp2_with fail
  refine (awake_yes _).mono ?_
  rintro e w1 ⟨rfl, hb⟩
  have HB1 := Aside0.mk hb
  have HT1 : Aside0 (Tb (w1.alloc (.cells #[.slice none 0 0, .int .i64 0, .int .i64 0, .int .i64 0, .int .i64 0, .int .i64 0, .int .i64 0, .int .i64 0, .int .i64 0, .int .i64 0] 42)) (fun k => k = w1.heap.size) w1.heap.size [] 0 [0, 0, 0, 0, 0, 0, 0, 0] none 0) := ⟨⟨fun k hk => by subst hk; simp, rfl, blk_new w1 _, Kd.R_nil _ _ _ _ _⟩⟩
  have HB2 := Aside0.mk (below_alloc hb (.cells #[.slice none 0 0, .int .i64 0, .int .i64 0, .int .i64 0, .int .i64 0, .int .i64 0, .int .i64 0, .int .i64 0, .int .i64 0, .int .i64 0] 42))
  have HMy : Aside0 (mayP [] 0 x y = false) := ⟨by
    by_cases h : 0 ≤ x
    · have : ¬ x < 0 := by omega
      simp [mayP, this]
    · simp [mayP, h]⟩
  have HCo : Aside0 (costP [] y = 0) := ⟨by rw [costP, if_neg (by simp only [List.length_nil]; omega)]⟩
  have HLe : Aside0 (rowP [0, 0, 0, 0, 0, 0, 0, 0] 0 x = 0) := ⟨by rw [rowP, if_neg (by omega)]⟩
  clear hb
  go_wp2_with fail
  refine (least_nil _ x).mono ?_
  rintro e w2 ⟨rfl, rfl⟩
  go_wp2_with fail
  refine (least_any HT1.out (by omega) rfl x).mono ?_
  rintro e w3 ⟨rfl, hb⟩
  rw [HLe.out]
  have HT3 := Aside0.mk (HT1.out.keep (Chg.of_below (F := Non) hb) (fun _ _ e => e))
  have HB3 := Aside0.mk (below_next HB2.out hb)
  clear hb
  go_wp2_with fail
  refine (kinds_nil _).mono ?_
  rintro e w4 ⟨rfl, rfl⟩
  go_wp2_with fail
  refine (classes_nil _).mono ?_
  rintro e w4 ⟨rfl, rfl⟩
  go_wp2_with fail
  refine (may_nil _ x y).mono ?_
  rintro e w4 ⟨rfl, rfl⟩
  go_wp2_with fail
  refine (cost_nil _ y).mono ?_
  rintro e w4 ⟨rfl, rfl⟩
  go_wp2_with fail
  refine (all_nil _).mono ?_
  rintro e w4 ⟨rfl, rfl⟩
  go_wp2_with fail
  refine (kinds_ok HT3.out).mono ?_
  rintro e w4 ⟨rfl, rfl⟩
  go_wp2_with fail
  refine (classes_ok HT3.out).mono ?_
  rintro e w4 ⟨rfl, rfl⟩
  go_wp2_with fail
  refine (may_any HT3.out (by omega) (fun _ h => by cases h) x y).mono ?_
  rintro e w4 ⟨rfl, rfl⟩
  rw [HMy.out]
  go_wp2_with fail
  refine (cost_any HT3.out y).mono ?_
  rintro e w4 ⟨rfl, rfl⟩
  rw [HCo.out]
  go_wp2_with fail
  refine (all_ok HT3.out (by simp)).mono ?_
  rintro e w4 ⟨v, rfl, A', c', F', rfl, _, _, _, hb⟩
  have HB4 := Aside0.mk (below_next HB3.out hb)
  clear hb
  go_wp2
  go_ret
  exact ⟨rfl, HB4.out⟩
end Go.Proofs.Ytlnchdelcadmoaa
