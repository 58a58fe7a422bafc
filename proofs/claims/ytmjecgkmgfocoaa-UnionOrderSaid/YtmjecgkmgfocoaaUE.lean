/- UnionOrder's walk. Conditions: a list of pairs, a small number. -/
import Derived.Test.YtmjecgkmgfocoaaUD
import Derived.Deep.DeepCutAuto
import Derived.Deep.RegionHeld3
namespace Go.Proofs.Ytmjecgkmgfocoaa
open Go.RowKit Go.Proofs.YtmjecgkmgfocoaaW.PrintWords Go.Proofs.YtmjecgkmgfocoaaW.PrintLast Go.Proofs.YtmjecgkmgfocoaaW.PrintMore Lb

theorem Du.drew {w0 w : World} {b g1 g2 g3 b' g1' g2' g3' : Nat} {L L' : List Nat} (h : Du w0 w b g1 g2 g3 L b' g1' g2' g3' L') : Du w0 w.drew b g1 g2 g3 L b' g1' g2' g3' L' := h.below ((Chg.refl Non w).drew.non)
theorem sets_le (L : List Nat) : setsOf L ≤ L.length := by unfold setsOf; exact Nat.le_trans List.countP_le_length (by simp)
theorem sets_alone (m : Nat) : setsOf (alone m) = m := by
  have := (alone_inv m).sets
  omega
set_option maxRecDepth 100000 in
set_option maxHeartbeats 8000000 in
theorem order_walk (w : World) (n : Int) (hn0 : 0 ≤ n) (hn1 : n ≤ 255) (A : Option Addr) (c : Nat) (l : List Pr) (hC : kdP.C w A l.length l) : Calls Try.prog 6 #[.int .u8 n, .slice A l.length c] w fun e w' => e = .returned (.bool true) ∧ Below w.heap.size w w' := by
  have HCl := Aside0.mk hC
  have hmax : (l.length : Int) ≤ 9223372036854775807 := by have := hC.2.1; unfold maxLen at this; omega
  obtain ⟨N, hN⟩ : ∃ N, l.length = N := ⟨_, rfl⟩
  have HN := Aside0.mk hN
  rw [hN] at hmax ⊢
  obtain ⟨m, rfl⟩ := Int.eq_ofNat_of_zero_le hn0
  clear hC hN
  go_enter Try.func6, Try.ntmps6
  go_wp2_with fail
  refine (awake_yes _).mono ?_
  rintro e w1 ⟨rfl, hb⟩
  have HB1 := Aside0.mk hb
  clear hb
  by_cases h300 : (300 : Int) < (N : Int)
  · go_wp2
    go_ret
    exact ⟨rfl, HB1.out⟩
  have h300' : (N : Int) ≤ 300 := by omega
  clear h300
  by_cases h200 : (200 : Int) < (m : Int)
  · go_wp2
    go_ret
    exact ⟨rfl, HB1.out⟩
  have hm : (m : Int) ≤ 200 := by omega
  have HM := Aside0.mk (show m ≤ 200 by omega)
  have hd1 : decide ((200 : Int) < (m : Int)) = false := decide_eq_false h200
  have hd2 : decide ((300 : Int) < (N : Int)) = false := decide_eq_false (by omega)
  clear h200
  go_wp2_with fail
  refine (new_ok w1 m (by have := HM.out; omega)).mono ?_
  rintro e w2 ⟨b, rfl, g1, g2, g3, h1, h2, h3⟩
  have H2 : Aside0 (Us w w2 b g1 g2 g3 (alone m)) := ⟨⟨h1, fun k hk => Nat.le_trans HB1.out.size (h2 k hk), HB1.out.trans ((Chg.of_below (F := Non) h3).below HB1.out.size (fun _ e => e.elim))⟩⟩
  clear h1 h2 h3
  go_wp2_with fail
  refine (new_ok w2 m (by have := HM.out; omega)).mono ?_
  rintro e w3 ⟨b', rfl, g1', g2', g3', h1, h2, h3⟩
  have H3 := Aside0.mk (Du.make H2.out h1 h2 h3)
  clear h1 h2 h3
  go_wp2_with fail
  go_loopg [9, 10] N (fun gk v9 v10 wr => ∃ (i mk : Nat) (L : List Nat), v9 = .int .i64 (mk : Int) ∧ v10 = .int .i64 (i : Int) ∧ Aside0 (i + gk = N) ∧ Aside0 (joins (alone m) (l.take i) = L) ∧ Aside0 (mk + setsOf L = m) ∧ Aside0 (Du w wr b g1 g2 g3 L b' g1' g2' g3' (alone m)))
  case atStart => exact ⟨0, 0, alone m, rfl, rfl, ⟨by omega⟩, ⟨rfl⟩, ⟨by rw [sets_alone]; omega⟩, H3⟩
  case round =>
    obtain ⟨i, mk, L, rfl, rfl, HI, HLe, HK, HP⟩ := hrel
    cases gk with
    | succ k1 =>
      have hin : i < N := by have := HI.out; omega
      have hi1 : (i : Int) < (N : Int) := by omega
      have hi0 : (0 : Int) ≤ (i : Int) := by omega
      have hi3 : (i : Int) ≤ 300 := by omega
      have hmk0 : (0 : Int) ≤ (mk : Int) := by omega
      have hmk1 : (mk : Int) ≤ 200 := by have := HK.out; omega
      obtain ⟨g, o, rfl, a0, a1⟩ := pr_at (by have := HCl.out; rwa [HN.out] at this) i hin
      have HS : Aside0 (∀ w', Below w.heap.size w w' → w'.cell? ⟨g, o + i * 2, none⟩ = some (.int .i64 (prAt l i).a) ∧ w'.cell? ⟨g, o + i * 2 + 1, none⟩ = some (.int .i64 (prAt l i).b)) := ⟨fun w' hb => ⟨bsome hb _ _ a0, bsome hb _ _ a1⟩⟩
      have HJ := Aside0.mk (joins_next (l := l) (i := i) (by rw [HN.out]; exact hin) (alone m))
      rw [HLe.out] at HJ
      have HNm := Aside0.mk (joinP_nm (L := L) (by rw [← HLe.out]; exact joins_nm _ (alone_nm m)) (prAt l i).a (prAt l i).b).2
      clear a0 a1 hin
      generalize (prAt l i).a = pa at HS HJ HNm
      generalize (prAt l i).b = pb at HS HJ HNm
      go_upto_region 13 with fail
      replace HP := Aside0.mk HP.out.drew
      cases hcb : canP L pa pb
      · have HCb := Aside0.mk hcb
        rw [hcb] at HNm
        clear hcb
        go_region_held3 (fun w' => w'.cell? ⟨g, o + i * 2, none⟩ = some (.int .i64 pa) ∧ w'.cell? ⟨g, o + i * 2 + 1, none⟩ = some (.int .i64 pb))
          (first | exact HS.out _ HP.out.u1.bl | go_keep)
          (first | (go_at_call 13; refine (join_1 HP.out pa pb).mono ?_; rw [HCb.out]; rintro e w5 ⟨rfl, h5⟩; replace HP := Aside0.mk h5; clear h5))
        all_goals
          go_wp2_with fail
          have hk := HI.out
          have hk2 := HK.out
          have hk3 := HNm.out
          simp at hk3
          go_roundg k1
          case measure => omega
          case rel => exact ⟨i + 1, mk, _, rfl, by go_num, ⟨by omega⟩, HJ, ⟨by omega⟩, HP⟩
      · have HCb := Aside0.mk hcb
        rw [hcb] at HNm
        clear hcb
        go_region_held3 (fun w' => w'.cell? ⟨g, o + i * 2, none⟩ = some (.int .i64 pa) ∧ w'.cell? ⟨g, o + i * 2 + 1, none⟩ = some (.int .i64 pb))
          (first | exact HS.out _ HP.out.u1.bl | go_keep)
          (first | (go_at_call 13; refine (join_1 HP.out pa pb).mono ?_; rw [HCb.out]; rintro e w5 ⟨rfl, h5⟩; replace HP := Aside0.mk h5; clear h5))
        all_goals
          go_wp2_with fail
          have hk := HI.out
          have hk2 := HK.out
          have hk3 := HNm.out
          simp at hk3
          go_roundg k1
          case measure => omega
          case rel => exact ⟨i + 1, mk + 1, _, by go_num, by go_num, ⟨by omega⟩, HJ, ⟨by omega⟩, HP⟩
    | zero =>
      have hi : i = N := by have := HI.out; omega
      subst hi
      have HLf : Aside0 (joins (alone m) l = L) := ⟨by rw [← HLe.out, List.take_of_length_le (by rw [HN.out]; exact Nat.le_refl _)]⟩
      have hi0 : (0 : Int) ≤ (i : Int) := by omega
      clear HLe
      go_wp2
      go_loopg [11] i (fun gk v wr => ∃ (t : Int) (M : List Nat), v = .int .i64 t ∧ Aside0 (t + 1 = (gk : Int) ∧ gk ≤ i) ∧ Aside0 (joins (alone m) (backP (l.drop gk)) = M) ∧ Aside0 (Du w wr b g1 g2 g3 L b' g1' g2' g3' M))
      case atStart => exact ⟨(i : Int) - 1, alone m, by go_num, ⟨by omega, Nat.le_refl _⟩, ⟨by rw [List.drop_of_length_le (by rw [HN.out]; exact Nat.le_refl _)]; rfl⟩, HP⟩
      case round =>
        obtain ⟨t, M, rfl, HT, HMe, HP2⟩ := hrel
        cases gk with
        | succ k1 =>
          obtain rfl : t = (k1 : Int) := by have := HT.out.1; omega
          have hin : k1 < i := by have := HT.out.2; omega
          have hk1 : (k1 : Int) < (i : Int) := by omega
          have hk0 : (0 : Int) ≤ (k1 : Int) := by omega
          obtain ⟨g, o, rfl, a0, a1⟩ := pr_at (by have := HCl.out; rwa [HN.out] at this) k1 hin
          have HS : Aside0 (∀ w', Below w.heap.size w w' → w'.cell? ⟨g, o + k1 * 2, none⟩ = some (.int .i64 (prAt l k1).a) ∧ w'.cell? ⟨g, o + k1 * 2 + 1, none⟩ = some (.int .i64 (prAt l k1).b)) := ⟨fun w' hb => ⟨bsome hb _ _ a0, bsome hb _ _ a1⟩⟩
          have HJ := Aside0.mk (joins_back (l := l) (i := k1) (by rw [HN.out]; exact hin) (alone m))
          rw [HMe.out] at HJ
          clear a0 a1 hin
          generalize (prAt l k1).a = pa at HS HJ
          generalize (prAt l k1).b = pb at HS HJ
          go_upto_region 18 with fail
          replace HP2 := Aside0.mk HP2.out.drew
          go_region_held3 (fun w' => w'.cell? ⟨g, o + k1 * 2, none⟩ = some (.int .i64 pa) ∧ w'.cell? ⟨g, o + k1 * 2 + 1, none⟩ = some (.int .i64 pb))
            (first | exact HS.out _ HP2.out.u1.bl | go_keep)
            (first | (go_at_call 13; refine (join_2 HP2.out pb pa).mono ?_; rintro e w5 ⟨rfl, h5⟩; replace HP2 := Aside0.mk h5; clear h5))
          all_goals
            generalize canP M pb pa = cb
            go_wp2_with fail
            have hk := HT.out
            go_roundg k1
            case measure => omega
            case rel => exact ⟨(k1 : Int) - 1, _, by go_num, ⟨by omega, by omega⟩, HJ, HP2⟩
        | zero =>
          obtain rfl : t = -1 := by have := HT.out.1; omega
          have HMf : Aside0 (M = L) := ⟨by
            rw [← HMe.out, ← HLf.out]
            exact back_same m l⟩
          obtain rfl := HMf.out
          have HNm : Aside0 (Nm M) := ⟨HP2.out.u1.uo.nm⟩
          have HLn : Aside0 (M.length = m) := ⟨by rw [← HLf.out, joins_len, alone_len]⟩
          clear HMe HMf
          go_wp2
          go_loopg [12] m (fun gk v wr => ∃ j : Nat, v = .int .i64 (j : Int) ∧ Aside0 (j + gk = m) ∧ Aside0 (Du w wr b g1 g2 g3 M b' g1' g2' g3' M))
          case atStart => exact ⟨0, rfl, ⟨by omega⟩, HP2⟩
          case round =>
            obtain ⟨j, rfl, HJ, HP3⟩ := hrel
            cases gk with
            | succ k1 =>
              have hj : j < m := by have := HJ.out; omega
              have hj1 : (j : Int) < (m : Int) := by omega
              have hj0 : (0 : Int) ≤ (j : Int) := by omega
              have hv := HNm.out.le j (by rw [HLn.out]; exact hj)
              have HV1 := Aside0.mk (nameP_in (L := M) (i := j) (by rw [HLn.out]; exact hj))
              have HV2 := Aside0.mk (nameP_in (L := M) (i := at0 M j) (by rw [HLn.out]; omega))
              rw [HNm.out.fix j (by rw [HLn.out]; exact hj)] at HV2
              have HVE : Aside0 (∃ v, at0 M j = v) := ⟨⟨_, rfl⟩⟩
              obtain ⟨v, hvE⟩ := HVE.out
              rw [hvE] at hv HV1 HV2
              have hv1 : (v : Int) ≤ (j : Int) := by omega
              clear hvE HVE hv hj
              go_wp2_with fail
              refine (name_1 HP3.out (j : Int)).mono ?_
              rw [HV1.out]
              rintro e w5 ⟨rfl, h5⟩
              have H5 := Aside0.mk h5
              clear h5
              go_wp2_with fail
              refine (name_2 H5.out (j : Int)).mono ?_
              rw [HV1.out]
              rintro e w6 ⟨rfl, h5⟩
              have H6 := Aside0.mk h5
              clear h5
              go_wp2_with fail
              refine (size_1 H6.out (j : Int)).mono ?_
              rintro e w7 ⟨rfl, h5⟩
              have H7 := Aside0.mk h5
              clear h5
              go_wp2_with fail
              refine (size_2 H7.out (j : Int)).mono ?_
              rintro e w8 ⟨rfl, h5⟩
              have H8 := Aside0.mk h5
              clear h5
              generalize sizeP M (j : Int) = z
              go_wp2_with fail
              refine (name_1 H8.out (j : Int)).mono ?_
              rw [HV1.out]
              rintro e w9 ⟨rfl, h5⟩
              have H9 := Aside0.mk h5
              clear h5
              go_wp2_with fail
              refine (name_1 H9.out (v : Int)).mono ?_
              rw [HV2.out]
              rintro e wA ⟨rfl, h5⟩
              have HA := Aside0.mk h5
              clear h5
              go_wp2_with fail
              refine (name_1 HA.out (j : Int)).mono ?_
              rw [HV1.out]
              rintro e wB ⟨rfl, h5⟩
              have HB := Aside0.mk h5
              clear h5
              go_wp2_with fail
              refine (name_1 HB.out (j : Int)).mono ?_
              rw [HV1.out]
              rintro e wC ⟨rfl, h5⟩
              have HC := Aside0.mk h5
              clear h5
              go_wp2_with fail
              have hk := HJ.out
              go_roundg k1
              case measure => omega
              case rel => exact ⟨j + 1, by go_num, ⟨by omega⟩, HC⟩
            | zero =>
              have hj : j = m := by have := HJ.out; omega
              subst hj
              have HSe : Aside0 (∃ s, setsOf M = s) := ⟨⟨_, rfl⟩⟩
              obtain ⟨s, hs⟩ := HSe.out
              have HSs := Aside0.mk hs
              have hks := HK.out
              rw [hs] at hks
              have hks2 : (s : Int) = (j : Int) - (mk : Int) := by omega
              have hmk0 : (0 : Int) ≤ (mk : Int) := by omega
              have hmk1 : (mk : Int) ≤ 200 := by omega
              clear hs HSe hks
              go_wp2_with fail
              refine (sets_1 HP3.out).mono ?_
              rw [HSs.out]
              rintro e w5 ⟨rfl, rfl⟩
              go_wp2_with fail
              refine (sets_2 HP3.out).mono ?_
              rw [HSs.out]
              rintro e w5 ⟨rfl, rfl⟩
              go_wp2_with fail
              refine (sets_1 HP3.out).mono ?_
              rw [HSs.out]
              rintro e w5 ⟨rfl, rfl⟩
              go_wp2
              go_ret
              exact ⟨rfl, HP3.out.u1.bl⟩
end Go.Proofs.Ytmjecgkmgfocoaa
