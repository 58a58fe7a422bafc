/- ArenaPlays's walk. Conditions: a list of acts. -/
import Derived.Test.YtckimhfbbfpddaaA3
import Derived.Test.YtckimhfbbfpddaaA5
import Derived.Test.YtckimhfbbfpddaaAT
import Derived.Deep.RegionWith
namespace Go.Proofs.Ytckimhfbbfpddaa
open Go.RowKit Go.Proofs.YtckimhfbbfpddaaW.PrintWords Lb

theorem Rf.c0 {w : World} {F : Nat → Prop} {b : Nat} {L : List ByteArray} {T : List Bool} {Fr : List Int} {A1 A2 A3 : Option Addr} {c1 c2 c3 : Nat} (h : Rf w F b L T Fr A1 c1 A2 c2 A3 c3) : w.cell? ⟨b, 0, none⟩ = some (.slice A1 L.length c1) := by
  rw [blk_cell h.blk]; rfl

set_option maxHeartbeats 4000000 in
set_option maxRecDepth 100000 in
theorem plays_walk (w : World) (A : Option Addr) (c : Nat) (l : List Act) (hC : kdAct.C w A l.length l) (hW : ∀ a ∈ l, ActWf a) :
    Calls Try.prog 4 #[.slice A l.length c] w fun e w' => e = .returned (.bool true) ∧ Below w.heap.size w w' := by
  have HC := Aside0.mk hC
  have HWf := Aside0.mk hW
  clear hC hW
  obtain ⟨L, hL⟩ : ∃ L, l.length = L := ⟨_, rfl⟩
  rw [hL]
  rw [hL] at HC
  have HL := Aside0.mk hL
  go_enter Try.func4, Try.ntmps4
  go_wp2_with fail
  refine (awake_yes _).mono ?_
  rintro e w1 ⟨rfl, hB⟩
  have HB := Aside0.mk hB
  clear hB
  cases hG : Great l with
  | true =>
    have HG := Aside0.mk hG
    go_wp2_with fail
    refine (great_ok _ A c l L (Kd.C_below HC.out HB.out) HL.out).mono ?_
    rintro e w2 ⟨rfl, rfl⟩
    rw [HG.out]
    go_wp2
    go_ret
    exact ⟨rfl, HB.out⟩
  | false =>
    have HG := Aside0.mk hG
    have hL300 : L ≤ 300 := by
      simp [Great] at hG
      omega
    clear hG
    go_wp2_with fail
    refine (great_ok _ A c l L (Kd.C_below HC.out HB.out) HL.out).mono ?_
    rintro e w2 ⟨rfl, rfl⟩
    rw [HG.out]
    clear hL
    go_wp2_with fail
    refine (newS w1).mono ?_
    rintro e w3 ⟨rfl, rfl⟩
    obtain ⟨ba, hba⟩ : ∃ ba, w1.heap.size = ba := ⟨_, rfl⟩
    obtain ⟨w4, hw4⟩ : ∃ w4, (w1.alloc (.cells #[.slice none 0 0, .int .i32 0, .int .i64 0] 69)).alloc (.cells #[.slice none 0 0, .slice none 0 0, .slice none 0 0] 40) = w4 := ⟨_, rfl⟩
    have HD0 : Aside0 (Pl w w4 (fun k => k = ba) (fun k => k = ba + 1) ba (ba + 1) ⟨[], 0, 0⟩ [] [] []) := ⟨by
      subst hw4 hba
      have h1 := newS_at w1
      have hz := HB.out.size
      have hs : (w1.alloc (.cells #[.slice none 0 0, .int .i32 0, .int .i64 0] 69)).heap.size = w1.heap.size + 1 := by simp
      have hc : Chg Non (w1.alloc (.cells #[.slice none 0 0, .int .i32 0, .int .i64 0] 69)) _ := (Chg.refl _ _).alloc (.cells #[.slice none 0 0, .slice none 0 0, .slice none 0 0] 40)
      have h2 := blk_new (w1.alloc (.cells #[.slice none 0 0, .int .i32 0, .int .i64 0] 69)) (.cells #[.slice none 0 0, .slice none 0 0, .slice none 0 0] 40)
      rw [hs] at h2
      exact ⟨h1.keep hc (fun _ _ h => h), ⟨none, 0, none, 0, none, 0, ⟨fun k hk => by subst hk; simp, rfl, h2, Kd.R_nil _ _ _ _ _, Kd.R_nil _ _ _ _ _, Kd.R_nil _ _ _ _ _⟩⟩,
        below_alloc (below_alloc HB.out _) _, fun k hk => by omega, fun k hk => by omega, fun k h1 h2 => by omega⟩⟩
    go_wp2
    obtain ⟨bb, hbb⟩ : ∃ bb, ba + 1 = bb := ⟨_, rfl⟩
    try rw [hba]
    rw [hbb] at HD0
    try rw [hbb]
    try rw [hw4]
    clear hw4 hba hbb
    go_loopg [5, 6] L (fun gk v5 v6 wr => ∃ (j : Nat) (t : Int), v6 = .int .i64 (j : Int) ∧ v5 = .int .i64 t ∧ Aside0 (j + gk = L) ∧ Aside0 (-(j : Int) ≤ t ∧ t ≤ (j : Int)) ∧ Aside0 (∃ Fa Fb s Lr Tr Fr, Pl w wr Fa Fb ba bb s Lr Tr Fr ∧ Rel s Lr Tr Fr ∧ s.n = t ∧ Lr.length ≤ j ∧ Fr.length ≤ j))
    case atStart => exact ⟨0, 0, rfl, rfl, ⟨by omega⟩, ⟨by simp⟩, ⟨_, _, _, _, _, _, HD0.out, rel_new, rfl, Nat.le_refl _, Nat.le_refl _⟩⟩
    case round =>
      obtain ⟨j, t, rfl, rfl, HJ, HT, HX⟩ := hrel
      have hJ := HJ.out
      have ht := HT.out
      obtain ⟨Fa, Fb, s, Lr, Tr, Fr, hD, hQ, hn, hl1, hl2⟩ := HX.out
      have HD := Aside0.mk hD
      have HQ := Aside0.mk hQ
      have HN := Aside0.mk hn
      have HS := Aside0.mk (show s.slots.length = Lr.length from hQ.lS)
      clear hD HX hQ hn
      cases gk with
      | succ k1 =>
        have hlt : (j : Int) < (L : Int) := by omega
        have hj300 : j < 300 := by omega
        obtain ⟨g, o, rfl, c0, c1, c2⟩ := act_at HC.out j (by omega)
        have HWx := Aside0.mk (HWf.out (l.getD j default) (by
          rw [List.getD_eq_getElem?_getD, List.getElem?_eq_getElem (by rw [HL.out]; omega)]
          exact List.getElem_mem _))
        generalize l.getD j default = x at *
        obtain ⟨d, n, sx⟩ := x
        simp only at c0 c1 c2
        have HK : Aside0 (∀ w', Below w.heap.size w w' → w'.cell? ⟨g, o + j * 3 + 2, none⟩ = some (.string sx)) := ⟨fun w' hb => cell_keep c2 hb⟩
        have HK1 : Aside0 (∀ w', Below w.heap.size w w' → w'.cell? ⟨g, o + j * 3 + 1, none⟩ = some (.int .i32 n)) := ⟨fun w' hb => cell_keep c1 hb⟩
        have HGl := Aside0.mk (show g < w.heap.size from cell_in c2)
        replace c0 := cell_keep c0 HD.out.bl
        replace c1 := cell_keep c1 HD.out.bl
        replace c2 := cell_keep c2 HD.out.bl
        have hn0 : -2147483648 ≤ n := HWx.out.2.1.1
        have hn1 : n ≤ 2147483647 := HWx.out.2.1.2
        clear hJ
        by_cases hd0 : d = 0
        · subst hd0
          obtain ⟨L', T', Fr', hq', hl1', hl2', hR⟩ := takeR HQ.out sx (by omega) (by omega)
          have htn := takeN_in HQ.out.v
          have hsl := HS.out
          have hnn := HN.out
          have HQ' := Aside0.mk hq'
          have HN' : Aside0 ((takeP sx s).n = t + 1) := ⟨by rw [take_n HQ.out.v, HN.out]⟩
          have HR := Aside0.mk hR
          have HTk := Aside0.mk (fun (w' : World) (F : Nat → Prop) (h : ArenaS w' F ba s) => takeS h HQ.out.v sx (by omega) (by omega) (by omega))
          generalize takeN s = tn at *
          have htn0 := htn.1
          have htn1 : tn ≤ 1000 := by omega
          have HDd := Aside0.mk HD.out.drew
          clear hq' hR htn hsl hnn
          go_wp2
          have hwr : IntKind.i64.wrap tn = tn := IntWalk.i64_in _ (by omega)
          go_region_with (first | (go_at_call 16; refine (HTk.out _ _ HDd.out.x).mono ?_; rintro e w5 ⟨rfl, F', hA, hF, hc⟩; replace HDd := Aside0.mk (HDd.out.stepx hA hF hc); have c2' := HK.out _ HDd.out.bl; clear hA hF hc) | (go_at_call 17; refine (HR.out _ _ _ HDd.out.y).mono ?_; rintro e w6 ⟨rfl, F'', hA, hF, hc⟩; replace HDd := Aside0.mk (HDd.out.stepy hA hF hc); have c2'' := HK.out _ HDd.out.bl; clear hA hF hc))
          all_goals
            clear hwr
            obtain ⟨A1, c1, A2, c2, A3, c3, hy⟩ := HDd.out.y
            have hk0 := hy.c0
            clear hy
            go_wp2
            go_quiet (first | (go_at_call 22; refine Calls.quiet_of_same (v := .int .i64 (t + 1)) ((lenS (HDd.out.x.drewN _)).mono fun e w' ⟨he, hw⟩ => ⟨he.trans (ret_int HN'.out), hw.symm⟩)) | (go_at_call 23; refine Calls.quiet_of_same (v := .int .i64 (L'.length : Int)) ((slotsS (HDd.out.x.drewN _)).mono fun e w' ⟨he, hw⟩ => ⟨he.trans (ret_int (congrArg (fun n : Nat => (n : Int)) HQ'.out.lS)), hw.symm⟩)))
            go_wp2
            go_roundg k1
            case measure => omega
            case rel => exact ⟨j + 1, t + 1, by go_num, by go_num, ⟨by have := HJ.out; omega⟩, ⟨by omega⟩, ⟨_, _, _, _, _, _, HDd.out.drewN _, HQ'.out, HN'.out, by omega, by omega⟩⟩
        · have hd0' : (d == 0) = false := beq_eq_false_iff_ne.2 hd0
          by_cases hd1 : d = 1
          · subst hd1
            obtain ⟨T', Fr', hq', hl2', hR⟩ := dropR HQ.out n hn0 hn1 (by omega) (by omega)
            have hsl := HS.out
            have hnn := HN.out
            have HFr := Aside0.mk (fun (w' : World) (F : Nat → Prop) (h : ArenaS w' F ba s) => freeS h n hn0 hn1 (by omega) (by omega) (by omega))
            have HQ' := Aside0.mk hq'
            have HR := Aside0.mk hR
            have HNf := Aside0.mk (free_n s ByteArray.empty n)
            rw [hnn] at HNf
            clear hq' hR hsl hnn
            generalize isS s n = bi at *
            cases bi with
            | true =>
              have HN' : Aside0 ((freeP ByteArray.empty n s).n = t - 1) := ⟨HNf.out⟩
              go_wp2_with fail
              refine (HR.out _ _ _ HD.out.y).mono ?_
              rintro e w5 ⟨rfl, F', hA, hF, hc⟩
              have HD5 := Aside0.mk (HD.out.stepy hA hF hc)
              have c1' := HK1.out _ HD5.out.bl
              clear hA hF hc
              go_wp2_with fail
              refine (HFr.out _ _ HD5.out.x).mono ?_
              rintro e w6 ⟨rfl, hA, hc⟩
              have HD6 := Aside0.mk (HD5.out.stepx hA (fun k hk => .inl hk) hc)
              clear hA hc
              obtain ⟨A1, c1, A2, c2, A3, c3, hy⟩ := HD6.out.y
              have hk0 := hy.c0
              clear hy
              go_wp2
              go_quiet (first | (go_at_call 22; refine Calls.quiet_of_same (v := .int .i64 (t - 1)) ((lenS (HD6.out.x.drewN _)).mono fun e w' ⟨he, hw⟩ => ⟨he.trans (ret_int HN'.out), hw.symm⟩)) | (go_at_call 23; refine Calls.quiet_of_same (v := .int .i64 (Lr.length : Int)) ((slotsS (HD6.out.x.drewN _)).mono fun e w' ⟨he, hw⟩ => ⟨he.trans (ret_int (congrArg (fun n : Nat => (n : Int)) HQ'.out.lS)), hw.symm⟩)))
              go_wp2
              go_roundg k1
              case measure => omega
              case rel => exact ⟨j + 1, t - 1, by go_num, by go_num, ⟨by have := HJ.out; omega⟩, ⟨by omega⟩, ⟨_, _, _, _, _, _, HD6.out.drewN _, HQ'.out, HN'.out, by omega, by omega⟩⟩
            | false =>
              have HN' : Aside0 ((freeP ByteArray.empty n s).n = t) := ⟨HNf.out⟩
              go_wp2_with fail
              refine (HR.out _ _ _ HD.out.y).mono ?_
              rintro e w5 ⟨rfl, F', hA, hF, hc⟩
              have HD5 := Aside0.mk (HD.out.stepy hA hF hc)
              have c1' := HK1.out _ HD5.out.bl
              clear hA hF hc
              go_wp2_with fail
              refine (HFr.out _ _ HD5.out.x).mono ?_
              rintro e w6 ⟨rfl, hA, hc⟩
              have HD6 := Aside0.mk (HD5.out.stepx hA (fun k hk => .inl hk) hc)
              clear hA hc
              obtain ⟨A1, c1, A2, c2, A3, c3, hy⟩ := HD6.out.y
              have hk0 := hy.c0
              clear hy
              go_wp2
              go_quiet (first | (go_at_call 22; refine Calls.quiet_of_same (v := .int .i64 (t)) ((lenS (HD6.out.x.drewN _)).mono fun e w' ⟨he, hw⟩ => ⟨he.trans (ret_int HN'.out), hw.symm⟩)) | (go_at_call 23; refine Calls.quiet_of_same (v := .int .i64 (Lr.length : Int)) ((slotsS (HD6.out.x.drewN _)).mono fun e w' ⟨he, hw⟩ => ⟨he.trans (ret_int (congrArg (fun n : Nat => (n : Int)) HQ'.out.lS)), hw.symm⟩)))
              go_wp2
              go_roundg k1
              case measure => omega
              case rel => exact ⟨j + 1, t, by go_num, rfl, ⟨by have := HJ.out; omega⟩, ⟨by omega⟩, ⟨_, _, _, _, _, _, HD6.out.drewN _, HQ'.out, HN'.out, by omega, by omega⟩⟩
          · have hd1' : (d == 1) = false := beq_eq_false_iff_ne.2 hd1
            by_cases hd2 : d = 2
            · subst hd2
              cases hi : isS s n with
              | false =>
                have HI2 := Aside0.mk hi
                have hsl := HS.out
                have hAt := atS_no HD.out.x n hn0 hn1 (by omega) hi
                have HAt := Aside0.mk hAt
                clear hi hsl hAt
                go_wp2_with fail
                refine HAt.out.mono ?_
                rintro e w5 ⟨rfl, rfl⟩
                go_wp2_with fail
                refine (isRf HD.out.y HQ.out n hn0 hn1).mono ?_
                rintro e w5 ⟨rfl, rfl⟩
                rw [HI2.out]
                obtain ⟨A1, c1, A2, c2, A3, c3, hy⟩ := HD.out.y
                have hk0 := hy.c0
                clear hy
                go_wp2
                go_quiet (first | (go_at_call 22; refine Calls.quiet_of_same (v := .int .i64 (t)) ((lenS (HD.out.x.drewN _)).mono fun e w' ⟨he, hw⟩ => ⟨he.trans (ret_int HN.out), hw.symm⟩)) | (go_at_call 23; refine Calls.quiet_of_same (v := .int .i64 (Lr.length : Int)) ((slotsS (HD.out.x.drewN _)).mono fun e w' ⟨he, hw⟩ => ⟨he.trans (ret_int (congrArg (fun n : Nat => (n : Int)) HQ.out.lS)), hw.symm⟩)))
                go_wp2
                go_roundg k1
                case measure => omega
                case rel => exact ⟨j + 1, t, by go_num, rfl, ⟨by have := HJ.out; omega⟩, ⟨by omega⟩, ⟨_, _, _, _, _, _, HD.out.drewN _, HQ.out, HN.out, by omega, by omega⟩⟩
              | true =>
                have HI2 := Aside0.mk hi
                have hsl := HS.out
                obtain ⟨k, x, rfl, hx, htk⟩ := isS_some hi
                obtain ⟨A5, c5, h5⟩ := HD.out.x
                obtain ⟨ga, rfl, hFa, hgal, hcell, hfro⟩ := F_elem h5.row k x hx
                have hx0 : wr.cell? ⟨ga, k * 3, none⟩ = some (.string x.x) := hcell 0 _ rfl
                have hxf := hfro (k * 3)
                obtain ⟨A1, c1', A2, c2', A3, c3', hy⟩ := HD.out.y
                have hk : k < Lr.length := by rw [← hsl]; exact (List.getElem?_eq_some_iff.1 hx).1
                obtain ⟨g1, rfl, hg1, hc1, hf1, _⟩ := R_elem ByteArray.empty hy.r1 k hk
                have hk0 := hy.c0
                have hgl := HGl.out
                have hga := HD.out.ga ga hFa
                have hgb := HD.out.gb g1 hg1
                have n1 : ¬ g = ga := by omega
                have n1' : ¬ ga = g := by omega
                have n2 : ¬ g = g1 := by omega
                have n2' : ¬ g1 = g := by omega
                have n3 : ¬ g1 = ga := fun e => HD.out.ab ga hFa (by rw [← e]; exact hg1)
                have n3' : ¬ ga = g1 := fun e => n3 e.symm
                have n4 : ¬ bb = ga := fun e => HD.out.ab ga hFa (by rw [← e]; exact hy.hb)
                have n4' : ¬ ga = bb := fun e => n4 e.symm
                have hki : (k : Int) < (Lr.length : Int) := by omega
                have hCa := (Chg.refl Fa wr).set (p := ⟨ga, k * 3, none⟩) (.inl hFa) (.string sx)
                have hDx := HD.out.stepx (s' := { s with slots := s.slots.set k ⟨sx, true, x.next⟩ }) ⟨_, _, h5.set_cell hx 0 (.string sx) ⟨sx, true, x.next⟩ (by omega) (by simp [encS, htk])⟩ (fun k hk => .inl hk) hCa
                have hDy := hDx.stepy ⟨_, _, _, _, _, _, ((hy.keep hCa (fun k a b => HD.out.ab k b a)).set_text k hk sx)⟩ (fun k hk => .inl hk) ((Chg.refl Fb _).set (p := ⟨g1, k, none⟩) (.inl hg1) _)
                have HD6 := Aside0.mk hDy.drew
                have HQ' := Aside0.mk (HQ.out.write sx hx htk)
                have HN' : Aside0 ((⟨s.slots.set k ⟨sx, true, x.next⟩, s.free, s.n⟩ : Ar ByteArray).n = t) := ⟨HN.out⟩
                have HAt := Aside0.mk (atS_yes h5 rfl k x hx htk (by omega))
                have HLs : Aside0 ((Lr.set k sx).length = Lr.length) := ⟨List.length_set⟩
                clear hi hsl hcell hfro hy hk hx htk h5 hDx hDy hCa hgl hga hgb hFa hg1
                go_wp2_with fail
                refine HAt.out.mono ?_
                rintro e w5 ⟨rfl, rfl⟩
                go_wp2_with fail
                refine (isRf HD.out.y HQ.out ((k : Int) + 1) hn0 hn1).mono ?_
                rintro e w5 ⟨rfl, rfl⟩
                rw [HI2.out]
                go_wp2
                go_region
                clear hk0
                generalize ((wr.setCell ⟨ga, k * 3, none⟩ (.string sx)).setCell ⟨g1, k, none⟩ (.string sx)).drew = w6 at HD6 ⊢
                obtain ⟨A1, c1, A2, c2, A3, c3, hy⟩ := HD6.out.y
                have hk0 := hy.c0
                clear hy
                go_wp2
                go_quiet (first | (go_at_call 22; refine Calls.quiet_of_same (v := .int .i64 (t)) ((lenS (HD6.out.x.drewN _)).mono fun e w' ⟨he, hw⟩ => ⟨he.trans (ret_int HN'.out), hw.symm⟩)) | (go_at_call 23; refine Calls.quiet_of_same (v := .int .i64 ((Lr.set k sx).length : Int)) ((slotsS (HD6.out.x.drewN _)).mono fun e w' ⟨he, hw⟩ => ⟨he.trans (ret_int (congrArg (fun n : Nat => (n : Int)) HQ'.out.lS)), hw.symm⟩)))
                go_wp2
                go_roundg k1
                case measure => omega
                case rel => exact ⟨j + 1, t, by go_num, rfl, ⟨by have := HJ.out; omega⟩, ⟨by omega⟩, ⟨_, _, _, _, _, _, HD6.out.drewN _, HQ'.out, HN'.out, by rw [HLs.out]; omega, by omega⟩⟩
            · have hd2' : (d == 2) = false := beq_eq_false_iff_ne.2 hd2
              obtain ⟨A1, c1, A2, c2, A3, c3, hy⟩ := HD.out.y
              have hk0 := hy.c0
              clear hy
              go_wp2
              go_quiet (first | (go_at_call 22; refine Calls.quiet_of_same (v := .int .i64 (t)) ((lenS (HD.out.x.drewN _)).mono fun e w' ⟨he, hw⟩ => ⟨he.trans (ret_int HN.out), hw.symm⟩)) | (go_at_call 23; refine Calls.quiet_of_same (v := .int .i64 (Lr.length : Int)) ((slotsS (HD.out.x.drewN _)).mono fun e w' ⟨he, hw⟩ => ⟨he.trans (ret_int (congrArg (fun n : Nat => (n : Int)) HQ.out.lS)), hw.symm⟩)))
              go_wp2
              go_roundg k1
              case measure => omega
              case rel => exact ⟨j + 1, t, by go_num, rfl, ⟨by have := HJ.out; omega⟩, ⟨by omega⟩, ⟨_, _, _, _, _, _, HD.out.drewN _, HQ.out, HN.out, by omega, by omega⟩⟩
      | zero =>
        have hge : ¬ (j : Int) < (L : Int) := by omega
        have hLr : Lr.length ≤ 300 := by omega
        clear hJ
        go_wp2
        go_loopg [10] (Lr.length + 3) (fun gk v10 wr => ∃ z : Int, v10 = .int .i64 z ∧ Aside0 (z + gk = Lr.length + 2 ∧ -1 ≤ z) ∧ Aside0 (Pl w wr Fa Fb ba bb s Lr Tr Fr))
        case atStart => exact ⟨-1, rfl, ⟨by constructor <;> omega⟩, HD⟩
        case round =>
          obtain ⟨z, rfl, HZ, HD⟩ := hrel
          have hz := HZ.out
          have hsl := HS.out
          have hz0 := hz.2
          obtain ⟨A1, c1, A2, c2, A3, c3, hy⟩ := HD.out.y
          have hk0 := hy.c0
          cases gk with
          | succ k1 =>
            have hzl : z ≤ (Lr.length : Int) + 1 := by omega
            have hz1 : z ≤ 1000 := by omega
            cases hi : isS s z with
            | false =>
              have HI2 := Aside0.mk hi
              have HAt := Aside0.mk (atS_no HD.out.x z (by omega) (by omega) (by omega) hi)
              clear hi hsl hz hy
              go_wp2_with fail
              refine HAt.out.mono ?_
              rintro e w5 ⟨rfl, rfl⟩
              go_wp2
              go_quiet ((go_at_call 21; refine Calls.quiet_of_same (v := .bool false) ((isRf (HD.out.y.drewN _) HQ.out z (by omega) (by omega)).mono fun e w' ⟨he, hw⟩ => ⟨by rw [he, HI2.out], hw.symm⟩)))
              go_wp2
              go_roundg k1
              case measure => omega
              case rel => exact ⟨z + 1, by go_num, ⟨by have := HZ.out; omega⟩, ⟨HD.out.drewN _⟩⟩
            | true =>
              have HI2 := Aside0.mk hi
              obtain ⟨k, x, rfl, hx, htk⟩ := isS_some hi
              obtain ⟨A5, c5, h5⟩ := HD.out.x
              obtain ⟨ga, rfl, hFa, hgal, hcell, hfro⟩ := F_elem h5.row k x hx
              have hx0 : wr.cell? ⟨ga, k * 3, none⟩ = some (.string x.x) := hcell 0 _ rfl
              have hk : k < Lr.length := by rw [← hsl]; exact (List.getElem?_eq_some_iff.1 hx).1
              obtain ⟨g1, rfl, hg1, hc1, hf1, _⟩ := R_elem ByteArray.empty hy.r1 k hk
              have hLx : Lr.getD k ByteArray.empty = x.x := by
                rw [List.getD_eq_getElem?_getD, (HQ.out.ag k x hx).2 htk]; rfl
              rw [hLx] at hc1
              have hki : (k : Int) < (Lr.length : Int) := by omega
              have HAt := Aside0.mk (atS_yes h5 rfl k x hx htk (by omega))
              clear hi hsl hz hy hcell hfro hx htk h5 hLx hf1
              go_wp2_with fail
              refine HAt.out.mono ?_
              rintro e w5 ⟨rfl, rfl⟩
              go_wp2
              go_quiet ((go_at_call 21; refine Calls.quiet_of_same (v := .bool true) ((isRf (HD.out.y.drewN _) HQ.out ((k : Int) + 1) (by omega) (by omega)).mono fun e w' ⟨he, hw⟩ => ⟨by rw [he, HI2.out], hw.symm⟩)))
              go_wp2
              go_roundg k1
              case measure => omega
              case rel => exact ⟨(k : Int) + 1 + 1, by go_num, ⟨by have := HZ.out; omega⟩, ⟨HD.out.drewN _⟩⟩
          | zero =>
            have hzl : ¬ z ≤ (Lr.length : Int) + 1 := by omega
            clear hz hsl hy
            go_wp2
            go_ret
            exact ⟨rfl, HD.out.bl⟩
end Go.Proofs.Ytckimhfbbfpddaa
