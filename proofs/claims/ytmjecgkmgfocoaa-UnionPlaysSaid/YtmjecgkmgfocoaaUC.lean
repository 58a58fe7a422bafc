/- UnionPlays's walk. Conditions: a list of pairs, a pair, any number. -/
import Derived.Test.YtmjecgkmgfocoaaUB
import Derived.Test.YtmjecgkmgfocoaaClass
import Derived.Deep.DeepCutAuto
import Derived.Deep.RegionHeld3
namespace Go.Proofs.Ytmjecgkmgfocoaa
open Go.RowKit Go.Proofs.YtmjecgkmgfocoaaW.PrintWords Go.Proofs.YtmjecgkmgfocoaaW.PrintLast Go.Proofs.YtmjecgkmgfocoaaW.PrintMore Lb

set_option maxRecDepth 100000 in
set_option maxHeartbeats 8000000 in
theorem plays_walk (w : World) (n : Int) (A : Option Addr) (c : Nat) (l : List Pr) (x : Pr) (hC : kdP.C w A l.length l) : Calls Try.prog 4 #[.int .i64 n, .slice A l.length c, .agg #[.int .i64 x.a, .int .i64 x.b]] w fun e w' => e = .returned (.bool true) ∧ Below w.heap.size w w' := by
  have HCl := Aside0.mk hC
  obtain ⟨xa, xb⟩ := x
  have hmax : (l.length : Int) ≤ 9223372036854775807 := by have := hC.2.1; unfold maxLen at this; omega
  obtain ⟨N, hN⟩ : ∃ N, l.length = N := ⟨_, rfl⟩
  have HN := Aside0.mk hN
  rw [hN] at hmax ⊢
  clear hC
  have HB0 : Aside0 (∀ w', Below (w.alloc (.cells #[.int .i64 xa, .int .i64 xb] 32)).heap.size (w.alloc (.cells #[.int .i64 xa, .int .i64 xb] 32)) w' → Below w.heap.size w w' ∧ w'.cell? ⟨w.heap.size, 0, none⟩ = some (.int .i64 xa) ∧ w'.cell? ⟨w.heap.size, 1, none⟩ = some (.int .i64 xb)) := ⟨fun w' hb => by
    have h1 : Below w.heap.size w (w.alloc (.cells #[.int .i64 xa, .int .i64 xb] 32)) := below_alloc (Below.refl _ _) _
    have z := blk_below (blk_new w (.cells #[.int .i64 xa, .int .i64 xb] 32)) hb
    exact ⟨h1.trans ((Chg.of_below (F := Non) hb).below h1.size (fun _ e => e.elim)), by rw [blk_cell z]; rfl, by rw [blk_cell z]; rfl⟩⟩
  go_enter Try.func4, Try.ntmps4
  go_wp2_with fail
  generalize w.alloc (.cells #[.int .i64 xa, .int .i64 xb] 32) = w0 at HB0 ⊢
  refine (awake_yes _).mono ?_
  rintro e w1 ⟨rfl, hb⟩
  have HB1 := Aside0.mk hb
  clear hb
  by_cases h300 : (300 : Int) < (N : Int)
  · clear hN
    go_wp2
    go_ret
    exact ⟨rfl, (HB0.out _ HB1.out).1⟩
  have h300' : (N : Int) ≤ 300 := by omega
  clear h300 hN
  by_cases hn : n > 200 ∨ n < 0
  · by_cases hn2 : 0 < n ∧ n ≤ 4194304
    · have hn3 : (200 : Int) < n := by omega
      have hn4 := hn2.1
      have hn5 := hn2.2
      clear hn hn2
      go_wp2
      go_ret
      exact ⟨rfl, (HB0.out _ HB1.out).1⟩
    · have hn3 : n < 0 ∨ 4194304 < n := by omega
      have HNo := Aside0.mk hn3
      rcases hn3 with hn3 | hn3
      · have hn4 : ¬ (200 : Int) < n := by omega
        have hn5 : ¬ (0 : Int) < n := by omega
        clear hn hn2
        go_wp2_with fail
        refine (new_no w1 n HNo.out).mono ?_
        rintro e w2 ⟨rfl, hb⟩
        have HB2 : Aside0 (Below w0.heap.size w0 w2) := ⟨HB1.out.trans ((Chg.of_below (F := Non) hb).below HB1.out.size (fun _ e => e.elim))⟩
        clear hb
        go_wp2
        go_ret
        exact ⟨rfl, (HB0.out _ HB2.out).1⟩
      · have hn4 : (200 : Int) < n := by omega
        have hn5 : (0 : Int) < n := by omega
        have hn6 : ¬ n ≤ 4194304 := by omega
        clear hn hn2
        go_wp2_with fail
        refine (new_no w1 n HNo.out).mono ?_
        rintro e w2 ⟨rfl, hb⟩
        have HB2 : Aside0 (Below w0.heap.size w0 w2) := ⟨HB1.out.trans ((Chg.of_below (F := Non) hb).below HB1.out.size (fun _ e => e.elim))⟩
        clear hb
        go_wp2
        go_ret
        exact ⟨rfl, (HB0.out _ HB2.out).1⟩
  · obtain ⟨m, rfl⟩ := Int.eq_ofNat_of_zero_le (show 0 ≤ n by omega)
    have hm : (m : Int) ≤ 200 := by omega
    have hm0 : (0 : Int) ≤ (m : Int) := by omega
    have HM := Aside0.mk (show m ≤ 200 by omega)
    have hd1 : decide ((200 : Int) < (m : Int)) = false := decide_eq_false (by omega)
    have hd2 : decide ((m : Int) < 0) = false := decide_eq_false (by omega)
    clear hn
    go_wp2_with fail
    refine (new_ok w1 m (by have := HM.out; omega)).mono ?_
    rintro e w2 ⟨b, rfl, g1, g2, g3, h1, h2, h3⟩
    have H2 : Aside0 (Us w0 w2 b g1 g2 g3 (alone m)) := ⟨⟨h1, fun k hk => Nat.le_trans HB1.out.size (h2 k hk), HB1.out.trans ((Chg.of_below (F := Non) h3).below HB1.out.size (fun _ e => e.elim))⟩⟩
    clear h1 h2 h3
    go_wp2_with fail
    refine (rnew_ok w2 m (by have := HM.out; omega)).mono ?_
    rintro e w3 ⟨b2, rfl, F, h1, h2, h3⟩
    have H3 := Aside0.mk (Pl.make H2.out h1 h2 h3)
    clear h1 h2 h3
    go_wp2_with fail
    go_loopg [12] N (fun gk v wr => ∃ (i : Nat) (L : List Nat), v = .int .i64 (i : Int) ∧ Aside0 (i + gk = N) ∧ Aside0 (L.length = m) ∧ Aside0 (Pl w0 wr b g1 g2 g3 L F b2 L))
    case atStart => exact ⟨0, alone m, rfl, ⟨by omega⟩, ⟨by simp [alone]⟩, H3⟩
    case round =>
      obtain ⟨i, L, rfl, HI, HLm, HP⟩ := hrel
      cases gk with
      | succ k1 =>
        have hin : i < N := by have := HI.out; omega
        have hi1 : (i : Int) < (N : Int) := by omega
        have hi0 : (0 : Int) ≤ (i : Int) := by omega
        have hi3 : (i : Int) ≤ 300 := by omega
        obtain ⟨g, o, rfl, a0, a1⟩ := pr_at (by have := HCl.out; rwa [HN.out] at this) i hin
        have HS : Aside0 (∀ w', Below w0.heap.size w0 w' → w'.cell? ⟨g, o + i * 2, none⟩ = some (.int .i64 (prAt l i).a) ∧ w'.cell? ⟨g, o + i * 2 + 1, none⟩ = some (.int .i64 (prAt l i).b)) := ⟨fun w' hb => ⟨bsome (HB0.out _ hb).1 _ _ a0, bsome (HB0.out _ hb).1 _ _ a1⟩⟩
        clear a0 a1 hin
        generalize (prAt l i).a = pa at HS
        generalize (prAt l i).b = pb at HS
        have HCB : Aside0 (∃ cb, canP L pa pb = cb) := ⟨⟨_, rfl⟩⟩
        obtain ⟨cb, hcb⟩ := HCB.out
        have HCb := Aside0.mk hcb
        clear hcb HCB
        have HLl : Aside0 (L.length ≤ 1000000) := ⟨by rw [HLm.out]; have := HM.out; omega⟩
        go_upto_region 17 with fail
        replace HP := Aside0.mk HP.out.drew
        go_region_held3 (fun w' => w'.cell? ⟨g, o + i * 2, none⟩ = some (.int .i64 pa) ∧ w'.cell? ⟨g, o + i * 2 + 1, none⟩ = some (.int .i64 pb))
          (first | exact HS.out _ HP.out.u.bl | go_keep)
          (first | (go_at_call 13; refine (join_pu HP.out pa pb).mono ?_; rw [HCb.out]; rintro e w5 ⟨rfl, h5⟩; replace HP := Aside0.mk h5; clear h5) | (go_at_call 17; refine (join_pr HP.out HLl.out pa pb).mono ?_; rw [HCb.out]; rintro e w5 ⟨rfl, h5⟩; replace HP := Aside0.mk h5; clear h5))
        all_goals
          go_wp2_with fail
          have hk := HI.out
          go_roundg k1
          case measure => omega
          case rel => exact ⟨i + 1, joinP L pa pb, by go_num, ⟨by omega⟩, ⟨by rw [joinP_len]; exact HLm.out⟩, HP⟩
      | zero =>
        have hi : i = N := by have := HI.out; omega
        subst hi
        have HLl : Aside0 (L.length ≤ 1000000) := ⟨by rw [HLm.out]; have := HM.out; omega⟩
        go_wp2
        go_loopg [13] (m + 2) (fun gk v wr => ∃ i : Int, v = .int .i64 i ∧ Aside0 (-1 ≤ i ∧ i + (gk : Int) = (m : Int) + 1) ∧ Aside0 (Pl w0 wr b g1 g2 g3 L F b2 L))
        case atStart => exact ⟨-1, rfl, ⟨by omega, by omega⟩, HP⟩
        case round =>
          obtain ⟨i, rfl, HJ, HP2⟩ := hrel
          cases gk with
          | succ k1 =>
            have hj1 := HJ.out.1
            have hj2 : i ≤ (m : Int) := by have := HJ.out.2; omega
            go_wp2_with fail
            refine (name_pu HP2.out i).mono ?_
            rintro e w5 ⟨rfl, h5⟩
            have H5 := Aside0.mk h5
            clear h5
            go_wp2_with fail
            refine (name_pr H5.out i).mono ?_
            rintro e w6 ⟨rfl, rfl⟩
            generalize nameP L i = q
            go_wp2_with fail
            refine (size_pu H5.out i).mono ?_
            rintro e w6 ⟨rfl, h6⟩
            have H6 := Aside0.mk h6
            clear h6
            go_wp2_with fail
            refine (size_pr H6.out HLl.out i).mono ?_
            rintro e w7 ⟨rfl, rfl⟩
            generalize sizeP L i = z
            go_wp2_with fail
            have hk := HJ.out
            go_roundg k1
            case measure => omega
            case rel => exact ⟨i + 1, by go_num, ⟨by omega, by omega⟩, H6⟩
          | zero =>
            have hj : i = (m : Int) + 1 := by have := HJ.out.2; omega
            subst hj
            have HX := Aside0.mk (fun w' hb => (HB0.out w' hb).2)
            go_upto_region 24 with fail
            go_cut [14] from 15 to 123 (fun v wc => v = .bool (sameP L xa xb) ∧ Aside0 (Pl w0 wc b g1 g2 g3 L F b2 L))
            case first =>
              have HSN := Aside0.mk (same_name L xa xb)
              have hx0 : ∀ q : Wd (fun w' => Pl w0 w' b g1 g2 g3 L F b2 L), q.w.cell? ⟨w.heap.size, 0, none⟩ = some (.int .i64 xa) := fun q => (HX.out _ q.h.u.bl).1
              have hx1 : ∀ q : Wd (fun w' => Pl w0 w' b g1 g2 g3 L F b2 L), q.w.cell? ⟨w.heap.size, 1, none⟩ = some (.int .i64 xb) := fun q => (HX.out _ q.h.u.bl).2
              by_cases hp0 : 0 ≤ nameP L xa
              · have hne : Nonempty (Wd (fun w' => Pl w0 w' b g1 g2 g3 L F b2 L)) := ⟨⟨_, HP2.out.drew⟩⟩
                refine wp_region_class (fun w' => Pl w0 w' b g1 g2 g3 L F b2 L) HP2.out.drew (by kernel_rfl) (by kernel_rfl) ?_
                repeat (go_big_quiet_step (first | (go_at_call 18; exact in_class_same (fun w' h => name_pr h _))))
                refine wpQuiet_nil ?_
                intro _ hw'
                obtain ⟨⟨nw, hnw⟩, hw''⟩ := hw'
                subst hw''
                clear hne
                have hs : sameP L xa xb = (nameP L xa == nameP L xb) := by rw [HSN.out, decide_eq_true hp0, Bool.true_and]
                have HSs := Aside0.mk hs
                have HNw := Aside0.mk hnw
                clear hs hnw
                go_wp2_with fail
                go_meet
                exact ⟨by rw [HSs.out], HNw⟩
              · have hp1 : decide (0 ≤ nameP L xa) = false := decide_eq_false hp0
                have hp2 : nameP L xa < 0 := by omega
                have hne : Nonempty (Wd (fun w' => Pl w0 w' b g1 g2 g3 L F b2 L)) := ⟨⟨_, HP2.out.drew⟩⟩
                refine wp_region_class (fun w' => Pl w0 w' b g1 g2 g3 L F b2 L) HP2.out.drew (by kernel_rfl) (by kernel_rfl) ?_
                repeat (go_big_quiet_step (first | (go_at_call 18; exact in_class_same (fun w' h => name_pr h _))))
                refine wpQuiet_nil ?_
                intro _ hw'
                obtain ⟨⟨nw, hnw⟩, hw''⟩ := hw'
                subst hw''
                clear hne
                have hs : sameP L xa xb = false := by rw [HSN.out, hp1, Bool.false_and]
                have HSs := Aside0.mk hs
                have HNw := Aside0.mk hnw
                clear hs hnw
                go_wp2_with fail
                go_meet
                exact ⟨by rw [HSs.out], HNw⟩
            case rest =>
              obtain ⟨rfl, HP3⟩ := hcut
              obtain ⟨sb, hsb⟩ : ∃ sb, sameP L xa xb = sb := ⟨_, rfl⟩
              rw [hsb]
              have HSb := Aside0.mk hsb
              clear hsb HP2 HCl HB1 H2 H3 HP HI HJ HN hmax hm hm0 hd1 hd2 h300' HM
              go_upto_region 25 with fail
              have hx0 : ∀ q : Wd (fun w' => Pl w0 w' b g1 g2 g3 L F b2 L), q.w.cell? ⟨w.heap.size, 0, none⟩ = some (.int .i64 xa) := fun q => (HX.out _ q.h.u.bl).1
              have hx1 : ∀ q : Wd (fun w' => Pl w0 w' b g1 g2 g3 L F b2 L), q.w.cell? ⟨w.heap.size, 1, none⟩ = some (.int .i64 xb) := fun q => (HX.out _ q.h.u.bl).2
              have hne : Nonempty (Wd (fun w' => Pl w0 w' b g1 g2 g3 L F b2 L)) := ⟨⟨_, HP3.out.drew⟩⟩
              refine wp_region_class (fun w' => Pl w0 w' b g1 g2 g3 L F b2 L) HP3.out.drew (by kernel_rfl) (by kernel_rfl) ?_
              repeat (go_big_quiet_step (first | (go_at_call 14; refine in_class (v := .bool sb) (fun w' h => ((same_pu h xa xb).mono fun e w'' h2 => ⟨h2.1.trans (bool_eq HSb.out), h2.2⟩))) | (go_at_call 12; exact in_class (fun w' h => name_pu h _)) | (go_at_call 18; exact in_class_same (fun w' h => name_pr h _)) | (go_at_call 15; exact in_class (fun w' h => size_pu h _)) | (go_at_call 19; exact in_class_same (fun w' h => size_pr h HLl.out _)) | (go_at_call 11; exact in_class_same (fun w' h => sets_pu h)) | (go_at_call 20; exact in_class_same (fun w' h => sets_pr h HLl.out)) | (go_at_call 21; refine in_class_same (v := .int .i64 (m : Int)) (fun w' h => ((len_pu h).mono fun e w'' h2 => ⟨h2.1.trans (ret_int (by rw [HLm.out])), h2.2⟩)))))
              refine wpQuiet_nil ?_
              intro _ hw'
              obtain ⟨⟨nw, hnw⟩, hw''⟩ := hw'
              subst hw''
              clear hne
              clear hx0 hx1
              have HP3 := Aside0.mk hnw
              go_wp2
              go_ret
              exact ⟨rfl, (HB0.out _ HP3.out.u.bl).1⟩
end Go.Proofs.Ytmjecgkmgfocoaa
