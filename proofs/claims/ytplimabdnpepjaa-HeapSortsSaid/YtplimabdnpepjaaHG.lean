/- HeapSorts's walk. Conditions: a list of entries. -/
import Derived.Test.YtplimabdnpepjaaHF
namespace Go.Proofs.Ytplimabdnpepjaa
open Go.RowKit Go.Proofs.YtplimabdnpepjaaW.PrintWords Go.Proofs.YtplimabdnpepjaaW.PrintLast Go.Proofs.YtplimabdnpepjaaW.PrintMore Lb

theorem info4 : (Try.prog.info? 4).map (fun i => (i.zero, i.size, i.bytes)) = some (some (.bool false), 1, 1) := by kernel_rfl
set_option maxRecDepth 100000 in
set_option maxHeartbeats 8000000 in
theorem sorts_walk (w : World) (A : Option Addr) (c : Nat) (l : List Entry) (hC : kdE.C w A l.length l) : Calls Try.prog 7 #[.slice A l.length c] w fun e w' => e = .returned (.bool true) ∧ Below w.heap.size w w' := by
  have hmax : (l.length : Int) ≤ 9223372036854775807 := by have := hC.2.1; unfold maxLen at this; omega
  have HCl := Aside0.mk hC
  clear hC
  go_enter Try.func7, Try.ntmps7
  go_wp2_with fail
  refine (awake_yes _).mono ?_
  rintro e w1 ⟨rfl, hb⟩
  have HB1 := Aside0.mk hb
  clear hb
  by_cases h300 : (300 : Int) < (l.length : Int)
  · go_wp2
    go_ret
    exact ⟨rfl, HB1.out⟩
  · have h300' : (l.length : Int) ≤ 300 := by omega
    have HP0 := Aside0.mk (Pq.new HB1.out)
    clear h300
    go_wp2
    go_loopg [5] l.length (fun gk v wr => ∃ (i : Nat) (F G : Nat → Prop), v = .int .i64 (i : Int) ∧ Aside0 (i + gk = l.length) ∧ Aside0 (Pq w wr w1.heap.size (w1.heap.size + 1) F G (insAll (l.take i)) (insAll (l.reverse.take i))))
    case atStart => exact ⟨0, _, _, rfl, ⟨by omega⟩, HP0⟩
    case round =>
      obtain ⟨i, F, G, rfl, HI, HP⟩ := hrel
      have hI := HI.out
      cases gk with
      | succ k1 =>
        have hi : (i : Int) < (l.length : Int) := by omega
        have hin : i < l.length := by omega
        have hi3 : (i : Int) ≤ 300 := by omega
        have HS1 := Aside0.mk (insAll_take (l := l) (i := i) hin)
        have HS2 := Aside0.mk (insAll_take (l := l.reverse) (i := i) (by simpa using hin))
        have HL1 : Aside0 ((insAll (l.take i)).length ≤ 100000) := ⟨by rw [insAll_len, List.length_take]; omega⟩
        have HL2 : Aside0 ((insAll (l.reverse.take i)).length ≤ 100000) := ⟨by rw [insAll_len, List.length_take]; omega⟩
        obtain ⟨g, o, rfl, a0, a1, a2⟩ := ent_at (Kd.C_below HCl.out HP.out.bel) i hin
        obtain ⟨j, hj⟩ : ∃ j : Nat, (l.length : Int) - 1 - (i : Int) = (j : Int) := ⟨l.length - 1 - i, by omega⟩
        have hjn : j < l.length := by omega
        have hjl : (j : Int) < (l.length : Int) := by omega
        have HJ := Aside0.mk (show j = l.length - 1 - i by omega)
        clear hI
        go_wp2_with fail
        refine (push_S HP.out.ho (entAt l i) HL1.out).mono ?_
        rintro e w2 ⟨rfl, F2, hA, hF, hC⟩
        have HP2 := Aside0.mk (HP.out.stepF hA hF hC)
        clear hA hF hC a0 a1 a2
        obtain ⟨g', o', e', b0, b1, b2⟩ := ent_at (Kd.C_below HCl.out HP2.out.bel) j hjn
        injection e' with e'
        injection e' with e1' e2'
        subst e1' e2'
        rw [← entAt_rev hin HJ.out] at b0 b1 b2
        go_wp2_with fail
        refine (push_S HP2.out.rf (entAt l.reverse i) HL2.out).mono ?_
        rintro e w3 ⟨rfl, G3, hA, hG, hC⟩
        have HP3 := Aside0.mk (HP2.out.stepG hA hG hC)
        clear hA hG hC b0 b1 b2 hj
        go_wp2
        go_roundg k1
        case measure => omega
        case rel => exact ⟨i + 1, F2, G3, by go_num, ⟨by have := HI.out; omega⟩, ⟨by rw [HS1.out, HS2.out]; exact HP3.out⟩⟩
      | zero =>
        have hi : (l.length : Int) ≤ (i : Int) := by omega
        have hE1 : insAll (l.take i) = insAll l := by rw [List.take_of_length_le (by omega)]
        have hE2 : insAll (l.reverse.take i) = insAll l := by
          rw [List.take_of_length_le (by rw [List.length_reverse]; omega)]
          have s1 := HP.out.rf.srt
          have s2 := HP.out.ho.srt
          rw [List.take_of_length_le (by rw [List.length_reverse]; omega)] at s1
          rw [hE1] at s2
          exact srt_uniq s1 s2 ((insAll_perm _ _ rfl).trans ((List.reverse_perm l).trans (insAll_perm _ l rfl).symm))
        have hp := HP.out
        rw [hE1, hE2] at hp
        obtain ⟨S, hS⟩ : ∃ S, S = insAll l := ⟨_, rfl⟩
        rw [← hS] at hp
        have HSS := Aside0.mk hS
        have HSr := Aside0.mk hp.ho.srt
        have HSn : Aside0 (S.length = l.length) := ⟨by rw [hS, insAll_len]⟩
        have HPS := Aside0.mk hp
        have hn6 : ∀ k, F k → k ≠ wr.heap.size ∧ k ≠ wr.heap.size + 1 := fun k hk => ⟨fun e => by have := hp.ho.lt k hk; omega, fun e => by have := hp.ho.lt k hk; omega⟩
        have hn7 : ∀ k, G k → k ≠ wr.heap.size ∧ k ≠ wr.heap.size + 1 := fun k hk => ⟨fun e => by have := hp.rf.lt k hk; omega, fun e => by have := hp.rf.lt k hk; omega⟩
        have HN6 := Aside0.mk hn6
        have HN7 := Aside0.mk hn7
        have HBz := Aside0.mk hp.bel.size
        clear hI hE1 hE2 hp hS hn6 hn7 HP
        go_wp2_with ((with_reducible refine gate_ (.makeSlice 49 (.tmp 49) (.tmp 49)) rfl ?_); go_must (refine Kd.R_make Kd.bool (w0 := wr) wr.heap.size 4 rfl rfl 49 _ _ rfl (l.length : Int) rfl rfl Try.underlying49 (.bool false) 1 info4 rfl (by decide) (by decide) false (okp := fun _ => False) (ok := fun k => k = wr.heap.size + 1) rfl (fun _ h => h.elim) (by simp) (by omega) (by simp; omega) (below_alloc (Below.refl _ _) _) (by simp) ?_; intro v1 w2 hR hB hg hnb; obtain ⟨Am, nm, cm, hv, HNm, _, _, HRm⟩ := R_outN hR; subst hv; have HBm := Aside0.mk hB; have HGm := Aside0.mk hg; have hnbm := Aside0.mk hnb; clear hR hB hg hnb))
        have hcm : Chg Non (wr.alloc (.cells #[.int .i64 0, .int .i64 0, .int .i64 0] 27)) w2 := Chg.of_grown HGm.out (fun _ e => by cases e)
        have HSo : Aside0 (So w w2 w1.heap.size (w1.heap.size + 1) wr.heap.size (wr.heap.size + 1) F G (S.drop 0) (S.drop 0) (List.replicate l.length false) Am nm cm ⟨0, 0, 0⟩) := ⟨by
          have h1 := HPS.out.below (below_alloc (Below.refl wr.heap.size wr) (.cells #[.int .i64 0, .int .i64 0, .int .i64 0] 27))
          have h2 := h1.other hcm (fun _ e => e.elim)
          have h3 := HBz.out
          have hrm : Kd.bool.R 4 w2 0 (fun k => k = wr.heap.size + 1) (.slice Am nm cm) (List.replicate l.length false) := by
            have := Kd.R_lower HRm.out (Nat.zero_le _)
            rwa [Int.toNat_natCast] at this
          have hsz : (wr.alloc (.cells #[.int .i64 0, .int .i64 0, .int .i64 0] 27)).heap.size = wr.heap.size + 1 := by simp
          have hlg : wr.heap.size + 1 < w2.heap.size := by
            obtain ⟨q, hq, _⟩ := hnbm.out
            have := Kd.R_lt hrm wr.heap.size.succ
            have e := HRm.out.1 q hq
            have := Kd.R_lt hrm q hq
            omega
          exact ⟨h2, HN6.out, HN7.out, by omega, by omega, by omega, hlg, hcm.blk (blk_new wr _) (fun e => e), hrm⟩⟩
        have HU : Aside0 ((unmet l (List.replicate l.length false)).Perm (S.drop 0)) := ⟨by rw [unmet_rep, HSS.out]; exact (insAll_perm _ l rfl).symm⟩
        clear HNm HRm HBm HGm HPS HBz HN6 HN7 hcm hnbm
        generalize hT6 : wr.heap.size = T6 at HSo ⊢
        clear hT6
        go_loopg [8] l.length (fun gk v wr => ∃ (i : Nat) (M : List Bool) (p : Entry), v = .int .i64 (i : Int) ∧ Aside0 (i + gk = l.length) ∧ Aside0 (So w wr w1.heap.size (w1.heap.size + 1) T6 (T6 + 1) F G (S.drop i) (S.drop i) M Am nm cm p) ∧ Aside0 ((unmet l M).Perm (S.drop i)) ∧ Aside0 (M.length = l.length) ∧ Aside0 (0 < i → p = entAt S (i - 1)))
        case atStart => exact ⟨0, _, _, rfl, ⟨by omega⟩, HSo, HU, ⟨by simp⟩, ⟨fun h => by omega⟩⟩
        case round =>
          obtain ⟨i, M, p, rfl, HI, HO, HU, HM, HP⟩ := hrel
          have hI := HI.out
          cases gk with
          | zero =>
            have hi : (l.length : Int) ≤ (i : Int) := by omega
            have hd : S.drop i = [] := List.drop_eq_nil_of_le (by have := HSn.out; omega)
            have ho := HO.out
            rw [hd] at ho
            have HE := Aside0.mk ho
            clear hI hd ho
            go_wp2_with fail
            refine (pop_S0 HE.out.pq.ho).mono ?_
            rintro e w3 ⟨rfl, hb⟩
            have HE3 := Aside0.mk (HE.out.below hb)
            clear hb
            go_wp2
            go_ret
            exact ⟨rfl, below_alloc HE3.out.pq.bel _⟩
          | succ k1 =>
            have hi : (i : Int) < (l.length : Int) := by omega
            have hi3 : (i : Int) ≤ 300 := by omega
            obtain ⟨x, S', hS⟩ : ∃ x S', S.drop i = x :: S' := ⟨_, _, List.drop_eq_getElem_cons (by have := HSn.out; omega)⟩
            obtain ⟨hiS, hxi, hS'⟩ := entAt_drop hS
            have ho := HO.out
            rw [hS] at ho
            have hu := HU.out
            rw [hS] at hu
            obtain ⟨j0, ⟨hj1, hj2, hj3, hj4⟩, hjm⟩ := unmet_first (hu.symm.mem_iff.1 List.mem_cons_self)
            have HU2 := Aside0.mk hu
            have HJ3 := Aside0.mk hj3
            have HJ4 := Aside0.mk hj4
            have HJm := Aside0.mk hjm
            have HO1 := Aside0.mk ho
            have HS' := Aside0.mk hS'
            have HXi := Aside0.mk hxi
            have hslen : S'.length = l.length - 1 - i := by rw [← hS', List.length_drop]; have := HSn.out; omega
            have HSl := Aside0.mk (show ((S'.length : Nat) : Int) = (l.length : Int) - 1 - (i : Int) by omega)
            have hsl2 : S'.length ≤ 100000 := by omega
            have hj1' : (j0 : Int) < (l.length : Int) := by omega
            clear hI hS hiS hxi hS' ho hu hj3 hj4 hjm hslen
            go_wp2_with fail
            refine (pop_S HO1.out.pq.ho hsl2).mono ?_
            rintro e w3 ⟨rfl, hA, hC⟩
            have HO2 := Aside0.mk ((HO1.out.popF hA hC).below (below_alloc (Below.refl w3.heap.size w3) (.cells #[.int .i64 x.f, .int .i64 x.g, .int .i64 x.c] 27)))
            have HZ9 := Aside0.mk (blk_new w3 (.cells #[.int .i64 x.f, .int .i64 x.g, .int .i64 x.c] 27))
            have HLG := Aside0.mk (show T6 + 1 < w3.heap.size from (HO1.out.popF hA hC).lg)
            have HG9 : Aside0 (¬ G w3.heap.size) := ⟨fun e => by have := HO1.out.pq.rf.lt _ e; have := hC.size; omega⟩
            clear hA hC
            go_wp2_with fail
            refine (pop_S HO2.out.pq.rf hsl2).mono ?_
            rintro e w4 ⟨rfl, hA, hC⟩
            have HO3 := Aside0.mk ((HO2.out.popG hA hC).below (below_alloc (Below.refl w4.heap.size w4) (.cells #[.int .i64 x.f, .int .i64 x.g, .int .i64 x.c] 27)))
            have hz9 := ((Chg.refl Non w4).alloc (.cells #[.int .i64 x.f, .int .i64 x.g, .int .i64 x.c] 27)).blk (hC.blk HZ9.out HG9.out) (fun e => e)
            have hz11 := blk_new w4 (.cells #[.int .i64 x.f, .int .i64 x.g, .int .i64 x.c] 27)
            have HY9 := Aside0.mk hz9
            have q0 : (w4.alloc (.cells #[.int .i64 x.f, .int .i64 x.g, .int .i64 x.c] 27)).cell? ⟨w3.heap.size, 0, none⟩ = some (.int .i64 x.f) := by rw [blk_cell hz9]; rfl
            have q1 : (w4.alloc (.cells #[.int .i64 x.f, .int .i64 x.g, .int .i64 x.c] 27)).cell? ⟨w3.heap.size, 1, none⟩ = some (.int .i64 x.g) := by rw [blk_cell hz9]; rfl
            have q2 : (w4.alloc (.cells #[.int .i64 x.f, .int .i64 x.g, .int .i64 x.c] 27)).cell? ⟨w3.heap.size, 2, none⟩ = some (.int .i64 x.c) := by rw [blk_cell hz9]; rfl
            have r0 : (w4.alloc (.cells #[.int .i64 x.f, .int .i64 x.g, .int .i64 x.c] 27)).cell? ⟨w4.heap.size, 0, none⟩ = some (.int .i64 x.f) := by rw [blk_cell hz11]; rfl
            have r1 : (w4.alloc (.cells #[.int .i64 x.f, .int .i64 x.g, .int .i64 x.c] 27)).cell? ⟨w4.heap.size, 1, none⟩ = some (.int .i64 x.g) := by rw [blk_cell hz11]; rfl
            have r2 : (w4.alloc (.cells #[.int .i64 x.f, .int .i64 x.g, .int .i64 x.c] 27)).cell? ⟨w4.heap.size, 2, none⟩ = some (.int .i64 x.c) := by rw [blk_cell hz11]; rfl
            have p0 : (w4.alloc (.cells #[.int .i64 x.f, .int .i64 x.g, .int .i64 x.c] 27)).cell? ⟨T6, 0, none⟩ = some (.int .i64 p.f) := by rw [blk_cell HO3.out.z6]; rfl
            have p1 : (w4.alloc (.cells #[.int .i64 x.f, .int .i64 x.g, .int .i64 x.c] 27)).cell? ⟨T6, 1, none⟩ = some (.int .i64 p.g) := by rw [blk_cell HO3.out.z6]; rfl
            have p2 : (w4.alloc (.cells #[.int .i64 x.f, .int .i64 x.g, .int .i64 x.c] 27)).cell? ⟨T6, 2, none⟩ = some (.int .i64 p.c) := by rw [blk_cell HO3.out.z6]; rfl
            clear hA hC hz9 hz11
            go_upto_region 18 with fail
            go_cut [96] from 51 to 125 (fun v96 wc => v96 = .bool false ∧ So w wc w1.heap.size (w1.heap.size + 1) T6 (T6 + 1) F G S' S' M Am nm cm p ∧ wc.heap[w3.heap.size]? = some (.cells #[.int .i64 x.f, .int .i64 x.g, .int .i64 x.c] 27 (0, 0)))
            case first =>
              rcases Nat.eq_zero_or_pos i with hz | hz
              · subst hz
                go_wp2_with fail
                refine (len_S HO3.out.pq.ho).mono ?_
                rintro e w5 ⟨rfl, rfl⟩
                rw [HSl.out]
                go_wp2
                go_meet
                exact ⟨rfl, HO3.out, HY9.out⟩
              · have HL0 : Aside0 (lessE x p = false) := ⟨by
                  rw [HP.out hz, ← HXi.out]
                  exact srt_at HSr.out (by omega) (by have := HSn.out; omega)⟩
                go_wp2_with fail
                refine (less_ok _ x p).mono ?_
                rintro e w5 ⟨rfl, hb⟩
                rw [HL0.out]
                have HO5 := Aside0.mk (HO3.out.below hb)
                have HY5 := Aside0.mk ((Chg.of_below (F := Non) hb).blk HY9.out (fun e => e))
                clear hb p0 p1 p2 q0 q1 q2 r0 r1 r2
                go_wp2_with fail
                refine (len_S HO5.out.pq.ho).mono ?_
                rintro e w6 ⟨rfl, rfl⟩
                rw [HSl.out]
                go_wp2
                go_meet
                exact ⟨rfl, HO5.out, HY5.out⟩
            case rest =>
              obtain ⟨rfl, ho, hy⟩ := hcut
              have HO6 := Aside0.mk ho
              have HY6 := Aside0.mk hy
              clear ho hy p0 p1 p2 q0 q1 q2 r0 r1 r2
              obtain ⟨ko, rfl⟩ : ∃ ko, ko = k1 := ⟨_, rfl⟩
              go_wp2
              go_loopg [13, 14] (j0 + 1) (fun gk v13 v14 wr => ∃ (k : Nat) (fnd : Bool) (M2 : List Bool), v13 = .bool fnd ∧ v14 = .int .i64 (k : Int) ∧ Aside0 (k + gk = j0 + 1) ∧ Aside0 ((fnd = false ∧ k ≤ j0 ∧ M2 = M) ∨ (fnd = true ∧ k = j0 + 1 ∧ M2 = M.set j0 true)) ∧ Aside0 (So w wr w1.heap.size (w1.heap.size + 1) T6 (T6 + 1) F G S' S' M2 Am nm cm p) ∧ Aside0 (wr.heap[w3.heap.size]? = some (.cells #[.int .i64 x.f, .int .i64 x.g, .int .i64 x.c] 27 (0, 0))))
              case atStart => exact ⟨0, false, M, rfl, rfl, ⟨by omega⟩, ⟨.inl ⟨rfl, by omega, rfl⟩⟩, HO6, HY6⟩
              case round =>
                obtain ⟨k, fnd, M2, rfl, rfl, HK, HCs, HO7, HY7⟩ := hrel
                have q0 : wr.cell? ⟨w3.heap.size, 0, none⟩ = some (.int .i64 x.f) := by rw [blk_cell HY7.out]; rfl
                have q1 : wr.cell? ⟨w3.heap.size, 1, none⟩ = some (.int .i64 x.g) := by rw [blk_cell HY7.out]; rfl
                have q2 : wr.cell? ⟨w3.heap.size, 2, none⟩ = some (.int .i64 x.c) := by rw [blk_cell HY7.out]; rfl
                rcases HCs.out with ⟨rfl, hkj, rfl⟩ | ⟨rfl, hkj, hM2⟩
                · have hkl : (k : Int) < (l.length : Int) := by omega
                  have hk0 : (0 : Int) ≤ (k : Int) := by omega
                  have hkn : k < l.length := by omega
                  obtain ⟨hA, m0, mf, hnm, hset⟩ := HO7.out.mark k (by rw [HM.out]; exact hkn)
                  have hnm2 : (k : Int) < (nm : Int) := by rw [hnm, HM.out]; exact hkl
                  have HSet := Aside0.mk hset
                  subst hA
                  obtain ⟨g, o, rfl, b0, b1, b2⟩ := ent_at (Kd.C_below HCl.out HO7.out.pq.bel) k hkn
                  clear hset hnm
                  obtain ⟨k2, rfl⟩ : ∃ k2, gk = k2 + 1 := ⟨gk - 1, by have := HK.out; omega⟩
                  by_cases hkj0 : k = j0
                  · subst hkj0
                    rw [HJ3.out] at m0
                    rw [HJ4.out] at b0 b1 b2
                    clear hkj
                    go_wp2_with fail
                    go_quiet (fail)
                    go_wp2
                    go_roundg k2
                    case measure => omega
                    case rel =>
                      have h1 := HO7.out.below (pw_below_drewN (Below.refl wr.heap.size wr) nq)
                      have h2 := (h1.mark k (by rw [HM.out]; exact hkn)).2.2.2.2 true
                      have hC : Chg (fun b => b = T6 + 1) wr ((wr.drewN nq).setCell ⟨T6 + 1, k, none⟩ (.bool true)) := ((Chg.refl (fun b => b = T6 + 1) wr).drewN nq).set (p := ⟨T6 + 1, k, none⟩) (.inl rfl) _
                      exact ⟨k + 1, true, M2.set k true, rfl, by go_num, ⟨by have := HK.out; omega⟩, ⟨.inr ⟨rfl, rfl, rfl⟩⟩, ⟨h2⟩, ⟨hC.blk HY7.out (fun e => by have := HLG.out; omega)⟩⟩
                  · have hlt : k < j0 := by omega
                    have HLT := Aside0.mk hlt
                    cases hmk : M2.getD k true
                    · have hne := HJm.out k hlt hmk
                      rw [hmk] at m0
                      have hn := ne_cases hne
                      clear hmk hne hkj hlt
                      rcases hn with h1 | ⟨h1, h2⟩ | ⟨h1, h2, h3⟩
                      all_goals
                        go_wp2_with fail
                        go_quiet (fail)
                        go_wp2
                        go_roundg k2
                        case measure => omega
                        case rel => exact ⟨k + 1, false, M2, rfl, by go_num, ⟨by have := HK.out; omega⟩, ⟨.inl ⟨rfl, by have := HLT.out; omega, rfl⟩⟩, ⟨HO7.out.below (pw_below_drewN (Below.refl wr.heap.size wr) _)⟩, ⟨HY7.out⟩⟩
                    · rw [hmk] at m0
                      clear hmk hkj hlt
                      go_wp2_with fail
                      go_quiet (fail)
                      go_wp2
                      go_roundg k2
                      case measure => omega
                      case rel => exact ⟨k + 1, false, M2, rfl, by go_num, ⟨by have := HK.out; omega⟩, ⟨.inl ⟨rfl, by have := HLT.out; omega, rfl⟩⟩, ⟨HO7.out.below (pw_below_drewN (Below.refl wr.heap.size wr) _)⟩, ⟨HY7.out⟩⟩
                · subst hM2
                  by_cases hkl : (k : Int) < (l.length : Int)
                  all_goals
                    have p0 : wr.cell? ⟨T6, 0, none⟩ = some (.int .i64 p.f) := by rw [blk_cell HO7.out.z6]; rfl
                    have p1 : wr.cell? ⟨T6, 1, none⟩ = some (.int .i64 p.g) := by rw [blk_cell HO7.out.z6]; rfl
                    have p2 : wr.cell? ⟨T6, 2, none⟩ = some (.int .i64 p.c) := by rw [blk_cell HO7.out.z6]; rfl
                    have f0 := blk_frozen HO7.out.z6 0
                    have f1 := blk_frozen HO7.out.z6 1
                    have f2 := blk_frozen HO7.out.z6 2
                    have HKJ := Aside0.mk hkj
                    clear hkj
                    go_wp2
                    go_roundg ko
                    case measure => omega
                    case rel =>
                      refine ⟨i + 1, M.set j0 true, x, by go_num, ⟨by have := HI.out; omega⟩, ⟨?_⟩, ⟨?_⟩, ⟨by rw [List.length_set]; exact HM.out⟩, ⟨fun _ => HXi.out.symm⟩⟩
                      · rw [HS'.out]
                        exact HO7.out.last x
                      · rw [HS'.out]
                        have := unmet_set l M j0 hj1 hj2 HJ3.out
                        rw [HJ4.out] at this
                        exact List.Perm.cons_inv (this.symm.trans HU2.out)
end Go.Proofs.Ytplimabdnpepjaa
