/- Pop's contract. Conditions: what lies in memory as told. -/
import Derived.Test.YtplimabdnpepjaaH4
import Derived.Deep.LoopGhost
import Derived.Deep.RegionHeld3
namespace Go.Proofs.Ytplimabdnpepjaa
open Go.RowKit Go.Proofs.YtplimabdnpepjaaW.PrintWords Lb

theorem Hp.cut {w : World} {F : Nat → Prop} {b c m : Nat} {l : List Entry} {A : Option Addr} (h : Hp w F b l A c) (hm : m ≤ l.length) : Hp (w.setCell ⟨b, 0, none⟩ (.slice A m c)) F b (l.take m) A c := by
  have hl : (l.take m).length = m := by rw [List.length_take]; omega
  refine ⟨fun k hk => by simpa [World.setCell] using h.lt k hk, h.hb, ?_, ?_⟩
  · rw [hl]; exact blk_set h.blk 0 (.slice A m c)
  · rw [hl]; exact Kd.R_set (Kd.R_take h.row hm) h.blk (by simp [flatK]) 0 _
theorem pick_stop {l : List Entry} {i m : Nat} (h : l.length ≤ 2 * i + 1 + m) : ∀ n, pickP l i (m + n) = pickP l i m
  | 0 => rfl
  | n + 1 => by
    rw [← Nat.add_assoc, pickP, if_neg (by omega)]
    exact pick_stop h n
theorem pick_end {l : List Entry} {i m : Nat} (hm : m ≤ 2) (h : l.length ≤ 2 * i + 1 + m) : pickP l i 2 = pickP l i m := by
  have := pick_stop h (2 - m)
  rwa [show m + (2 - m) = 2 by omega] at this
theorem pick_yes {l : List Entry} {i m : Nat} (h : 2 * i + 1 + m < l.length) (hL : lessE (entAt l (2 * i + 1 + m)) (entAt l (pickP l i m)) = true) : pickP l i (m + 1) = 2 * i + 1 + m := by
  rw [pickP, if_pos ⟨h, hL⟩]
theorem pick_no {l : List Entry} {i m : Nat} (hL : lessE (entAt l (2 * i + 1 + m)) (entAt l (pickP l i m)) = false) : pickP l i (m + 1) = pickP l i m := by
  rw [pickP, if_neg (by rw [hL]; simp)]

set_option maxRecDepth 100000 in
set_option maxHeartbeats 4000000 in
theorem pop_some {w : World} {F : Nat → Prop} {b : Nat} {x : Entry} {l : List Entry} (h : Heap w F b (x :: l)) (hl : l.length ≤ 100000) :
    Calls Try.prog 10 #[.pointer (some ⟨b, 0, none⟩)] w fun e w' => e = .returned (.tuple #[.agg #[.int .i64 x.f, .int .i64 x.g, .int .i64 x.c], .bool true]) ∧ Heap w' F b (popP (x :: l)) ∧ Chg F w w' := by
  have hF0 : ∀ k, F k → k < w.heap.size := by obtain ⟨A, c, h⟩ := h; exact h.lt
  have HF0 := Aside0.mk hF0
  have hC1 : Chg Non w (w.alloc (.cells #[.int .i64 0, .int .i64 0, .int .i64 0] 27)) := (Chg.refl _ _).alloc _
  have H := Aside0.mk (h.keep hC1 (fun _ _ e => e))
  have HC1 := Aside0.mk hC1
  clear h hF0 hC1
  go_enter Try.func10, Try.ntmps10
  go_wp2_with fail
  refine (top_some H.out).mono ?_
  rintro e w2 ⟨rfl, hb⟩
  have hs := hb.size
  have z0 : w2.heap[w.heap.size]? = some (.cells #[.int .i64 0, .int .i64 0, .int .i64 0] 27 (0, 0)) := by rw [hb.block _ (by simp)]; exact blk_new w _
  have hlt : w.heap.size < w2.heap.size := by simp at hs; omega
  have hC2 : Chg Non w w2 := HC1.out.trans (Chg.of_below (F := Non) hb) (fun _ e => e.elim)
  have h2 := H.out.below hb
  have H3 := Aside0.mk (h2.keep ((Chg.refl Non w2).alloc (.cells #[.int .i64 x.f, .int .i64 x.g, .int .i64 x.c] 27)) (fun _ _ e => e))
  have HC3 := Aside0.mk (show Chg F w (w2.alloc (.cells #[.int .i64 x.f, .int .i64 x.g, .int .i64 x.c] 27)) from (hC2.mono (fun _ e => e.elim)).alloc _)
  have HT2 := Aside0.mk (((Chg.refl Non w2).alloc (.cells #[.int .i64 x.f, .int .i64 x.g, .int .i64 x.c] 27)).blk z0 (fun e => e))
  have HT4 := Aside0.mk (blk_new w2 (.cells #[.int .i64 x.f, .int .i64 x.g, .int .i64 x.c] 27))
  clear hb z0 hs hC2 h2 H HC1
  go_upto_region 4 with fail
  generalize w2.alloc (.cells #[.int .i64 x.f, .int .i64 x.g, .int .i64 x.c] 27) = w3 at H3 HC3 HT2 HT4 ⊢
  obtain ⟨A, c, hp⟩ := H3.out
  obtain ⟨g, hA, hF1g, hgl, hcell, hfro⟩ := F_elem hp.row 0 x rfl
  subst hA
  obtain ⟨y, hy⟩ : ∃ y, (x :: l)[l.length]? = some y := ⟨_, List.getElem?_eq_getElem (by simp)⟩
  obtain ⟨g', hg', _, _, hcelly, _⟩ := F_elem hp.row l.length y hy
  injection hg' with hg'
  injection hg' with hg'
  subst hg'
  have h0 := hp.c0
  have hc0 : w3.cell? ⟨g, 0, none⟩ = some (.int .i64 x.f) := hcell 0 _ rfl
  have hc1 : w3.cell? ⟨g, 1, none⟩ = some (.int .i64 x.g) := hcell 1 _ rfl
  have hc2 : w3.cell? ⟨g, 2, none⟩ = some (.int .i64 x.c) := hcell 2 _ rfl
  have hd0 : w3.cell? ⟨g, l.length * 3, none⟩ = some (.int .i64 y.f) := hcelly 0 _ rfl
  have hd1 : w3.cell? ⟨g, l.length * 3 + 1, none⟩ = some (.int .i64 y.g) := hcelly 1 _ rfl
  have hd2 : w3.cell? ⟨g, l.length * 3 + 2, none⟩ = some (.int .i64 y.c) := hcelly 2 _ rfl
  have hf0 := hfro 0
  have hf1 := hfro 1
  have hf2 := hfro 2
  have hfb := blk_frozen hp.blk 0
  have hbg : ¬ b = g := hp.ne
  have hgb : ¬ g = b := fun e => hbg e.symm
  have HP := Aside0.mk hp
  obtain ⟨hcap, _⟩ := Kd.R_reads' hp.row
  replace hcap := (Kd.R_reads' hp.row).2.1
  simp only [List.length_cons] at hcap
  have hcap2 : (l.length : Int) ≤ (c : Int) := by omega
  have hcap3 : l.length ≤ c := by omega
  have HG := Aside0.mk hF1g
  have HY := Aside0.mk hy
  have hlen : (0 : Int) ≤ (l.length : Int) := by omega
  have hlen1 : (0 : Int) < (l.length : Int) + 1 := by omega
  have hlen2 : (l.length : Int) < (l.length : Int) + 1 := by omega
  simp only [List.length_cons] at h0
  clear hcell hcelly hfro hp hF1g hy H3
  go_wp2_with fail
  go_region
  go_wp2_with fail
  have hyE : y = entAt (x :: l) l.length := by
    have := HY.out
    rw [entAt_some (by simp)] at this
    exact (Option.some.inj this).symm
  have hH4 := (((HP.out.put (i := 0) (by simp) y).cut (m := l.length) (by simp)).drew)
  have hcp : (((x :: l).set 0 y).take l.length) = cutP (x :: l) := by rw [hyE]; rfl
  rw [hcp] at hH4
  have hC4 : Chg F w3 _ := (((((Chg.refl F w3).set (p := ⟨g, 0, none⟩) (.inl HG.out) (.int .i64 y.f)).set (p := ⟨g, 1, none⟩) (.inl HG.out) (.int .i64 y.g)).set (p := ⟨g, 2, none⟩) (.inl HG.out) (.int .i64 y.c)).set (p := ⟨b, 0, none⟩) (.inl HP.out.hb) (.slice (some ⟨g, 0, none⟩) l.length c)).drew
  have hT2 := hC4.blk HT2.out (fun e => by have := HF0.out _ e; omega)
  have hT4 := hC4.blk HT4.out (fun e => by have := HF0.out _ e; omega)
  have H4 := Aside0.mk hH4
  have HU2 := Aside0.mk hT2
  have HU4 := Aside0.mk hT4
  have HC4 := Aside0.mk hC4
  clear hH4 hcp hyE hC4 hT2 hT4 h0 hc0 hc1 hc2 hd0 hd1 hd2 hf0 hf1 hf2 hfb HP HY hcap hcap2 hcap3
  simp only [Nat.zero_mul, Nat.zero_add] at H4
  generalize ((((w3.setCell ⟨g, 0, none⟩ (.int .i64 y.f)).setCell ⟨g, 1, none⟩ (.int .i64 y.g)).setCell ⟨g, 2, none⟩ (.int .i64 y.c)).setCell ⟨b, 0, none⟩ (.slice (some ⟨g, 0, none⟩) l.length c)).drew = w4 at H4 HU2 HU4 HC4 ⊢
  have HT := Aside0.mk hlt
  generalize w2.heap.size = T4 at HU4 HT hlt ⊢
  have HN4 := Aside0.mk (show w.heap.size < w4.heap.size from blk_lt HU2.out)
  clear hgl
  go_loopg [7] (l.length + 1) (fun gk v wr => ∃ (i : Nat) (l1 : List Entry), v = .int .i64 (i : Int) ∧ Aside0 (Hp wr F b l1 (some ⟨g, 0, none⟩) c) ∧ Aside0 (l1.length = l.length) ∧ Aside0 (i < l1.length ∨ (i = 0 ∧ l1 = [])) ∧ Aside0 (l1.length ≤ gk + i) ∧ Aside0 (sinkP gk l1 i = popP (x :: l)) ∧ Aside0 (Chg F w4 wr))
  case atStart =>
    refine ⟨0, cutP (x :: l), rfl, H4, ⟨by rw [cut_len]; simp⟩, ⟨?_⟩, ⟨by rw [cut_len]; simp⟩, ⟨rfl⟩, ⟨Chg.refl _ _⟩⟩
    rcases Nat.eq_zero_or_pos l.length with h | h
    · exact .inr ⟨rfl, List.eq_nil_of_length_eq_zero (by rw [cut_len]; simpa using h)⟩
    · exact .inl (by rw [cut_len]; simpa using h)
  case round =>
    obtain ⟨i, l1, rfl, H1, HL1, HI1, HG1, HS1, HC1⟩ := hrel
    obtain ⟨wo, rfl⟩ : ∃ wo, wo = wr := ⟨_, rfl⟩
    obtain ⟨gko, rfl⟩ : ∃ n, n = gk := ⟨_, rfl⟩
    have hl1 : (l1.length : Int) ≤ 100000 := by have := HL1.out; omega
    have hi0 : (0 : Int) ≤ (i : Int) := by omega
    have hi1 : (i : Int) ≤ 100000 := by
      rcases HI1.out with h | ⟨h, _⟩
      · omega
      · omega
    go_wp2_with fail
    go_loopg [8, 9] 2 (fun gk2 v8 v9 wr => ∃ (m p K : Nat), v8 = .int .i64 (p : Int) ∧ v9 = .int .i64 (K : Int) ∧ Aside0 (K = 2 * i + 1 + m) ∧ Aside0 (p = pickP l1 i m) ∧ Aside0 (m + gk2 = 2) ∧ Aside0 (Chg Non wo wr))
    case atStart => exact ⟨0, i, 2 * i + 1, rfl, by go_num, ⟨rfl⟩, ⟨rfl⟩, ⟨rfl⟩, ⟨Chg.refl _ _⟩⟩
    case round =>
      obtain ⟨m, p, K, rfl, rfl, HK, HPk, HM, HCi⟩ := hrel
      have H2 := Aside0.mk (H1.out.keep HCi.out (fun _ _ e => e))
      have hK0 : (0 : Int) ≤ (K : Int) := by omega
      have hK1 : (K : Int) ≤ 300000 := by have := HK.out; have := HM.out; omega
      by_cases hx : m < 2 ∧ 2 * i + 1 + m < l1.length
      · have hil : i < l1.length := by omega
        have hp : p < l1.length := by rw [HPk.out]; exact pick_lt hil m
        have hKl : K < l1.length := by rw [HK.out]; exact hx.2
        have hb1 : (K : Int) ≤ 2 * (i : Int) + 2 := by have := HK.out; omega
        have hb2 : (K : Int) < (l.length : Int) := by have := HL1.out; omega
        have hb3 : (K : Int) < (l1.length : Int) := by omega
        have hb4 : (p : Int) < (l1.length : Int) := by omega
        have h0 := H2.out.c0
        obtain ⟨g', hg', _, _, hcell, _⟩ := F_elem H2.out.row K (entAt l1 K) (entAt_some hKl)
        injection hg' with hg'
        injection hg' with hg'
        subst hg'
        obtain ⟨g', hg', _, _, hcellp, _⟩ := F_elem H2.out.row p (entAt l1 p) (entAt_some hp)
        injection hg' with hg'
        injection hg' with hg'
        subst hg'
        have hc0 : wr.cell? ⟨g, K * 3, none⟩ = some (.int .i64 (entAt l1 K).f) := hcell 0 _ rfl
        have hc1 : wr.cell? ⟨g, K * 3 + 1, none⟩ = some (.int .i64 (entAt l1 K).g) := hcell 1 _ rfl
        have hc2 : wr.cell? ⟨g, K * 3 + 2, none⟩ = some (.int .i64 (entAt l1 K).c) := hcell 2 _ rfl
        have hd0 : wr.cell? ⟨g, p * 3, none⟩ = some (.int .i64 (entAt l1 p).f) := hcellp 0 _ rfl
        have hd1 : wr.cell? ⟨g, p * 3 + 1, none⟩ = some (.int .i64 (entAt l1 p).g) := hcellp 1 _ rfl
        have hd2 : wr.cell? ⟨g, p * 3 + 2, none⟩ = some (.int .i64 (entAt l1 p).c) := hcellp 2 _ rfl
        have HX := Aside0.mk hx
        clear hcell hcellp hx hil
        go_wp2_with fail
        go_region_held3 (fun w' => w'.cell? ⟨b, 0, none⟩ = some (.slice (some ⟨g, 0, none⟩) l1.length c) ∧ w'.cell? ⟨g, K * 3, none⟩ = some (.int .i64 (entAt l1 K).f) ∧ w'.cell? ⟨g, K * 3 + 1, none⟩ = some (.int .i64 (entAt l1 K).g) ∧ w'.cell? ⟨g, K * 3 + 2, none⟩ = some (.int .i64 (entAt l1 K).c) ∧ w'.cell? ⟨g, p * 3, none⟩ = some (.int .i64 (entAt l1 p).f) ∧ w'.cell? ⟨g, p * 3 + 1, none⟩ = some (.int .i64 (entAt l1 p).g) ∧ w'.cell? ⟨g, p * 3 + 2, none⟩ = some (.int .i64 (entAt l1 p).c)) (first | exact ⟨h0, hc0, hc1, hc2, hd0, hd1, hd2⟩ | exact ⟨bs5 _ _ (by assumption), bs5 _ _ (by assumption), bs5 _ _ (by assumption), bs5 _ _ (by assumption), bs5 _ _ (by assumption), bs5 _ _ (by assumption), bs5 _ _ (by assumption)⟩ | go_keep) (first | (go_at_call 16; refine (less_ok _ (entAt l1 K) (entAt l1 p)).mono ?_; rintro e w5 ⟨rfl, hb5⟩; have bs5 := bsome hb5))
        have hC5 : Chg Non wr w5 := (Chg.refl Non wr).drew.trans (Chg.of_below (F := Non) hb5) (fun _ e => e.elim)
        have HC5 := Aside0.mk hC5
        clear hC5 bs5 hb5 h0 hc0 hc1 hc2 hd0 hd1 hd2
        obtain ⟨k2, rfl⟩ : ∃ k2, gk = k2 + 1 := ⟨gk - 1, by have := HM.out; have := HX.out.1; omega⟩
        cases hL : lessE (entAt l1 K) (entAt l1 p)
        · have HLs := Aside0.mk hL
          clear hL
          go_wp2
          go_roundg k2
          case measure => omega
          case rel =>
            refine ⟨m + 1, p, K + 1, rfl, by go_num, ⟨by rw [HK.out]; omega⟩, ⟨?_⟩, ⟨by have := HM.out; omega⟩, ⟨HCi.out.trans HC5.out (fun _ e => e.elim)⟩⟩
            rw [pick_no (by rw [← HPk.out, ← HK.out]; exact HLs.out)]
            exact HPk.out
        · have HLs := Aside0.mk hL
          clear hL
          go_wp2
          go_roundg k2
          case measure => omega
          case rel =>
            refine ⟨m + 1, K, K + 1, rfl, by go_num, ⟨by rw [HK.out]; omega⟩, ⟨?_⟩, ⟨by have := HM.out; omega⟩, ⟨HCi.out.trans HC5.out (fun _ e => e.elim)⟩⟩
            rw [pick_yes HX.out.2 (by rw [← HPk.out, ← HK.out]; exact HLs.out)]
            exact HK.out
      · have hP2 : p = pickP l1 i 2 := by
          rw [HPk.out]
          by_cases hm : m < 2
          · exact (pick_end (by omega) (by omega)).symm
          · have : m = 2 := by have := HM.out; omega
            rw [this]
        have HP2 := Aside0.mk hP2
        have HX := Aside0.mk hx
        clear hx hP2
        have hg1 : (K : Int) ≤ 2 * (i : Int) + 2 ∧ (l.length : Int) ≤ (K : Int) ∨ 2 * (i : Int) + 2 < (K : Int) := by
          have := HK.out; have := HL1.out; have := HX.out; have := HM.out; omega
        by_cases hpi : p = i
        · have HE : Aside0 (l1 = popP (x :: l)) := ⟨by
            rw [← HS1.out]
            cases gko with
            | zero => rfl
            | succ n => unfold sinkP; rw [if_pos (by rw [← HP2.out]; exact hpi)]⟩
          have hCr : Chg F w4 wr := HC1.out.trans HCi.out (fun _ e => e.elim)
          have z2 := hCr.blk HU2.out (fun e => by have := HF0.out _ e; omega)
          have z4 := hCr.blk HU4.out (fun e => by have := HF0.out _ e; have := HT.out; omega)
          have hq := (HC3.out.trans HC4.out (fun _ e => .inl e)).trans hCr (fun _ e => .inl e)
          have HQ := Aside0.mk hq
          have HZ2 := Aside0.mk z2
          have k0 : wr.cell? ⟨T4, 0, none⟩ = some (.int .i64 x.f) := by rw [blk_cell z4]; rfl
          have k1 : wr.cell? ⟨T4, 1, none⟩ = some (.int .i64 x.g) := by rw [blk_cell z4]; rfl
          have k2 : wr.cell? ⟨T4, 2, none⟩ = some (.int .i64 x.c) := by rw [blk_cell z4]; rfl
          have j0 : wr.cell? ⟨w.heap.size, 0, none⟩ = some (.int .i64 0) := by rw [blk_cell z2]; rfl
          have j1 : wr.cell? ⟨w.heap.size, 1, none⟩ = some (.int .i64 0) := by rw [blk_cell z2]; rfl
          have j2 : wr.cell? ⟨w.heap.size, 2, none⟩ = some (.int .i64 0) := by rw [blk_cell z2]; rfl
          have f0 := blk_frozen z2 0
          have f1 := blk_frozen z2 1
          have f2 := blk_frozen z2 2
          have hne : ¬ w.heap.size = T4 := by omega
          have hne2 : ¬ T4 = w.heap.size := by omega
          have hlw : w.heap.size < wr.heap.size := blk_lt z2
          clear hCr z2 z4 hq
          subst hpi
          rcases hg1 with ⟨hg1, hg2⟩ | hg1
          all_goals
            go_wp2
            (try simp only [Exit.inBlock, Exit.then])
            refine bodyPost_ret (v := .tuple #[.agg #[.int .i64 x.f, .int .i64 x.g, .int .i64 x.c], .bool true]) ?_ rfl ⟨rfl, ?_, ?_⟩
            · rw [results_cell_tmp rfl]
              go_simp
            · rw [← HE.out]
              exact ⟨_, _, H2.out.keep (G := fun k => k = w.heap.size) ((((Chg.refl (fun k => k = w.heap.size) wr).set (p := ⟨w.heap.size, 0, none⟩) (.inl rfl) _).set (p := ⟨w.heap.size, 1, none⟩) (.inl rfl) _).set (p := ⟨w.heap.size, 2, none⟩) (.inl rfl) _) (fun k e e2 => by have := HF0.out _ e; omega)⟩
            · exact (((HQ.out.set (p := ⟨w.heap.size, 0, none⟩) (.inr (Nat.le_refl _)) _).set (p := ⟨w.heap.size, 1, none⟩) (.inr (Nat.le_refl _)) _).set (p := ⟨w.heap.size, 2, none⟩) (.inr (Nat.le_refl _)) _)
        · have hpi1 : ((p : Int) == (i : Int)) = false := beq_eq_false_iff_ne.2 (by omega)
          have hpi2 : ¬ i = p := fun e => hpi e.symm
          have hil : i < l1.length := by
            rcases HI1.out with h | ⟨h, h2⟩
            · exact h
            · exact absurd (by rw [HP2.out, h, h2]; exact pick_nil [] (by simp) 2) hpi
          have hp : p < l1.length := by rw [HP2.out]; exact pick_lt hil 2
          have hip : i < p := by have := pick_or l1 i 2; rw [← HP2.out] at this; omega
          obtain ⟨n, rfl⟩ : ∃ n, gko = n + 1 := ⟨gko - 1, by have := HG1.out; omega⟩
          have hb3 : (i : Int) < (l1.length : Int) := by omega
          have hb4 : (p : Int) < (l1.length : Int) := by omega
          have h0 := H2.out.c0
          obtain ⟨g', hg', _, _, hcell, hfro⟩ := F_elem H2.out.row i (entAt l1 i) (entAt_some hil)
          injection hg' with hg'
          injection hg' with hg'
          subst hg'
          obtain ⟨g', hg', _, _, hcellp, _⟩ := F_elem H2.out.row p (entAt l1 p) (entAt_some hp)
          injection hg' with hg'
          injection hg' with hg'
          subst hg'
          have hc0 : wr.cell? ⟨g, i * 3, none⟩ = some (.int .i64 (entAt l1 i).f) := hcell 0 _ rfl
          have hc1 : wr.cell? ⟨g, i * 3 + 1, none⟩ = some (.int .i64 (entAt l1 i).g) := hcell 1 _ rfl
          have hc2 : wr.cell? ⟨g, i * 3 + 2, none⟩ = some (.int .i64 (entAt l1 i).c) := hcell 2 _ rfl
          have hd0 : wr.cell? ⟨g, p * 3, none⟩ = some (.int .i64 (entAt l1 p).f) := hcellp 0 _ rfl
          have hd1 : wr.cell? ⟨g, p * 3 + 1, none⟩ = some (.int .i64 (entAt l1 p).g) := hcellp 1 _ rfl
          have hd2 : wr.cell? ⟨g, p * 3 + 2, none⟩ = some (.int .i64 (entAt l1 p).c) := hcellp 2 _ rfl
          have hf0 := hfro (i * 3)
          have hf1 := hfro (i * 3 + 1)
          have hf2 := hfro (i * 3 + 2)
          have hf3 := hfro (p * 3)
          have hf4 := hfro (p * 3 + 1)
          have hf5 := hfro (p * 3 + 2)
          have HIP := Aside0.mk hip
          clear hcell hcellp hfro hip
          rcases hg1 with ⟨hg1, hg2⟩ | hg1
          all_goals
            go_wp2_with fail
            go_region
            go_wp2
            go_roundg n
            case measure => omega
            case rel =>
              have hSw := (H2.out.put hil (entAt l1 p)).put (i := p) (by rw [List.length_set]; exact hp) (entAt l1 i)
              have hCh : Chg F wr _ := (((((((Chg.refl F wr).set (p := ⟨g, i * 3, none⟩) (.inl HG.out) (.int .i64 (entAt l1 p).f)).set (p := ⟨g, i * 3 + 1, none⟩) (.inl HG.out) (.int .i64 (entAt l1 p).g)).set (p := ⟨g, i * 3 + 2, none⟩) (.inl HG.out) (.int .i64 (entAt l1 p).c)).set (p := ⟨g, p * 3, none⟩) (.inl HG.out) (.int .i64 (entAt l1 i).f)).set (p := ⟨g, p * 3 + 1, none⟩) (.inl HG.out) (.int .i64 (entAt l1 i).g)).set (p := ⟨g, p * 3 + 2, none⟩) (.inl HG.out) (.int .i64 (entAt l1 i).c)).drew
              refine ⟨p, swapE l1 i p, rfl, ⟨hSw.drew⟩, ⟨by rw [swapE_len]; exact HL1.out⟩, ⟨.inl (by rw [swapE_len]; exact hp)⟩, ⟨by rw [swapE_len]; have := HG1.out; have := HIP.out; omega⟩, ⟨?_⟩, ⟨(HC1.out.trans HCi.out (fun _ e => e.elim)).trans hCh (fun _ e => .inl e)⟩⟩
              rw [← HS1.out, sinkP, if_neg (by rw [← HP2.out]; exact hpi), ← HP2.out]
end Go.Proofs.Ytplimabdnpepjaa
