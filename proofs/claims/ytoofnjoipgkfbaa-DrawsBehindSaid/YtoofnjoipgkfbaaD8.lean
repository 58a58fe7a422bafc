/- DrawsBehind's walk. Conditions: two lists of numbers of 32 bits. -/
import Derived.Test.YtoofnjoipgkfbaaD5
import Derived.Deep.DeepMust
namespace Go.Proofs.Ytoofnjoipgkfbaa
open Go.RowKit Go.Proofs.YtoofnjoipgkfbaaW.PrintWords Go.Proofs.YtoofnjoipgkfbaaW.PrintLast Go.Proofs.YtoofnjoipgkfbaaW.PrintMore Lb

theorem drawN_noughts (l : List Int) (i : Int) : drawN (l ++ [0, 0]) i = drawN l i := by
  unfold drawN rd
  congr 1
  simp only [List.getD_eq_getElem?_getD]
  rcases Nat.lt_or_ge i.toNat l.length with h | h
  · rw [List.getElem?_append_left h]
  · rw [List.getElem?_append_right h, List.getElem?_eq_none (l := l) h]
    rcases hk : i.toNat - l.length with _ | _ | k <;> simp
theorem drawN_behind (a b : List Int) (i : Int) (h0 : 0 ≤ i) (ha : ¬ i < (a.length : Int)) (hb : ¬ i < (b.length : Int)) : drawN b i = drawN a i := by
  unfold drawN
  rw [rd_out a i h0 ha, rd_out b i h0 hb]

theorem u32s_noughts {l : List Int} (h : U32s l) : U32s (l ++ [0, 0]) := by
  intro x hx
  simp at hx
  rcases hx with hx | rfl
  · exact h x hx
  · omega

set_option maxHeartbeats 1000000 in
set_option maxRecDepth 100000 in
theorem behind_great (w : World) (A B : Option Addr) (L M c d : Nat) (h : 500 < L ∨ 500 < M) :
    Calls Try.prog 6 #[.slice A L c, .slice B M d] w fun e w' => e = .returned (.bool true) ∧ Below w.heap.size w w' := by
  by_cases h1 : 500 < L
  · go_enter Try.func6, Try.ntmps6
    go_wp2_with (go_at_call 9; refine (awake_yes _).mono ?_; rintro e w1 ⟨rfl, hB⟩; have HB := Aside0.mk hB; clear hB)
    go_ret
    exact ⟨rfl, HB.out⟩
  · have h2 : 500 < M := by omega
    go_enter Try.func6, Try.ntmps6
    go_wp2_with (go_at_call 9; refine (awake_yes _).mono ?_; rintro e w1 ⟨rfl, hB⟩; have HB := Aside0.mk hB; clear hB)
    go_ret
    exact ⟨rfl, HB.out⟩

set_option maxHeartbeats 2000000 in
set_option maxRecDepth 100000 in
theorem behind_main (w : World) (A B : Option Addr) (a b : List Int) (c d : Nat) (ha : a.length ≤ 500) (hb : b.length ≤ 500) (hCa : (Kd.int .u32).C w A a.length a) (hCb : (Kd.int .u32).C w B b.length b) (hUa : U32s a) (hUb : U32s b) :
    Calls Try.prog 6 #[.slice A a.length c, .slice B b.length d] w fun e w' => e = .returned (.bool true) ∧ Below w.heap.size w w' := by
  have HCa := Aside0.mk hCa
  have HCb := Aside0.mk hCb
  have HUa := Aside0.mk hUa
  have HUb := Aside0.mk hUb
  clear hCa hCb hUa hUb
  go_enter Try.func6, Try.ntmps6
  go_wp2_with fail
  refine (awake_yes _).mono ?_
  rintro e w1 ⟨rfl, hB⟩
  have HB := Aside0.mk hB
  clear hB
  go_wp2_with fail
  refine (new_ok _ A c a (Kd.C_below HCa.out HB.out) (by omega)).mono ?_
  rintro e w2 ⟨b1, F1, rfl, hD, hF, hB⟩
  have HD1 := Aside0.mk hD
  have HF1 := Aside0.mk (show ∀ k, F1 k → w.heap.size ≤ k from fun k hk => Nat.le_trans HB.out.size (hF k hk))
  have HB2 := Aside0.mk (HB.out.trans (hB.mono HB.out.size))
  clear hD hF hB
  go_wp2_with fail
  refine (new_ok _ B d b (Kd.C_below HCb.out HB2.out) (by omega)).mono ?_
  rintro e w3 ⟨b2, F2, rfl, hD, hF, hB⟩
  have HD2 := Aside0.mk hD
  have HF2 := Aside0.mk hF
  have HD13 := Aside0.mk (HD1.out.keep (Chg.of_below (F := Non) hB) (fun _ _ h => h))
  have HB3 := Aside0.mk (HB2.out.trans (hB.mono HB2.out.size))
  have HR := Aside0.mk (R_empty (Kd.int .u32) 30 w3 w.heap.size (fun k => k = w3.heap.size) HB3.out.size rfl)
  clear hD hF hB
  go_wp2_with (first | ((with_reducible refine gate_builtin (b := .append) (xs := #[.tmp 37, .tmp 38]) rfl ?_); at_builtin; go_must (refine R_pushs (Kd.int .u32) w.heap.size (fun k => k = w3.heap.size) rfl (.tmp 37) (.tmp 38) 26 30 (.int .u32 0) 4 rfl Try.underlying26 info30 rfl (by decide) (by omega) (.slice (some ⟨w3.heap.size, 0, none⟩) 0 0) [] a _ _ _ (fun _ => False) rfl rfl HR.out (Kd.C_alloc (Kd.C_below HCa.out HB3.out) _) (fun _ _ h => h) (fun _ h => h.elim) (by have := HB3.out.size; (try simp); omega) (by (try simp); omega) ?_; intro v1 w4 F4 hR hlt hnew hC; obtain ⟨A4, c4, hv, hc4, _, hR4⟩ := R_out hR; subst hv; have HR4 := Aside0.mk (show (Kd.int .u32).R 30 w4 w.heap.size F4 (.slice A4 a.length c4) a from hR4); have HF4 := Aside0.mk hnew; have HC4 := Aside0.mk (((Chg.refl Non w3).alloc (Obj.cells #[] 30)).trans hC (fun i h => .inr (Nat.le_of_eq (Eq.symm h)))); have HL := Aside0.mk (C_lit (enc := Value.int .u32) (h1 := fun _ => rfl) 30 w4 w4.heap.size [0, 0] (by simp) rfl); clear hR hlt hnew hC hR4 hc4)) | ((with_reducible refine gate_builtin (b := .append) (xs := #[.tmp 39, .tmp 40]) rfl ?_); at_builtin; go_must (refine R_pushs (Kd.int .u32) w.heap.size F4 rfl (.tmp 39) (.tmp 40) 26 30 (.int .u32 0) 4 rfl Try.underlying26 info30 rfl (by decide) (by omega) (.slice A4 a.length c4) a [0, 0] (some ⟨w4.heap.size, 0, none⟩) 2 2 (fun _ => False) rfl rfl (Kd.R_alloc HR4.out _) HL.out (fun _ _ h => h) (fun _ h => h.elim) (by have := HC4.out.size; have := HB3.out.size; (try simp); omega) (by (try simp); omega) ?_; intro v5 w5 F5 hR hlt hnew hC; obtain ⟨A5, c5, hv, hc5, hC5, hR5⟩ := R_out hR; subst hv; have HC5 := Aside0.mk hC5; have HW5 := Aside0.mk (((HC4.out.alloc (Obj.cells #[.int .u32 0, .int .u32 0] 30)).trans hC (fun i h => by rcases HF4.out i h with h | h; exact .inr (Nat.le_of_eq (Eq.symm h)); exact .inr (by (try simp at h); omega)))); clear hR hlt hnew hC hR5 hc5 hC5 HR4 HF4 HL)))
  refine (new_okL _ A5 c5 (a ++ [0, 0]) _ (by simp) HC5.out (by (try simp); omega)).mono ?_
  rintro e w6 ⟨b3, F3, rfl, hD, hF, hB⟩
  have HB6 := Aside0.mk ((HB3.out.trans (HW5.out.non.mono HB3.out.size)).trans (hB.mono (Nat.le_trans HB3.out.size HW5.out.size)))
  have HC36 := Aside0.mk (HW5.out.trans (Chg.of_below (F := Non) hB) (fun i h => h.elim))
  have HD16 := Aside0.mk (HD13.out.keep HC36.out (fun _ _ h => h))
  have HD26 := Aside0.mk (HD2.out.keep HC36.out (fun _ _ h => h))
  have HD36 := Aside0.mk hD
  have HA12 := Aside0.mk (show ∀ k, F1 k → ¬ F2 k from fun k h1 h2 => by have := HD1.out.lt k h1; have := HF2.out k h2; omega)
  have HA13 := Aside0.mk (show ∀ k, F1 k → ¬ F3 k from fun k h1 h2 => by have := HD13.out.lt k h1; have := hF k h2; have := HW5.out.size; omega)
  have HA23 := Aside0.mk (show ∀ k, F2 k → ¬ F3 k from fun k h1 h2 => by have := HD2.out.lt k h1; have := hF k h2; have := HW5.out.size; omega)
  have HFB2 := Aside0.mk (show ∀ k, F2 k → w.heap.size ≤ k from fun k hk => Nat.le_trans HB2.out.size (HF2.out k hk))
  have HFB3 := Aside0.mk (show ∀ k, F3 k → w.heap.size ≤ k from fun k hk => Nat.le_trans (Nat.le_trans HB3.out.size HW5.out.size) (hF k hk))
  clear hD hF hB
  obtain ⟨N, hN⟩ : ∃ N : Nat, N = if a.length < b.length then b.length else a.length := ⟨_, rfl⟩
  have hNa : (a.length : Int) ≤ N := by rw [hN]; split <;> omega
  have hNb : (b.length : Int) ≤ N := by rw [hN]; split <;> omega
  have hNc : (N : Int) ≤ 500 := by rw [hN]; split <;> omega
  by_cases hab : a.length < b.length
  · have hNm : (N : Int) ≤ b.length := by rw [hN, if_pos hab]; exact Int.le_refl _
    clear hN
    go_wp2
    go_loopg [12] (N + 20) (fun gk v12 wr => ∃ i : Nat, v12 = .int .i64 (i : Int) ∧ Aside0 (i + gk = N + 20) ∧ Aside0 (DrawsAt wr F1 b1 a (i : Int)) ∧ Aside0 (DrawsAt wr F2 b2 b (i : Int)) ∧ Aside0 (DrawsAt wr F3 b3 (a ++ [0, 0]) (i : Int)) ∧ Aside0 (Below w.heap.size w wr))
    case atStart => exact ⟨0, rfl, ⟨by omega⟩, HD16, HD26, HD36, HB6⟩
    case round =>
      obtain ⟨i, rfl, HI, HX, HY, HZ, HBr⟩ := hrel
      have hI := HI.out
      cases gk with
      | succ k1 =>
        have hlt : (i : Int) < N + 20 := by omega
        clear hI
        go_wp2_with fail
        refine (next_at HX.out (by omega) (by omega) HUa.out (by omega)).mono ?_
        rintro e w7 ⟨rfl, hD, hC⟩
        have HX7 := Aside0.mk hD
        have HY7 := Aside0.mk (HY.out.keep hC (fun k hk hkb => HA12.out k (by rw [hkb]; exact HX.out.hb) hk))
        have HZ7 := Aside0.mk (HZ.out.keep hC (fun k hk hkb => HA13.out k (by rw [hkb]; exact HX.out.hb) hk))
        have HB7 := Aside0.mk (HBr.out.trans (hC.below (B := w.heap.size) HBr.out.size (fun k hk => by rw [hk]; exact HF1.out b1 HX.out.hb)))
        clear hD hC
        go_wp2_with fail
        refine (next_at HY7.out (by omega) (by omega) HUb.out (by omega)).mono ?_
        rintro e w8 ⟨rfl, hD, hC⟩
        have HY8 := Aside0.mk hD
        have HX8 := Aside0.mk (HX7.out.keep hC (fun k hk hkb => HA12.out k hk (by rw [hkb]; exact HY7.out.hb)))
        have HZ8 := Aside0.mk (HZ7.out.keep hC (fun k hk hkb => HA23.out k (by rw [hkb]; exact HY7.out.hb) hk))
        have HB8 := Aside0.mk (HB7.out.trans (hC.below (B := w.heap.size) HB7.out.size (fun k hk => by rw [hk]; exact HFB2.out b2 HY7.out.hb)))
        clear hD hC
        go_wp2_with fail
        refine (next_at HZ8.out (by omega) (by omega) (u32s_noughts HUa.out) (by simp; omega)).mono ?_
        rintro e w9 ⟨hr, hD, hC⟩
        rw [drawN_noughts] at hr
        subst hr
        have HZ9 := Aside0.mk hD
        have HX9 := Aside0.mk (HX8.out.keep hC (fun k hk hkb => HA13.out k hk (by rw [hkb]; exact HZ8.out.hb)))
        have HY9 := Aside0.mk (HY8.out.keep hC (fun k hk hkb => HA23.out k hk (by rw [hkb]; exact HZ8.out.hb)))
        have HB9 := Aside0.mk (HB8.out.trans (hC.below (B := w.heap.size) HB8.out.size (fun k hk => by rw [hk]; exact HFB3.out b3 HZ8.out.hb)))
        clear hD hC
        by_cases hge : (N : Int) ≤ i
        · have hq := drawN_behind a b i (by omega) (by omega) (by omega)
          go_wp2
          go_roundg k1
          case measure => omega
          case rel => exact ⟨i + 1, by go_num, ⟨by have := HI.out; omega⟩, HX9, HY9, HZ9, HB9⟩
        · have hge2 : (i : Int) < N := by omega
          go_wp2
          go_roundg k1
          case measure => omega
          case rel => exact ⟨i + 1, by go_num, ⟨by have := HI.out; omega⟩, HX9, HY9, HZ9, HB9⟩
      | zero =>
        have hge : ¬ (i : Int) < N + 20 := by omega
        clear hI
        go_wp2_with fail
        refine (len_obj HX.out).mono ?_
        rintro e w7 ⟨rfl, rfl⟩
        go_wp2
        go_ret
        refine ⟨ret_bool ?_, HBr.out⟩
        have := HI.out
        simp
        omega
  · have hNm : (N : Int) ≤ a.length := by rw [hN, if_neg hab]; exact Int.le_refl _
    clear hN
    go_wp2
    go_loopg [12] (N + 20) (fun gk v12 wr => ∃ i : Nat, v12 = .int .i64 (i : Int) ∧ Aside0 (i + gk = N + 20) ∧ Aside0 (DrawsAt wr F1 b1 a (i : Int)) ∧ Aside0 (DrawsAt wr F2 b2 b (i : Int)) ∧ Aside0 (DrawsAt wr F3 b3 (a ++ [0, 0]) (i : Int)) ∧ Aside0 (Below w.heap.size w wr))
    case atStart => exact ⟨0, rfl, ⟨by omega⟩, HD16, HD26, HD36, HB6⟩
    case round =>
      obtain ⟨i, rfl, HI, HX, HY, HZ, HBr⟩ := hrel
      have hI := HI.out
      cases gk with
      | succ k1 =>
        have hlt : (i : Int) < N + 20 := by omega
        clear hI
        go_wp2_with fail
        refine (next_at HX.out (by omega) (by omega) HUa.out (by omega)).mono ?_
        rintro e w7 ⟨rfl, hD, hC⟩
        have HX7 := Aside0.mk hD
        have HY7 := Aside0.mk (HY.out.keep hC (fun k hk hkb => HA12.out k (by rw [hkb]; exact HX.out.hb) hk))
        have HZ7 := Aside0.mk (HZ.out.keep hC (fun k hk hkb => HA13.out k (by rw [hkb]; exact HX.out.hb) hk))
        have HB7 := Aside0.mk (HBr.out.trans (hC.below (B := w.heap.size) HBr.out.size (fun k hk => by rw [hk]; exact HF1.out b1 HX.out.hb)))
        clear hD hC
        go_wp2_with fail
        refine (next_at HY7.out (by omega) (by omega) HUb.out (by omega)).mono ?_
        rintro e w8 ⟨rfl, hD, hC⟩
        have HY8 := Aside0.mk hD
        have HX8 := Aside0.mk (HX7.out.keep hC (fun k hk hkb => HA12.out k hk (by rw [hkb]; exact HY7.out.hb)))
        have HZ8 := Aside0.mk (HZ7.out.keep hC (fun k hk hkb => HA23.out k (by rw [hkb]; exact HY7.out.hb) hk))
        have HB8 := Aside0.mk (HB7.out.trans (hC.below (B := w.heap.size) HB7.out.size (fun k hk => by rw [hk]; exact HFB2.out b2 HY7.out.hb)))
        clear hD hC
        go_wp2_with fail
        refine (next_at HZ8.out (by omega) (by omega) (u32s_noughts HUa.out) (by simp; omega)).mono ?_
        rintro e w9 ⟨hr, hD, hC⟩
        rw [drawN_noughts] at hr
        subst hr
        have HZ9 := Aside0.mk hD
        have HX9 := Aside0.mk (HX8.out.keep hC (fun k hk hkb => HA13.out k hk (by rw [hkb]; exact HZ8.out.hb)))
        have HY9 := Aside0.mk (HY8.out.keep hC (fun k hk hkb => HA23.out k hk (by rw [hkb]; exact HZ8.out.hb)))
        have HB9 := Aside0.mk (HB8.out.trans (hC.below (B := w.heap.size) HB8.out.size (fun k hk => by rw [hk]; exact HFB3.out b3 HZ8.out.hb)))
        clear hD hC
        by_cases hge : (N : Int) ≤ i
        · have hq := drawN_behind a b i (by omega) (by omega) (by omega)
          go_wp2
          go_roundg k1
          case measure => omega
          case rel => exact ⟨i + 1, by go_num, ⟨by have := HI.out; omega⟩, HX9, HY9, HZ9, HB9⟩
        · have hge2 : (i : Int) < N := by omega
          go_wp2
          go_roundg k1
          case measure => omega
          case rel => exact ⟨i + 1, by go_num, ⟨by have := HI.out; omega⟩, HX9, HY9, HZ9, HB9⟩
      | zero =>
        have hge : ¬ (i : Int) < N + 20 := by omega
        clear hI
        go_wp2_with fail
        refine (len_obj HX.out).mono ?_
        rintro e w7 ⟨rfl, rfl⟩
        go_wp2
        go_ret
        refine ⟨ret_bool ?_, HBr.out⟩
        have := HI.out
        simp
        omega
end Go.Proofs.Ytoofnjoipgkfbaa
namespace Go.Proofs.Ytoofnjoipgkfbaa
open Go.RowKit Go.Proofs.YtoofnjoipgkfbaaW.PrintWords Lb
theorem behind_walk (w : World) (A B : Option Addr) (c d : Nat) (a b : List Int) (hCa : (Kd.int .u32).C w A a.length a) (hCb : (Kd.int .u32).C w B b.length b) (hUa : U32s a) (hUb : U32s b) :
    Calls Try.prog 6 #[.slice A a.length c, .slice B b.length d] w fun e w' => e = .returned (.bool true) ∧ Below w.heap.size w w' := by
  by_cases h : 500 < a.length ∨ 500 < b.length
  · exact behind_great w A B a.length b.length c d h
  · exact behind_main w A B a b c d (by omega) (by omega) hCa hCb hUa hUb
end Go.Proofs.Ytoofnjoipgkfbaa
