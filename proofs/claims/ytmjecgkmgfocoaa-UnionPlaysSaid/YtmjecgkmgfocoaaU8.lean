/- The document's union: Join, New. Conditions: what lies in memory as told. -/
import Derived.Test.YtmjecgkmgfocoaaU7
namespace Go.Proofs.Ytmjecgkmgfocoaa
open Go.RowKit Go.Proofs.YtmjecgkmgfocoaaW.PrintWords Lb

/-- The first k renamed. -/
def Half (L M : List Nat) (lo hi k : Nat) : Prop := M.length = L.length ∧ ∀ t, t < L.length → at0 M t = if t < k then ren lo hi (at0 L t) else at0 L t
theorem Half.start (L : List Nat) (lo hi : Nat) : Half L L lo hi 0 := ⟨rfl, fun t _ => by rw [if_neg (by omega)]⟩
theorem Half.at {L M : List Nat} {lo hi k : Nat} (h : Half L M lo hi k) (hk : k < L.length) : at0 M k = at0 L k := by rw [h.2 k hk, if_neg (by omega)]
theorem Half.yes {L M : List Nat} {lo hi k : Nat} (h : Half L M lo hi k) (hk : k < L.length) (e : at0 L k = hi) : Half L (M.set k lo) lo hi (k + 1) := by
  refine ⟨by rw [List.length_set]; exact h.1, fun t ht => ?_⟩
  rw [at0_set (by rw [h.1]; exact hk), h.2 t ht]
  by_cases e2 : t = k
  · subst e2
    rw [if_pos rfl, if_pos (by omega), ren, if_pos e]
  · rw [if_neg e2]
    by_cases e3 : t < k
    · rw [if_pos e3, if_pos (by omega)]
    · rw [if_neg e3, if_neg (by omega)]
theorem Half.no {L M : List Nat} {lo hi k : Nat} (h : Half L M lo hi k) (e : at0 L k ≠ hi) : Half L M lo hi (k + 1) := by
  refine ⟨h.1, fun t ht => ?_⟩
  rw [h.2 t ht]
  by_cases e2 : t = k
  · subst e2
    rw [if_neg (by omega), if_pos (by omega), ren, if_neg e]
  · by_cases e3 : t < k
    · rw [if_pos e3, if_pos (by omega)]
    · rw [if_neg e3, if_neg (by omega)]
theorem Half.all {L M : List Nat} {lo hi : Nat} (h : Half L M lo hi L.length) : M = L.map (ren lo hi) := by
  refine List.ext_getElem (by rw [List.length_map]; exact h.1) fun t h1 h2 => ?_
  have ht : t < L.length := by rw [← h.1]; exact h1
  have := h.2 t ht
  rw [if_pos ht] at this
  simpa [at0, h1, ht] using this
section
variable {w w1 : World} {F G : Nat → Prop} {b n c : Nat} {L : List Nat} {A : Option Addr}
set_option maxRecDepth 100000 in
set_option maxHeartbeats 4000000 in
theorem rjoin_ok (h : Ro w F b L) (hl : L.length ≤ 1000000) (x y : Int) : Calls Try.prog 17 #[.pointer (some ⟨b, 0, none⟩), .int .i64 x, .int .i64 y] w fun e w' => e = .returned (.bool (canP L x y)) ∧ Ro w' F b (joinP L x y) ∧ Chg F w w' := by
  have HH := Aside0.mk h
  obtain ⟨A, n, c, h⟩ := h
  have H := Aside0.mk h
  have HLN := Aside0.mk h.ln
  have HHL := Aside0.mk hl
  clear h hl
  rcases nat_cases (a := x) n with ⟨i, rfl, hi⟩ | hx
  case inr =>
    have HV := Aside0.mk (sameP_no1 (L := L) (a := x) (c := y) (by rw [HLN.out]; exact hx)).2
    have HN : Aside0 (nameP L x = -1) := ⟨nameP_out (by rw [HLN.out]; exact hx)⟩
    clear hx
    go_enter Try.func17, Try.ntmps17
    go_wp2_with fail
    refine (rname_ok HH.out x).mono ?_
    rintro e w1 ⟨rfl, rfl⟩
    rw [HN.out]
    go_wp2_with fail
    refine (rname_ok HH.out y).mono ?_
    rintro e w1 ⟨rfl, rfl⟩
    generalize nameP L y = q
    go_wp2
    go_ret
    exact ⟨bool_eq HV.out.symm, by rw [joinP_no HV.out]; exact HH.out, Chg.refl _ _⟩
  case inl =>
    rcases nat_cases (a := y) n with ⟨j, rfl, hj⟩ | hy
    case inr =>
      have HV := Aside0.mk (sameP_no2 (L := L) (a := (i : Int)) (c := y) (by rw [HLN.out]; exact hy)).2
      have HN : Aside0 (nameP L y = -1) := ⟨nameP_out (by rw [HLN.out]; exact hy)⟩
      have HN1 : Aside0 (nameP L (i : Int) = (at0 L i : Nat)) := ⟨nameP_in (by rw [HLN.out]; exact hi)⟩
      clear hy hi
      go_enter Try.func17, Try.ntmps17
      go_wp2_with fail
      refine (rname_ok HH.out (i : Int)).mono ?_
      rintro e w1 ⟨rfl, rfl⟩
      rw [HN1.out]
      generalize at0 L i = p
      have hp : (0 : Int) ≤ (p : Int) := by omega
      go_wp2_with fail
      refine (rname_ok HH.out y).mono ?_
      rintro e w1 ⟨rfl, rfl⟩
      rw [HN.out]
      go_wp2
      go_ret
      exact ⟨bool_eq HV.out.symm, by rw [joinP_no HV.out]; exact HH.out, Chg.refl _ _⟩
    case inl =>
      have HV := Aside0.mk (sameP_in (L := L) (i := i) (j := j) (by rw [HLN.out]; exact hi) (by rw [HLN.out]; exact hj)).2
      have HN1 : Aside0 (nameP L (i : Int) = (at0 L i : Nat)) := ⟨nameP_in (by rw [HLN.out]; exact hi)⟩
      have HN2 : Aside0 (nameP L (j : Int) = (at0 L j : Nat)) := ⟨nameP_in (by rw [HLN.out]; exact hj)⟩
      have HJ : Aside0 (at0 L i ≠ at0 L j → joinP L (i : Int) (j : Int) = L.map (ren (min (at0 L i) (at0 L j)) (max (at0 L i) (at0 L j)))) := ⟨fun e => joinP_yes (by rw [HLN.out]; exact hi) (by rw [HLN.out]; exact hj) e⟩
      obtain ⟨g, rfl, hgF, hgb, _, _, _⟩ := H.out.at hi
      have HGF := Aside0.mk hgF
      clear hi hj hgF
      have HP : Aside0 (∃ p q, at0 L i = p ∧ at0 L j = q) := ⟨⟨_, _, rfl, rfl⟩⟩
      obtain ⟨p, q, hp, hq⟩ := HP.out
      rw [hp, hq] at HJ HV
      rw [hp] at HN1
      rw [hq] at HN2
      have hp0 : (0 : Int) ≤ (p : Int) := by omega
      have hq0 : (0 : Int) ≤ (q : Int) := by omega
      clear hp hq HP
      rcases Nat.lt_trichotomy p q with hpq | hpq | hpq
      case inr.inl =>
        subst hpq
        have HC : Aside0 (canP L (i : Int) (j : Int) = false) := ⟨by rw [HV.out]; simp⟩
        go_enter Try.func17, Try.ntmps17
        go_wp2_with fail
        refine (rname_ok HH.out (i : Int)).mono ?_
        rintro e w1 ⟨rfl, rfl⟩
        rw [HN1.out]
        go_wp2_with fail
        refine (rname_ok HH.out (j : Int)).mono ?_
        rintro e w1 ⟨rfl, rfl⟩
        rw [HN2.out]
        go_wp2
        go_ret
        exact ⟨bool_eq HC.out.symm, by rw [joinP_no HC.out]; exact HH.out, Chg.refl _ _⟩
      case inl =>
        have HC : Aside0 (canP L (i : Int) (j : Int) = true) := ⟨by rw [HV.out, beq_eq_false_iff_ne.2 (show p ≠ q by omega)]; rfl⟩
        have HJ2 : Aside0 (joinP L (i : Int) (j : Int) = L.map (ren p q)) := ⟨by rw [HJ.out (by omega)]; congr 2 <;> omega⟩
        have hlt : (p : Int) < (q : Int) := by omega
        have hne1 : ¬ (p : Int) = (q : Int) := by omega
        have hne2 : ((p : Int) == (q : Int)) = false := beq_eq_false_iff_ne.2 hne1
        have hd1 : decide ((p : Int) < 0) = false := decide_eq_false (by omega)
        have hd2 : decide ((q : Int) < 0) = false := decide_eq_false (by omega)
        have hd3 : decide ((q : Int) < (p : Int)) = false := decide_eq_false (by omega)
        have hd4 : decide (q < p) = false := decide_eq_false (by omega)
        have h0 := H.out.c0
        have hcap := H.out.cap
        have hbg : ¬ b = g := fun e => hgb e.symm
        clear hpq HJ HV
        go_enter Try.func17, Try.ntmps17
        go_wp2_with fail
        refine (rname_ok HH.out (i : Int)).mono ?_
        rintro e w1 ⟨rfl, rfl⟩
        rw [HN1.out]
        go_wp2_with fail
        refine (rname_ok HH.out (j : Int)).mono ?_
        rintro e w1 ⟨rfl, rfl⟩
        rw [HN2.out]
        go_wp2_with fail
        go_loopg [9] n (fun gk v wr => ∃ (k : Nat) (M : List Nat), v = .int .i64 (k : Int) ∧ Aside0 (k + gk = n) ∧ Aside0 (Rn wr F b M (some ⟨g, 0, none⟩) n c) ∧ Aside0 (Half L M p q k) ∧ Aside0 (Chg F w wr))
        case atStart => exact ⟨0, L, rfl, ⟨by omega⟩, H, ⟨Half.start _ _ _⟩, ⟨Chg.refl _ _⟩⟩
        case round =>
          obtain ⟨k, M, rfl, HK, HM, HHa, HCg⟩ := hrel
          have h1 := HM.out.c0
          cases gk with
          | zero =>
            have hk : k = n := by have := HK.out; omega
            subst hk
            go_wp2
            go_ret
            have := HHa.out
            rw [← HLN.out] at this
            have hM2 := this.all
            refine ⟨bool_eq HC.out.symm, ?_, HCg.out⟩
            rw [HJ2.out, ← hM2]
            exact ⟨_, _, _, HM.out⟩
          | succ k1 =>
            have hk : k < n := by have := HK.out; omega
            obtain ⟨g', hg', _, _, hcell, hfro, hset⟩ := HM.out.at hk
            injection hg' with hg'
            injection hg' with hg'
            subst hg'
            have hat := HHa.out.at (by rw [HLN.out]; exact hk)
            rw [hat] at hcell
            have HY : Aside0 (∃ y, at0 L k = y) := ⟨⟨_, rfl⟩⟩
            obtain ⟨y, hy⟩ := HY.out
            rw [hy] at hcell
            have HYE := Aside0.mk hy
            have HSET := Aside0.mk (hset p)
            have HKL : Aside0 (k < L.length) := ⟨by rw [HLN.out]; exact hk⟩
            have hk1 : (k : Int) < (n : Int) := by omega
            have hk0 : (0 : Int) ≤ (k : Int) := by omega
            have hn1 : (n : Int) ≤ 1000000 := by have := HHL.out; rw [HLN.out] at this; omega
            clear hset hat hy HY
            by_cases hyh : y = q
            · subst hyh
              go_wp2_with fail
              have hCh : Chg F w (wr.setCell ⟨g, k, none⟩ (.int .i64 ((p : Nat) : Int))) := HCg.out.set (.inl HGF.out) _
              have hHa := HHa.out.yes HKL.out HYE.out
              have hj := HK.out
              go_roundg k1
              case measure => omega
              case rel => exact ⟨k + 1, M.set k p, by go_num, ⟨by omega⟩, HSET, ⟨hHa⟩, ⟨hCh⟩⟩
            · have hy1 : ¬ (y : Int) = (q : Int) := by omega
              have hy2 : ((y : Int) == (q : Int)) = false := beq_eq_false_iff_ne.2 hy1
              have hHa := Aside0.mk (HHa.out.no (by rw [HYE.out]; exact hyh))
              clear hyh
              go_wp2_with fail
              have hj := HK.out
              go_roundg k1
              case measure => omega
              case rel => exact ⟨k + 1, M, by go_num, ⟨by omega⟩, HM, hHa, HCg⟩
      case inr.inr =>
        have HC : Aside0 (canP L (i : Int) (j : Int) = true) := ⟨by rw [HV.out, beq_eq_false_iff_ne.2 (show p ≠ q by omega)]; rfl⟩
        have HJ2 : Aside0 (joinP L (i : Int) (j : Int) = L.map (ren q p)) := ⟨by rw [HJ.out (by omega)]; congr 2 <;> omega⟩
        have hlt : (q : Int) < (p : Int) := by omega
        have hne1 : ¬ (p : Int) = (q : Int) := by omega
        have hne2 : ((p : Int) == (q : Int)) = false := beq_eq_false_iff_ne.2 hne1
        have hd1 : decide ((p : Int) < 0) = false := decide_eq_false (by omega)
        have hd2 : decide ((q : Int) < 0) = false := decide_eq_false (by omega)
        have hd3 : decide ((q : Int) < (p : Int)) = true := decide_eq_true (by omega)
        have hd4 : decide (q < p) = true := decide_eq_true (by omega)
        have h0 := H.out.c0
        have hcap := H.out.cap
        have hbg : ¬ b = g := fun e => hgb e.symm
        clear hpq HJ HV
        go_enter Try.func17, Try.ntmps17
        go_wp2_with fail
        refine (rname_ok HH.out (i : Int)).mono ?_
        rintro e w1 ⟨rfl, rfl⟩
        rw [HN1.out]
        go_wp2_with fail
        refine (rname_ok HH.out (j : Int)).mono ?_
        rintro e w1 ⟨rfl, rfl⟩
        rw [HN2.out]
        go_wp2_with fail
        go_loopg [9] n (fun gk v wr => ∃ (k : Nat) (M : List Nat), v = .int .i64 (k : Int) ∧ Aside0 (k + gk = n) ∧ Aside0 (Rn wr F b M (some ⟨g, 0, none⟩) n c) ∧ Aside0 (Half L M q p k) ∧ Aside0 (Chg F w wr))
        case atStart => exact ⟨0, L, rfl, ⟨by omega⟩, H, ⟨Half.start _ _ _⟩, ⟨Chg.refl _ _⟩⟩
        case round =>
          obtain ⟨k, M, rfl, HK, HM, HHa, HCg⟩ := hrel
          have h1 := HM.out.c0
          cases gk with
          | zero =>
            have hk : k = n := by have := HK.out; omega
            subst hk
            go_wp2
            go_ret
            have := HHa.out
            rw [← HLN.out] at this
            have hM2 := this.all
            refine ⟨bool_eq HC.out.symm, ?_, HCg.out⟩
            rw [HJ2.out, ← hM2]
            exact ⟨_, _, _, HM.out⟩
          | succ k1 =>
            have hk : k < n := by have := HK.out; omega
            obtain ⟨g', hg', _, _, hcell, hfro, hset⟩ := HM.out.at hk
            injection hg' with hg'
            injection hg' with hg'
            subst hg'
            have hat := HHa.out.at (by rw [HLN.out]; exact hk)
            rw [hat] at hcell
            have HY : Aside0 (∃ y, at0 L k = y) := ⟨⟨_, rfl⟩⟩
            obtain ⟨y, hy⟩ := HY.out
            rw [hy] at hcell
            have HYE := Aside0.mk hy
            have HSET := Aside0.mk (hset q)
            have HKL : Aside0 (k < L.length) := ⟨by rw [HLN.out]; exact hk⟩
            have hk1 : (k : Int) < (n : Int) := by omega
            have hk0 : (0 : Int) ≤ (k : Int) := by omega
            have hn1 : (n : Int) ≤ 1000000 := by have := HHL.out; rw [HLN.out] at this; omega
            clear hset hat hy HY
            by_cases hyh : y = p
            · subst hyh
              go_wp2_with fail
              have hCh : Chg F w (wr.setCell ⟨g, k, none⟩ (.int .i64 ((q : Nat) : Int))) := HCg.out.set (.inl HGF.out) _
              have hHa := HHa.out.yes HKL.out HYE.out
              have hj := HK.out
              go_roundg k1
              case measure => omega
              case rel => exact ⟨k + 1, M.set k q, by go_num, ⟨by omega⟩, HSET, ⟨hHa⟩, ⟨hCh⟩⟩
            · have hy1 : ¬ (y : Int) = (p : Int) := by omega
              have hy2 : ((y : Int) == (p : Int)) = false := beq_eq_false_iff_ne.2 hy1
              have hHa := Aside0.mk (HHa.out.no (by rw [HYE.out]; exact hyh))
              clear hyh
              go_wp2_with fail
              have hj := HK.out
              go_roundg k1
              case measure => omega
              case rel => exact ⟨k + 1, M, by go_num, ⟨by omega⟩, HM, hHa, HCg⟩

set_option maxRecDepth 100000 in
set_option maxHeartbeats 4000000 in
theorem rnew_ok (w : World) (n : Nat) (hn : n ≤ 1000) : Calls Try.prog 16 #[.int .i64 (n : Int)] w fun e w' => ∃ b, e = .returned (.pointer (some ⟨b, 0, none⟩)) ∧ ∃ F, Ro w' F b (alone n) ∧ (∀ k, F k → w.heap.size ≤ k) ∧ Below w.heap.size w w' := by
  have hn1 : (n : Int) ≤ 1000 := by omega
  have HN := Aside0.mk hn
  have HR0 := Aside0.mk (Ro.new w)
  have HB0 : Aside0 (Below w.heap.size w (w.alloc (.cells #[.slice none 0 0] 45))) := ⟨below_alloc (Below.refl _ _) _⟩
  clear hn
  go_enter Try.func16, Try.ntmps16
  go_wp2_with fail
  generalize w.alloc (.cells #[.slice none 0 0] 45) = w0 at HR0 HB0 ⊢
  have HBE : Aside0 (∃ b, w.heap.size = b) := ⟨⟨_, rfl⟩⟩
  obtain ⟨b, hb⟩ := HBE.out
  rw [hb] at HR0 HB0 ⊢
  clear HBE
  go_loopg [4] n (fun gk v wr => ∃ (i : Nat) (F : Nat → Prop), v = .int .i64 (i : Int) ∧ Aside0 (i + gk = n) ∧ Aside0 (Ro wr F b (alone i)) ∧ Aside0 (∀ k, F k → b ≤ k) ∧ Aside0 (Below b w wr))
  case atStart => exact ⟨0, _, rfl, ⟨by omega⟩, HR0, ⟨fun k e => by subst e; exact Nat.le_refl _⟩, HB0⟩
  case round =>
    obtain ⟨i, F, rfl, HK, HRo, HF, HB⟩ := hrel
    cases gk with
    | zero =>
      have hi : i = n := by have := HK.out; omega
      subst hi
      go_wp2
      go_ret
      exact ⟨b, rfl, F, HRo.out, by rw [hb]; exact HF.out, by rw [hb]; exact HB.out⟩
    | succ k1 =>
      obtain ⟨A, m, c, h⟩ := HRo.out
      have H := Aside0.mk h
      have hm : m = i := by rw [← h.ln]; simp [alone]
      subst hm
      have h0 := h.c0
      have hj := HK.out
      have hi1 : (m : Int) < (n : Int) := by omega
      have hi0 : (0 : Int) ≤ (m : Int) := by omega
      have hin : m ≤ 1000 := by have := HN.out; omega
      have hal : (alone m).length = m := by simp [alone]
      have HAL := Aside0.mk hal
      clear h hal
      have HIN := Aside0.mk hin
      have HJ := Aside0.mk hj
      clear hj hin
      go_wp2_with ((with_reducible refine gate_builtin (b := .append) (xs := #[.tmp 16, .tmp 18]) rfl ?_); at_builtin; go_must (refine R_push kdI (W := wr) 0 (fun k => F k ∧ k ≠ b) rfl (.tmp 16) (.tmp 18) 43 3 (.int .i64 0) 8 rfl Try.underlying43 info3 rfl (by decide) (by omega) (.slice A m c) (alone m) m [.int .i64 (m : Int)] (fun _ => False) rfl (by simp [Act.eval]) rfl (fun _ h => h.elim) H.out.row (Nat.zero_le _) (by rw [HAL.out]; have := HIN.out; omega) ?_; intro v1 w4 F4 hR hlt hnew hC; obtain ⟨A4, n4, c4, hv, HN4, _, _, HR4⟩ := R_outN hR; subst hv; have hq := hC.blk H.out.blk (fun e => e.2 rfl); have hc4 : w4.cell? ⟨b, 0, none⟩ = some (.slice A m c) := (by rw [blk_cell hq]; rfl); have hf4 := blk_frozen hq 0; have HX4 := Aside0.mk hC; have HP4 := Aside0.mk (H.out.pushed HR4.out hlt hnew hC); have HW4 := Aside0.mk hnew; clear hR hlt hnew hC hq))
      have hA : alone m ++ [m] = alone (m + 1) := by rw [alone, alone, List.range_succ]
      have hP := HP4.out
      rw [hA] at hP
      have hBw := HB.out
      have hbm : b ≤ wr.heap.size := Nat.le_of_lt (H.out.lt b H.out.hb)
      have hF4 : ∀ k, k = b ∨ F4 k → b ≤ k := fun k hk => hk.elim (fun e => by omega) (fun e => (HW4.out k e).elim (fun e2 => HF.out k e2.1) (fun e2 => by omega))
      have hB4 : Below b w (w4.setCell ⟨b, 0, none⟩ (.slice A4 n4 c4)) := (((Chg.of_below (F := fun k => b ≤ k) (by rw [← hb] at hBw; exact hBw)).trans HX4.out (fun k e => .inl (HF.out k e.1))).set (.inl (Nat.le_refl _)) _).below (by omega) (fun k e => e)
      have hj := HJ.out
      go_roundg k1
      case measure => omega
      case rel => exact ⟨m + 1, _, by go_num, ⟨by omega⟩, ⟨⟨_, _, _, hP⟩⟩, ⟨hF4⟩, ⟨hB4⟩⟩
end
end Go.Proofs.Ytmjecgkmgfocoaa
