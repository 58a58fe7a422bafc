/- The document's union: New, Name, Size, Sets. Conditions: what lies in memory as told. -/
import Derived.Test.YtmjecgkmgfocoaaU6
import Derived.Test.YtmjecgkmgfocoaaStep
namespace Go.Proofs.Ytmjecgkmgfocoaa
open Go.RowKit Go.Proofs.YtmjecgkmgfocoaaW.PrintWords Lb

theorem info3 : (Try.prog.info? 3).map (fun i => (i.zero, i.size, i.bytes)) = some (some (.int .i64 0), 1, 8) := by kernel_rfl
abbrev kdI : Kd Nat := Kd.scalar (fun x : Nat => .int .i64 (x : Int)) (fun _ => rfl)
/-- The document's union: block b, in the blocks F. -/
structure Rn (w : World) (F : Nat → Prop) (b : Nat) (L : List Nat) (A : Option Addr) (n c : Nat) : Prop where
  lt : ∀ k, F k → k < w.heap.size
  hb : F b
  ln : L.length = n
  blk : w.heap[b]? = some (.cells #[.slice A n c] 45 (0, 0))
  row : kdI.R 3 w 0 (fun k => F k ∧ k ≠ b) (.slice A n c) L
def Ro (w : World) (F : Nat → Prop) (b : Nat) (L : List Nat) : Prop := ∃ A n c, Rn w F b L A n c
section
variable {w w1 : World} {F G : Nat → Prop} {b n c : Nat} {L : List Nat} {A : Option Addr}
theorem Rn.keep (h : Rn w F b L A n c) (hc : Chg G w w1) (hd : ∀ k, F k → ¬ G k) : Rn w1 F b L A n c :=
  ⟨fun k hk => Nat.lt_of_lt_of_le (h.lt k hk) hc.size, h.hb, h.ln, hc.blk h.blk (hd b h.hb), R_chg h.row hc (fun k hk => hd k hk.1)⟩
theorem Ro.keep (h : Ro w F b L) (hc : Chg G w w1) (hd : ∀ k, F k → ¬ G k) : Ro w1 F b L := by
  obtain ⟨A, n, c, h⟩ := h
  exact ⟨A, n, c, h.keep hc hd⟩
theorem Ro.below (h : Ro w F b L) (hb : Below w.heap.size w w1) : Ro w1 F b L := h.keep (Chg.of_below (F := Non) hb) (fun _ _ e => e)
theorem Ro.lt (h : Ro w F b L) : ∀ k, F k → k < w.heap.size := by
  obtain ⟨A, n, c, h⟩ := h
  exact h.lt
theorem Ro.hb (h : Ro w F b L) : F b := by
  obtain ⟨A, n, c, h⟩ := h
  exact h.hb
theorem Ro.new (w : World) : Ro (w.alloc (.cells #[.slice none 0 0] 45)) (fun k => k = w.heap.size) w.heap.size [] :=
  ⟨none, 0, 0, fun k hk => by subst hk; simp, rfl, rfl, blk_new _ _, Kd.R_nil _ _ _ _ _⟩
theorem Rn.c0 (h : Rn w F b L A n c) : w.cell? ⟨b, 0, none⟩ = some (.slice A n c) := by rw [blk_cell h.blk]; rfl
theorem Rn.cap (h : Rn w F b L A n c) : n ≤ c := (Kd.R_reads' h.row).2.1
theorem Rn.at (h : Rn w F b L A n c) {i : Nat} (hi : i < n) : ∃ g, A = some ⟨g, 0, none⟩ ∧ F g ∧ g ≠ b ∧ w.cell? ⟨g, i, none⟩ = some (.int .i64 (at0 L i : Nat)) ∧ w.frozen? ⟨g, i, none⟩ = false ∧
    ∀ u : Nat, Rn (w.setCell ⟨g, i, none⟩ (.int .i64 (u : Int))) F b (L.set i u) A n c := by
  obtain ⟨g, e, hg, a1, a2, a3⟩ := R_elem 0 h.row i (by rw [h.ln]; exact hi)
  refine ⟨g, e, hg.1, hg.2, a1, a2, fun u => ?_⟩
  have hc := chg_one w ⟨g, i, none⟩ (.int .i64 (u : Int))
  exact ⟨fun k hk => Nat.lt_of_lt_of_le (h.lt k hk) hc.size, h.hb, by rw [List.length_set]; exact h.ln, hc.blk h.blk (Ne.symm hg.2), a3 u⟩
theorem Rn.pushed {w4 : World} {F4 : Nat → Prop} {A4 : Option Addr} {n4 c4 x : Nat} (h : Rn w F b L A n c) (hR : kdI.R 3 w4 0 F4 (.slice A4 n4 c4) (L ++ [x])) (hlt : ∀ k, F4 k → k < w4.heap.size) (hnew : ∀ k, F4 k → (F k ∧ k ≠ b) ∨ w.heap.size ≤ k) (hC : Chg (fun k => F k ∧ k ≠ b) w w4) :
    Rn (w4.setCell ⟨b, 0, none⟩ (.slice A4 n4 c4)) (fun k => k = b ∨ F4 k) b (L ++ [x]) A4 n4 c4 := by
  have hbw := h.lt b h.hb
  have hF4 : ∀ k, F4 k → k ≠ b := fun k hk => (hnew k hk).elim (fun e => e.2) (fun e => by omega)
  have hc := chg_one w4 ⟨b, 0, none⟩ (.slice A4 n4 c4)
  refine ⟨?_, .inl rfl, (Kd.R_reads' hR).1.symm, blk_set (hC.blk h.blk (fun e => e.2 rfl)) 0 _, ?_⟩
  · rintro k (rfl | hk)
    · exact Nat.lt_of_lt_of_le hbw (Nat.le_trans hC.size hc.size)
    · exact Nat.lt_of_lt_of_le (hlt k hk) hc.size
  · have h1 := R_chg hR hc (fun k hk => hF4 k hk)
    exact Kd.R_mono h1 (fun k hk => ⟨.inr hk, hF4 k hk⟩)

theorem rname_ok (h : Ro w F b L) (a : Int) : Calls Try.prog 18 #[.pointer (some ⟨b, 0, none⟩), .int .i64 a] w fun e w' => e = .returned (.int .i64 (nameP L a)) ∧ w = w' := by
  obtain ⟨A, n, c, h⟩ := h
  have H := Aside0.mk h
  have h0 := h.c0
  have hln := h.ln
  by_cases ha : 0 ≤ a ∧ a < (n : Int)
  · obtain ⟨i, rfl⟩ := Int.eq_ofNat_of_zero_le ha.1
    have hi : i < n := by omega
    have HV : Aside0 (nameP L (i : Int) = (at0 L i : Nat)) := ⟨nameP_in (by rw [hln]; exact hi)⟩
    obtain ⟨g, rfl, _, _, hcell, _, _⟩ := h.at hi
    have hcap := h.cap
    have hi0 := ha.1
    have hi1 := ha.2
    have hc2 : n ≤ c := hcap
    clear h ha hln
    go_enter Try.func18, Try.ntmps18
    go_wp2
    go_ret
    exact ⟨ret_int HV.out.symm, rfl⟩
  · have HV : Aside0 (nameP L a = -1) := ⟨nameP_out (by rw [hln]; exact ha)⟩
    by_cases h1 : a < 0
    · clear h hln ha
      go_enter Try.func18, Try.ntmps18
      go_wp2
      go_ret
      exact ⟨ret_int HV.out.symm, rfl⟩
    · have h2 : (n : Int) ≤ a := by omega
      have h3 : 0 ≤ a := by omega
      clear h hln ha h1
      go_enter Try.func18, Try.ntmps18
      go_wp2
      go_ret
      exact ⟨ret_int HV.out.symm, rfl⟩
theorem nat_cases {a : Int} (n : Nat) : (∃ i : Nat, a = (i : Int) ∧ i < n) ∨ ¬ (0 ≤ a ∧ a < (n : Int)) := by
  by_cases ha : 0 ≤ a ∧ a < (n : Int)
  · obtain ⟨i, rfl⟩ := Int.eq_ofNat_of_zero_le ha.1
    exact .inl ⟨i, rfl, by omega⟩
  · exact .inr ha
theorem take_succ_at {L : List Nat} {i : Nat} (h : i < L.length) : L.take (i + 1) = L.take i ++ [at0 L i] := by
  rw [List.take_succ_eq_append_getElem h]
  simp [at0, h]
set_option maxRecDepth 100000 in
set_option maxHeartbeats 4000000 in
theorem rsize_ok (h : Ro w F b L) (hl : L.length ≤ 1000000) (a : Int) : Calls Try.prog 19 #[.pointer (some ⟨b, 0, none⟩), .int .i64 a] w fun e w' => e = .returned (.int .i64 (sizeP L a)) ∧ w = w' := by
  have HH := Aside0.mk h
  obtain ⟨A, n, c, h⟩ := h
  have H := Aside0.mk h
  have h0 := h.c0
  have HLN := Aside0.mk h.ln
  rcases nat_cases (a := a) n with ⟨i, rfl, hi⟩ | ha
  · have HV : Aside0 (sizeP L (i : Int) = (L.count (at0 L i) : Nat)) := ⟨sizeP_in (by rw [HLN.out]; exact hi)⟩
    have HN : Aside0 (nameP L (i : Int) = (at0 L i : Nat)) := ⟨nameP_in (by rw [HLN.out]; exact hi)⟩
    obtain ⟨g, rfl, _, _, _, _, _⟩ := h.at hi
    have hcap := h.cap
    rw [HLN.out] at hl
    have hl2 : (n : Int) ≤ 1000000 := by omega
    clear h hl hi
    go_enter Try.func19, Try.ntmps19
    go_wp2_with fail
    refine (rname_ok HH.out (i : Int)).mono ?_
    rintro e w1 ⟨rfl, rfl⟩
    rw [HN.out]
    have HV2 := HV.out
    obtain ⟨v, hv⟩ : ∃ v, at0 L i = v := ⟨_, rfl⟩
    rw [hv] at HV2 ⊢
    have HV3 := Aside0.mk HV2
    have hv0 : (0 : Int) ≤ (v : Int) := by omega
    clear HV2 hv
    go_wp2_with fail
    go_loopg [5, 7] n (fun gk v5 v7 wr => ∃ j : Nat, v5 = .int .i64 ((L.take j).count v : Nat) ∧ v7 = .int .i64 (j : Int) ∧ Aside0 (j + gk = n) ∧ Aside0 (wr = w))
    case atStart => exact ⟨0, by simp, rfl, ⟨by omega⟩, ⟨rfl⟩⟩
    case round =>
      obtain ⟨j, rfl, rfl, HJ, HW⟩ := hrel
      obtain rfl := HW.out
      cases gk with
      | zero =>
        have hj : j = n := by have := HJ.out; omega
        subst hj
        have HC : Aside0 (L.take j = L) := ⟨List.take_of_length_le (by rw [HLN.out]; exact Nat.le_refl _)⟩
        go_wp2
        go_ret
        exact ⟨ret_int (by rw [HC.out, HV3.out]), rfl⟩
      | succ k1 =>
        have hj : j < n := by have := HJ.out; omega
        obtain ⟨g', hg', _, _, hcell, _, _⟩ := H.out.at hj
        injection hg' with hg'
        injection hg' with hg'
        subst hg'
        have HT : Aside0 ((L.take (j + 1)).count v = (L.take j).count v + if at0 L j = v then 1 else 0) := ⟨by
          rw [take_succ_at (by rw [HLN.out]; exact hj), List.count_append, List.count_singleton]
          simp⟩
        have HT2 := HT.out
        have hle : (L.take j).count v ≤ j := Nat.le_trans List.count_le_length (by rw [List.length_take]; omega)
        generalize (L.take j).count v = q at hle HT2 ⊢
        generalize at0 L j = y at hcell HT2
        have hj1 : (j : Int) < (n : Int) := by omega
        have hj0 : (0 : Int) ≤ (j : Int) := by omega
        have hq : (q : Int) ≤ (j : Int) := by omega
        by_cases hy : y = v
        · subst hy
          rw [if_pos rfl] at HT2
          have HT3 := Aside0.mk HT2
          clear HT2 HT hle
          have hk := HJ.out
          clear hk
          go_wp2_with fail
          go_roundg k1
          case measure => omega
          case rel => exact ⟨j + 1, by rw [HT3.out]; go_num, by go_num, ⟨by have := HJ.out; omega⟩, ⟨rfl⟩⟩
        · rw [if_neg hy] at HT2
          have HT3 := Aside0.mk HT2
          have hy1 : ¬ (y : Int) = (v : Int) := by omega
          have hy2 : ((y : Int) == (v : Int)) = false := beq_eq_false_iff_ne.2 hy1
          clear HT2 HT hle hy
          go_wp2_with fail
          go_roundg k1
          case measure => omega
          case rel => exact ⟨j + 1, by rw [HT3.out, Nat.add_zero], by go_num, ⟨by have := HJ.out; omega⟩, ⟨rfl⟩⟩
  · have HV : Aside0 (sizeP L a = 0) := ⟨sizeP_out (by rw [HLN.out]; exact ha)⟩
    have HN : Aside0 (nameP L a = -1) := ⟨nameP_out (by rw [HLN.out]; exact ha)⟩
    clear h hl ha
    go_enter Try.func19, Try.ntmps19
    go_wp2_with fail
    refine (rname_ok HH.out a).mono ?_
    rintro e w1 ⟨rfl, rfl⟩
    rw [HN.out]
    go_wp2_with fail
    go_loopg [5, 7] 0 (fun gk v5 v7 wr => v5 = .int .i64 0 ∧ v7 = .int .i64 0 ∧ Aside0 (wr = w))
    case atStart => exact ⟨rfl, rfl, ⟨rfl⟩⟩
    case round =>
      obtain ⟨rfl, rfl, HW⟩ := hrel
      obtain rfl := HW.out
      go_wp2
      go_ret
      exact ⟨ret_int HV.out.symm, rfl⟩
theorem countP_next {p : Nat → Bool} {i : Nat} : (List.range (i + 1)).countP p = (List.range i).countP p + if p i then 1 else 0 := by
  rw [List.range_succ, List.countP_append, List.countP_cons, List.countP_nil, Nat.zero_add]
set_option maxRecDepth 100000 in
set_option maxHeartbeats 4000000 in
theorem rsets_ok (h : Ro w F b L) (hl : L.length ≤ 1000000) : Calls Try.prog 20 #[.pointer (some ⟨b, 0, none⟩)] w fun e w' => e = .returned (.int .i64 (setsOf L : Nat)) ∧ w = w' := by
  obtain ⟨A, n, c, h⟩ := h
  have H := Aside0.mk h
  have h0 := h.c0
  have HLN := Aside0.mk h.ln
  have hcap := h.cap
  have HS : Aside0 ((List.range n).countP (fun i => at0 L i == i) = setsOf L) := ⟨by unfold setsOf; rw [HLN.out]⟩
  rw [HLN.out] at hl
  have hl2 : (n : Int) ≤ 1000000 := by omega
  clear h hl
  go_enter Try.func20, Try.ntmps20
  go_wp2_with fail
  go_loopg [3, 4] n (fun gk v5 v7 wr => ∃ j : Nat, v5 = .int .i64 ((List.range j).countP (fun i => at0 L i == i) : Nat) ∧ v7 = .int .i64 (j : Int) ∧ Aside0 (j + gk = n) ∧ Aside0 (wr = w))
  case atStart => exact ⟨0, by simp, rfl, ⟨by omega⟩, ⟨rfl⟩⟩
  case round =>
    obtain ⟨j, rfl, rfl, HJ, HW⟩ := hrel
    obtain rfl := HW.out
    cases gk with
    | zero =>
      have hj : j = n := by have := HJ.out; omega
      subst hj
      rw [HS.out]
      go_wp2
      go_ret
      exact ⟨rfl, rfl⟩
    | succ k1 =>
      have hj : j < n := by have := HJ.out; omega
      obtain ⟨g', rfl, _, _, hcell, _, _⟩ := H.out.at hj
      have HT := Aside0.mk (countP_next (p := fun i => at0 L i == i) (i := j))
      have HT2 := HT.out
      have hle : (List.range j).countP (fun i => at0 L i == i) ≤ j := Nat.le_trans List.countP_le_length (by simp)
      generalize (List.range j).countP (fun i => at0 L i == i) = q at hle HT2 ⊢
      have hyE : Aside0 (at0 L j = at0 L j) := ⟨rfl⟩
      generalize at0 L j = y at hcell HT2
      have hj1 : (j : Int) < (n : Int) := by omega
      have hj0 : (0 : Int) ≤ (j : Int) := by omega
      have hq : (q : Int) ≤ (j : Int) := by omega
      by_cases hy : y = j
      · subst hy
        rw [if_pos (by simp)] at HT2
        have HT3 := Aside0.mk HT2
        clear HT2 HT hle hyE
        go_wp2_with fail
        go_roundg k1
        case measure => omega
        case rel => exact ⟨_, by rw [HT3.out]; go_num, by go_num, ⟨by have := HJ.out; omega⟩, ⟨rfl⟩⟩
      · rw [if_neg (by simpa using hy)] at HT2
        have HT3 := Aside0.mk HT2
        have hy1 : ¬ (y : Int) = (j : Int) := by omega
        have hy2 : ((y : Int) == (j : Int)) = false := beq_eq_false_iff_ne.2 hy1
        clear HT2 HT hle hy hyE
        go_wp2_with fail
        go_roundg k1
        case measure => omega
        case rel => exact ⟨j + 1, by rw [HT3.out, Nat.add_zero], by go_num, ⟨by have := HJ.out; omega⟩, ⟨rfl⟩⟩
end
end Go.Proofs.Ytmjecgkmgfocoaa
