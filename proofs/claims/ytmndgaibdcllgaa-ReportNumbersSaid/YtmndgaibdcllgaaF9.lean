/- ReportNumbers's walk. Conditions: the lists read as told. -/
import Derived.Test.YtmndgaibdcllgaaF2
import Derived.Test.YtmndgaibdcllgaaF5
namespace Go.Proofs.Ytmndgaibdcllgaa
open Go.RowKit Go.Proofs.YtmndgaibdcllgaaW.PrintWords Lb

set_option maxHeartbeats 1000000 in
theorem numbers_great (w : World) (A : Option Addr) (L c : Nat) (lim : Int) (h : 50 < L) (_hL : L ≤ 9223372036854775807) :
    Calls Try.prog 6 #[.slice A L c, .int .i64 lim] w fun e w' => e = .returned (.bool true) ∧ Below w.heap.size w w' := by
  go_enter Try.func6, Try.ntmps6
  go_wp2_with fail
  refine (awake_yes _).mono ?_
  rintro e w1 ⟨rfl, hB⟩
  have HB1 := Aside0.mk hB
  clear hB
  go_wp2
  go_ret
  exact ⟨rfl, HB1.out⟩

set_option maxHeartbeats 2000000 in
set_option maxRecDepth 100000 in
theorem numbers_main (w : World) (A : Option Addr) (c : Nat) (ps : List (List Int)) (lim : Int) (hC : (Kd.slice 3 (Kd.int .i64)).C w A ps.length ps) (hrow : ∀ x ∈ ps, x.length ≤ 9223372036854775807) (hp : ps.length ≤ 50) (hl0 : -9223372036854775808 ≤ lim) (hl1 : lim ≤ 9223372036854775807) :
    Calls Try.prog 6 #[.slice A ps.length c, .int .i64 lim] w fun e w' => e = .returned (.bool true) ∧ Below w.heap.size w w' := by
  have HC := Aside0.mk hC
  have HRow := Aside0.mk hrow
  clear hC hrow
  go_enter Try.func6, Try.ntmps6
  go_wp2_with fail
  refine (awake_yes _).mono ?_
  rintro e w1 ⟨rfl, hB⟩
  have HB1 := Aside0.mk hB
  clear hB
  go_wp2
  go_loopg [5, 6] ps.length (fun gk v5 v6 wr => ∃ (i n : Nat) (A4 : Option Addr) (c4 : Nat), v6 = .int .i64 (i : Int) ∧ v5 = .slice A4 n c4 ∧ Aside0 (i + gk = ps.length) ∧ Aside0 (n = (ps.take i).flatten.length) ∧ Aside0 (n ≤ 400) ∧ Aside0 (n ≤ c4) ∧
    Aside0 ((Kd.int .i64).R 3 wr w.heap.size (fun k => w.heap.size ≤ k) (.slice A4 n c4) (ps.take i).flatten) ∧ Aside0 (Below w.heap.size w wr))
  case atStart => exact ⟨0, 0, none, 0, rfl, rfl, ⟨by omega⟩, ⟨by simp⟩, ⟨by omega⟩, ⟨by omega⟩, ⟨by simpa using Kd.R_nil _ _ _ _ _⟩, HB1⟩
  case round =>
    obtain ⟨i, n, A4, c4, rfl, rfl, HI, HN, Hn4, HnC, HR, HB⟩ := hrel
    have hI := HI.out
    have hn4 := Hn4.out
    cases gk with
    | succ k1 =>
      have hlt : i < ps.length := by omega
      have HP := Aside0.mk (pre_succ hlt)
      obtain ⟨ad, A0, c0, rfl, hcell, hlc, hC0⟩ := C_row (Kd.C_below HC.out HB.out) i hlt
      have hx1 : (ps.getD i []).length ≤ 9223372036854775807 := by
        refine HRow.out _ ?_
        rw [List.getD_eq_getElem?_getD, List.getElem?_eq_getElem hlt]
        exact List.getElem_mem _
      obtain ⟨x, hx⟩ : ∃ x, ps.getD i [] = x := ⟨_, rfl⟩
      rw [hx] at hcell hlc hC0 HP hx1
      have HC0 := Aside0.mk hC0
      clear hx hI hC0 hlc
      by_cases hx200 : 200 < x.length
      · go_wp2
        go_ret
        exact ⟨rfl, HB.out⟩
      · by_cases hn200 : 200 < n
        · go_wp2
          go_ret
          exact ⟨rfl, HB.out⟩
        · go_wp2_with (first | ((with_reducible refine gate_builtin (b := .append) (xs := #[.tmp 35, .tmp 39]) rfl ?_); at_builtin; go_must (refine R_pushs (Kd.int .i64) w.heap.size (fun k => w.heap.size ≤ k) rfl (.tmp 35) (.tmp 39) 22 3 (.int .i64 0) 8 rfl Try.underlying22 info3 rfl (by decide) (by omega) (.slice A4 n c4) (ps.take i).flatten x A0 x.length c0 (fun _ => False) rfl rfl HR.out HC0.out (fun _ _ h => h) (fun _ h => h.elim) HB.out.size (by rw [← HN.out]; omega) ?_; intro v1 w8 Fx1 hR hlt1 hnew hCh; have HB8 := Aside0.mk (HB.out.trans (hCh.below HB.out.size (fun k h => h))); rw [← HP.out] at hR; obtain ⟨A8, n8, c8, hv, HN8, HL8, _, HR8⟩ := R_outN (Kd.R_mono hR (ok' := fun k => w.heap.size ≤ k) (fun k hk => by rcases hnew k hk with h | h; exact h; exact Nat.le_trans HB.out.size h)); subst hv; clear hR hlt1 hnew hCh)))
          go_roundg k1
          case measure => omega
          case rel => exact ⟨i + 1, n8, A8, c8, by go_num, rfl, ⟨by have := HI.out; omega⟩, HN8, ⟨by rw [HN8.out, HP.out, List.length_append, ← HN.out]; omega⟩, HL8, HR8, HB8⟩
    | zero =>
      have hge : ¬ i < ps.length := by omega
      have ht : ps.take i = ps := List.take_of_length_le (by omega)
      rw [ht] at HN HR
      obtain ⟨all, hall⟩ : ∃ all, ps.flatten = all := ⟨_, rfl⟩
      have HAll := Aside0.mk hall
      rw [hall] at HN HR
      have hNN := HN.out
      obtain rfl : all.length = n := hNN.symm
      clear hI ht hall
      go_wp2_with fail
      refine (join_int _ A c ps _ rfl lim (Kd.C_below HC.out HB.out) (by omega) (by rw [HAll.out]; omega) hl0 hl1).mono ?_
      rintro e w2 ⟨v, rfl, hR, hB⟩
      rw [HAll.out] at hR ⊢
      obtain ⟨A2, n2, c2, hv, HN2, _, HC2, HR2⟩ := R_outN hR
      subst hv
      have HB2 := Aside0.mk (HB.out.trans (hB.mono HB.out.size))
      have HCa := Aside0.mk (Kd.C_below (Kd.R_reads' HR.out).2.2 hB)
      obtain ⟨t, ht⟩ : ∃ t, (firstP all lim).2 = t := ⟨_, rfl⟩
      have HT := Aside0.mk ht
      rw [ht]
      clear hR hB ht HR
      go_wp2_with fail
      refine (first_int w2 A4 c4 all _ rfl lim HCa.out HnC.out (by omega) hl0 hl1).mono ?_
      rintro e w3 ⟨v, rfl, hR, hB⟩
      rw [HT.out]
      obtain ⟨A3, n3, c3, hv, HN3, _, HC3, HR3⟩ := R_outN hR
      obtain rfl : n3 = n2 := by rw [HN3.out, HN2.out]
      subst hv
      have HB3 := Aside0.mk (HB2.out.trans (hB.mono HB2.out.size))
      have HCa3 := Aside0.mk (Kd.C_below HCa.out hB)
      have HC23 := Aside0.mk (Kd.C_below HC2.out hB)
      have hn3 : n3 ≤ 400 := by rw [HN2.out]; unfold firstP; simp only [List.length_take]; omega
      have hT := HT.out
      have hN2 := HN2.out
      unfold firstP at hT hN2
      simp only [List.length_take] at hN2
      clear hR hB
      by_cases hneg : lim < 0
      · by_cases h0 : 0 < all.length
        · obtain rfl : t = true := by rw [← hT]; exact decide_eq_true (by omega)
          obtain rfl : n3 = 0 := by omega
          have h0' : ¬ (all.length : Int) < 0 := by omega
          clear hT hN2
          go_wp2
          go_loopg [12] 0 (fun gk v12 wr => v12 = .int .i64 0 ∧ w3 = wr)
          case atStart => exact ⟨rfl, rfl⟩
          case round =>
            obtain ⟨rfl, rfl⟩ := hrel
            go_wp2
            go_ret
            exact ⟨rfl, HB3.out⟩
        · obtain rfl : t = false := by rw [← hT]; exact decide_eq_false (by omega)
          obtain rfl : n3 = 0 := by omega
          obtain rfl : all = [] := List.eq_nil_of_length_eq_zero (by omega)
          clear hT hN2 h0
          go_wp2
          go_loopg [12] 0 (fun gk v12 wr => v12 = .int .i64 0 ∧ w3 = wr)
          case atStart => exact ⟨rfl, rfl⟩
          case round =>
            obtain ⟨rfl, rfl⟩ := hrel
            go_wp2
            go_ret
            exact ⟨rfl, HB3.out⟩
      · by_cases h0 : lim < (all.length : Int)
        · obtain rfl : t = true := by rw [← hT]; exact decide_eq_true (by omega)
          obtain rfl : lim = (n3 : Int) := by omega
          clear hT hN2
          go_wp2
          go_loopg [12] n3 (fun gk v12 wr => ∃ i : Nat, v12 = .int .i64 (i : Int) ∧ Aside0 (i + gk = n3) ∧ ∃ m, wr = w3.drewN m)
          case atStart => exact ⟨0, rfl, ⟨by omega⟩, 0, rfl⟩
          case round =>
            obtain ⟨i, rfl, HI, m, rfl⟩ := hrel
            have hI := HI.out
            cases gk with
            | succ k1 =>
              have hi : i < n3 := by omega
              have hil : i < all.length := by omega
              obtain ⟨ad1, rfl, hc1⟩ := C_one (0 : Int) HC23.out i (by rw [← HN2.out]; exact hi)
              obtain ⟨ad2, rfl, hc2⟩ := C_one (0 : Int) HCa3.out i hil
              obtain ⟨ad3, rfl, hc3⟩ := C_one (0 : Int) HC3.out i (by rw [← HN2.out]; exact hi)
              have hx : (firstP all (n3 : Int)).1.getD i 0 = all.getD i 0 := by
                have hN := HN2.out
                unfold firstP at hN ⊢
                simp only [List.length_take] at hN
                simp only [List.getD_eq_getElem?_getD]
                rw [List.getElem?_take_of_lt (by omega)]
              rw [hx] at hc1 hc3
              obtain ⟨y, hy⟩ : ∃ y, all.getD i 0 = y := ⟨_, rfl⟩
              rw [hy] at hc1 hc2 hc3
              have hi0 : (0 : Int) ≤ i := by omega
              have hi1 : (i : Int) < (n3 : Nat) := by omega
              have hi2 : (i : Int) < (all.length : Int) := by omega
              clear hI hx hy
              go_wp2
              go_quiet (fail)
              go_wp2
              go_roundg k1
              case measure => omega
              case rel => exact ⟨i + 1, by go_num, ⟨by have := HI.out; omega⟩, _, rfl⟩
            | zero =>
              have hi : ¬ (i : Int) < (n3 : Nat) := by omega
              clear hI
              go_wp2
              go_ret
              exact ⟨rfl, pw_below_drewN HB3.out _⟩
        · obtain rfl : t = false := by rw [← hT]; exact decide_eq_false (by omega)
          obtain rfl : n3 = all.length := by omega
          clear hT hN2
          go_wp2
          go_loopg [12] all.length (fun gk v12 wr => ∃ i : Nat, v12 = .int .i64 (i : Int) ∧ Aside0 (i + gk = all.length) ∧ ∃ m, wr = w3.drewN m)
          case atStart => exact ⟨0, rfl, ⟨by omega⟩, 0, rfl⟩
          case round =>
            obtain ⟨i, rfl, HI, m, rfl⟩ := hrel
            have hI := HI.out
            cases gk with
            | succ k1 =>
              have hi : i < all.length := by omega
              have hil : i < all.length := by omega
              obtain ⟨ad1, rfl, hc1⟩ := C_one (0 : Int) HC23.out i (by rw [← HN2.out]; exact hi)
              obtain ⟨ad2, rfl, hc2⟩ := C_one (0 : Int) HCa3.out i hil
              obtain ⟨ad3, rfl, hc3⟩ := C_one (0 : Int) HC3.out i (by rw [← HN2.out]; exact hi)
              have hx : (firstP all lim).1.getD i 0 = all.getD i 0 := by
                have hN := HN2.out
                unfold firstP at hN ⊢
                simp only [List.length_take] at hN
                simp only [List.getD_eq_getElem?_getD]
                rw [List.getElem?_take_of_lt (by omega)]
              rw [hx] at hc1 hc3
              obtain ⟨y, hy⟩ : ∃ y, all.getD i 0 = y := ⟨_, rfl⟩
              rw [hy] at hc1 hc2 hc3
              have hi0 : (0 : Int) ≤ i := by omega
              have hi1 : (i : Int) < (all.length : Nat) := by omega
              have hi2 : (i : Int) < (all.length : Int) := by omega
              clear hI hx hy
              go_wp2
              go_quiet (fail)
              go_wp2
              go_roundg k1
              case measure => omega
              case rel => exact ⟨i + 1, by go_num, ⟨by have := HI.out; omega⟩, _, rfl⟩
            | zero =>
              have hi : ¬ (i : Int) < (all.length : Nat) := by omega
              clear hI
              go_wp2
              go_ret
              exact ⟨rfl, pw_below_drewN HB3.out _⟩
end Go.Proofs.Ytmndgaibdcllgaa
namespace Go.Proofs.Ytmndgaibdcllgaa
open Go.RowKit Go.Proofs.YtmndgaibdcllgaaW.PrintWords Lb
theorem numbers_walk (w : World) (A : Option Addr) (c : Nat) (ps : List (List Int)) (lim : Int) (hC : (Kd.slice 3 (Kd.int .i64)).C w A ps.length ps) (hrow : ∀ x ∈ ps, x.length ≤ 9223372036854775807) (hl0 : -9223372036854775808 ≤ lim) (hl1 : lim ≤ 9223372036854775807) :
    Calls Try.prog 6 #[.slice A ps.length c, .int .i64 lim] w fun e w' => e = .returned (.bool true) ∧ Below w.heap.size w w' := by
  by_cases h : 50 < ps.length
  · exact numbers_great w A ps.length c lim h (Kd.C_max hC)
  · exact numbers_main w A c ps lim hC hrow (by omega) hl0 hl1
end Go.Proofs.Ytmndgaibdcllgaa
