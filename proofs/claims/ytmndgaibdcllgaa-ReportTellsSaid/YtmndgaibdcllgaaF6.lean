/- ReportTells's walk. Conditions: the lists read as told, no text is longer than a row allows. -/
import Derived.Test.YtmndgaibdcllgaaF4
import Derived.Test.YtmndgaibdcllgaaF5
namespace Go.Proofs.Ytmndgaibdcllgaa
open Go.RowKit Go.Proofs.YtmndgaibdcllgaaW.PrintWords Lb

def Short (ps : List (List ByteArray)) : Prop := ∀ x ∈ ps, x.length * 16 ≤ 140737488351232 ∧ ∀ s ∈ x, s.size ≤ 140737488351232

theorem short_row {ps : List (List ByteArray)} (h : Short ps) (i : Nat) : ∀ s ∈ ps.getD i [], s.size ≤ 140737488351232 := by
  rw [List.getD_eq_getElem?_getD]
  rcases hx : ps[i]? with _ | x
  · simp
  · exact (h x (List.mem_iff_getElem?.2 ⟨_, hx⟩)).2

theorem small_row {ps : List (List ByteArray)} (h : Small ps) {i : Nat} (hi : i < ps.length) : (ps.getD i []).length ≤ 200 := by
  have := flat_bound hi h.2
  omega

set_option maxHeartbeats 4000000 in
set_option maxRecDepth 100000 in
theorem tells_walk (w : World) (A : Option Addr) (c : Nat) (ps : List (List ByteArray)) (lim : Int) (hC : (Kd.slice 9 Kd.string).C w A ps.length ps) (hS : Short ps) (hl0 : -9223372036854775808 ≤ lim) (hl1 : lim ≤ 9223372036854775807) :
    Calls Try.prog 4 #[.slice A ps.length c, .int .i64 lim] w fun e w' => e = .returned (.bool true) ∧ Below w.heap.size w w' := by
  have HC := Aside0.mk hC
  have HS := Aside0.mk hS
  have HM := Aside0.mk (show ps.length ≤ 9223372036854775807 from Kd.C_max hC)
  clear hC hS
  go_enter Try.func4, Try.ntmps4
  go_wp2_with fail
  refine (awake_yes _).mono ?_
  rintro e w1 ⟨rfl, hB⟩
  have HB1 := Aside0.mk hB
  clear hB
  go_wp2_with fail
  refine (great_any w1 A c ps ps.length rfl (Kd.C_below HC.out HB1.out) HM.out (fun x hx => by have := (HS.out x hx).1; omega)).mono ?_
  rintro e w2 ⟨b, rfl, HG, rfl⟩
  cases b with
  | true =>
    go_wp2
    go_ret
    exact ⟨rfl, HB1.out⟩
  | false =>
    have HSm := Aside0.mk (HG.out rfl)
    have hp := HSm.out.1
    clear HG
    go_wp2_with fail
    refine (join_str w1 A c ps _ rfl lim (Kd.C_below HC.out HB1.out) (by omega) (by have := HSm.out.2; omega) hl0 hl1).mono ?_
    rintro e w2 ⟨v, rfl, hR, hB⟩
    obtain ⟨A2, n2, c2, hv, HN2, _, HC2, HR2⟩ := R_outN hR
    subst hv
    have HB2 := Aside0.mk (HB1.out.trans (hB.mono HB1.out.size))
    clear hR hB
    go_wp2_with fail
    refine (ref_join w2 A c ps _ rfl lim (Kd.C_below HC.out HB2.out) (by omega) (by have := HSm.out.2; omega) hl0 hl1).mono ?_
    rintro e w3 ⟨v, rfl, hR, hB⟩
    obtain ⟨A3, n3, c3, hv, HN3, _, HC3, HR3⟩ := R_outN hR
    subst hv
    have HB3 := Aside0.mk (HB2.out.trans (hB.mono HB2.out.size))
    have HC23 := Aside0.mk (Kd.C_below HC2.out hB)
    have hb2 : (firstP ps.flatten lim).1.length ≤ 1000000 := by have := HSm.out.2; unfold firstP; simp only [List.length_take]; omega
    have HBB := Aside0.mk hb2
    clear hR hB hb2
    go_wp2_with fail
    refine (same_any w3 A2 A3 c2 c3 _ _ n2 n3 HN2.out.symm HN3.out.symm (by rw [HN2.out]; exact HBB.out) (by rw [HN3.out]; exact HBB.out) HC23.out HC3.out).mono ?_
    rintro e w4 ⟨hr, hB⟩
    obtain rfl : e = .returned (.bool true) := by rw [hr, decide_eq_true rfl]
    have HB4 := Aside0.mk (HB3.out.trans (hB.mono HB3.out.size))
    clear hr hB HR2 HR3 HC2 HC3 HC23 HN2 HN3 HBB
    go_wp2
    go_loopg [9, 10, 11, 12, 13, 14, 15, 16] ps.length (fun gk v9 v10 v11 v12 v13 v14 v15 v16 wr => ∃ i : Nat, v9 = .int .i64 (i : Int) ∧ Aside0 (i + gk = ps.length) ∧ Aside0 (Below w.heap.size w wr))
    case atStart => exact ⟨0, rfl, ⟨by omega⟩, HB4⟩
    case round =>
      obtain ⟨i, rfl, HI, HB⟩ := hrel
      have hI := HI.out
      cases gk with
      | succ k1 =>
        have hlt : i < ps.length := by omega
        have HLT := Aside0.mk hlt
        obtain ⟨ad, A0, c0, rfl, hcell, hlc, hC0⟩ := C_row HC.out i hlt
        have HRow := Aside0.mk (short_row HS.out i)
        have HLen := Aside0.mk (small_row HSm.out hlt)
        obtain ⟨x, hx⟩ : ∃ x, ps.getD i [] = x := ⟨_, rfl⟩
        rw [hx] at hcell hlc hC0 HRow HLen
        have HCell := Aside0.mk hcell
        have HC0 := Aside0.mk hC0
        have HLC := Aside0.mk hlc
        have hc1 := (HB.out.cell (World.block_lt_of_cell? w _ HCell.out)).trans HCell.out
        clear hcell hC0 hlc hx hI
        go_wp2_with fail
        refine (first_str wr A0 c0 x _ rfl lim (Kd.C_below HC0.out HB.out) HLC.out (by have := HLen.out; omega) hl0 hl1).mono ?_
        rintro e w5 ⟨v, rfl, hR, hB⟩
        obtain ⟨A5, n5, c5, hv, HN5, _, HC5, HR5⟩ := R_outN hR
        subst hv
        have HB5 := Aside0.mk (HB.out.trans (hB.mono HB.out.size))
        have HR5' := Aside0.mk (Kd.R_mono (Kd.R_bound HR5.out) (ok' := fun k => wr.heap.size ≤ k ∧ k < w5.heap.size) (fun k hk => ⟨hk.1, hk.2.2.1⟩))
        have hc2 := (HB5.out.cell (World.block_lt_of_cell? w _ HCell.out)).trans HCell.out
        have hn5 : n5 ≤ 200 := by rw [HN5.out]; have := HLen.out; unfold firstP; simp only [List.length_take]; omega
        clear hR hB HR5 hc1
        go_wp2_with fail
        refine (ref_first w5 A0 c0 x _ rfl lim (Kd.C_below HC0.out HB5.out) (by have := HLen.out; omega) hl0 hl1).mono ?_
        rintro e w6 ⟨v, rfl, hR, hB⟩
        obtain ⟨A6, n6, c6, hv, HN6, _, HC6, HR6⟩ := R_outN hR
        subst hv
        have HB6 := Aside0.mk (HB5.out.trans (hB.mono HB5.out.size))
        have HC56 := Aside0.mk (Kd.C_below HC5.out hB)
        have HR56 := Aside0.mk (Kd.R_below HR5'.out hB)
        have HSz := Aside0.mk hB.size
        have hn6 : n6 ≤ 200 := by rw [HN6.out]; have := HLen.out; unfold firstP; simp only [List.length_take]; omega
        clear hR hB HR5' HC5 hc2
        go_wp2_with fail
        refine (same_any w6 A5 A6 c5 c6 _ _ n5 n6 HN5.out.symm HN6.out.symm (by omega) (by omega) HC56.out HC6.out).mono ?_
        rintro e w7 ⟨hr, hB⟩
        obtain rfl : e = .returned (.bool true) := by rw [hr, decide_eq_true rfl]
        have HB7 := Aside0.mk (HB6.out.trans (hB.mono HB6.out.size))
        have HR57 := Aside0.mk (Kd.R_below HR56.out hB)
        have HR67 := Aside0.mk (Kd.R_below HR6.out hB)
        have HSz7 := Aside0.mk (show w6.heap.size ≤ w7.heap.size from hB.size)
        clear hr hB HR56 HR6 HC56 HC6
        have HW := Aside0.mk (show w.heap.size ≤ wr.heap.size from HB.out.size)
        have HB0 := Aside0.mk (show ∀ s ∈ (firstP x lim).1, s.size ≤ 140737488351232 + 0 from fun s hs => HRow.out s (List.mem_of_mem_take hs))
        go_wp2
        go_loopg [14] n5 (fun gk v14 wr' => ∃ (j : Nat) (ys : List ByteArray), v14 = .int .i64 (j : Int) ∧ Aside0 (j + gk = n5) ∧ Aside0 (ys.length = n5) ∧ Aside0 (∀ s ∈ ys, s.size ≤ 140737488351232 + j) ∧
          Aside0 (Kd.string.R 9 wr' wr.heap.size (fun k => wr.heap.size ≤ k ∧ k < w5.heap.size) (.slice A5 n5 c5) ys) ∧ Aside0 (Kd.string.R 9 wr' w5.heap.size (fun k => w5.heap.size ≤ k) (.slice A6 n6 c6) (firstP x lim).1) ∧ Aside0 (Below w.heap.size w wr'))
        case atStart => exact ⟨0, _, rfl, ⟨by omega⟩, ⟨HN5.out.symm⟩, HB0, HR57, HR67, HB7⟩
        case round =>
          obtain ⟨j, ys, rfl, HJ, HYL, HYB, HRx, HRz, HB⟩ := hrel
          have hJ := HJ.out
          cases gk with
          | succ k2 =>
            have hj : j < n5 := by omega
            obtain ⟨g, rfl, hok, hcell, hfro, hput⟩ := R_elem ByteArray.empty HRx.out j (by rw [HYL.out]; exact hj)
            obtain ⟨y, hy⟩ : ∃ y, ys.getD j ByteArray.empty = y := ⟨_, rfl⟩
            rw [hy] at hcell
            have hsz0 : y.size ≤ 140737488351232 + j := by
              refine HYB.out y ?_
              rw [← hy, List.getD_eq_getElem?_getD, List.getElem?_eq_getElem (by rw [HYL.out]; exact hj)]
              exact List.getElem_mem _
            have hsz : y.size + 1 ≤ 9223372036854775807 := by omega
            have HP := Aside0.mk (hput (y ++ ⟨#[33]⟩))
            have HK := Aside0.mk hok
            have HZ := Aside0.mk hsz0
            clear hput hok hy hJ hsz0
            go_wp2
            go_roundg k2
            case measure => omega
            case rel => exact ⟨j + 1, _, by go_num, ⟨by have := HJ.out; omega⟩, ⟨by rw [List.length_set]; exact HYL.out⟩, ⟨fun s hs => by
              rcases List.mem_or_eq_of_mem_set hs with h | h
              · have := HYB.out s h; omega
              · rw [h, ByteArray.size_append]; have := HZ.out; have h1 : (⟨#[33]⟩ : ByteArray).size = 1 := rfl; omega⟩, HP, ⟨Kd.R_far HRz.out (p := ⟨g, j, none⟩) (fun k hk e => by have := HK.out.2; rw [e] at hk; simp at hk; omega) _⟩, ⟨HB.out.setCell (p := ⟨g, j, none⟩) (Nat.le_trans HW.out HK.out.1) _⟩⟩
          | zero =>
            have hj : ¬ j < n5 := by omega
            have hc3 := (HB.out.cell (World.block_lt_of_cell? w _ HCell.out)).trans HCell.out
            clear hJ
            go_wp2_with fail
            refine (first_str _ A0 c0 x _ rfl lim (Kd.C_below HC0.out HB.out) HLC.out (by have := HLen.out; omega) hl0 hl1).mono ?_
            rintro e w8 ⟨v, rfl, hR, hB⟩
            obtain ⟨A8, n8, c8, hv, HN8, _, HC8, HR8⟩ := R_outN hR
            subst hv
            have HB8 := Aside0.mk (HB.out.trans (hB.mono HB.out.size))
            have HC68 := Aside0.mk (Kd.C_below (Kd.R_reads' HRz.out).2.2 hB)
            have hn8 : n8 ≤ 200 := by rw [HN8.out]; have := HLen.out; unfold firstP; simp only [List.length_take]; omega
            clear hR hB hc3
            go_wp2_with fail
            refine (same_any w8 A8 A6 c8 c6 _ _ n8 n6 HN8.out.symm HN6.out.symm (by omega) (by omega) HC8.out HC68.out).mono ?_
            rintro e w9 ⟨hr, hB⟩
            obtain rfl : e = .returned (.bool true) := by rw [hr, decide_eq_true rfl]
            have HB9 := Aside0.mk (HB8.out.trans (hB.mono HB8.out.size))
            clear hr hB
            go_wp2
            go_roundg k1
            case measure => omega
            case rel => exact ⟨i + 1, by go_num, ⟨by have := HI.out; omega⟩, HB9⟩
      | zero =>
        have hge : ¬ i < ps.length := by omega
        clear hI
        go_wp2
        go_ret
        exact ⟨rfl, HB.out⟩
end Go.Proofs.Ytmndgaibdcllgaa
