/- Join and First at str: the first ones of lists. Conditions: the lists read as told, and are not great. -/
import Derived.Test.YtmndgaibdcllgaaProg
import Derived.Test.YtmndgaibdcllgaaLib
import Derived.Test.YtmndgaibdcllgaaF0
import Derived.Deep.DeepMust
namespace Go.Proofs.Ytmndgaibdcllgaa
open Go.RowKit Go.Proofs.YtmndgaibdcllgaaW.PrintWords Go.Proofs.YtmndgaibdcllgaaW.PrintLast Go.Proofs.YtmndgaibdcllgaaW.PrintMore Lb

theorem info9 : (Try.prog.info? 9).map (fun i => (i.zero, i.size, i.bytes)) = some (some (.string ⟨#[]⟩), 1, 16) := by kernel_rfl

set_option maxHeartbeats 2000000 in
set_option maxRecDepth 100000 in
theorem join_str (w : World) (A : Option Addr) (c : Nat) (ps : List (List ByteArray)) (L : Nat) (hL : ps.length = L) (lim : Int) (hC : (Kd.slice 9 Kd.string).C w A ps.length ps) (hp : ps.length ≤ 1000000) (ho : ps.flatten.length ≤ 1000000) (hl0 : -9223372036854775808 ≤ lim) (hl1 : lim ≤ 9223372036854775807) :
    Calls Try.prog 11 #[.slice A L c, .int .i64 lim] w fun e w' => ∃ v, e = .returned (.tuple #[v, .bool (firstP ps.flatten lim).2]) ∧ Kd.string.R 9 w' w.heap.size (fun k => w.heap.size ≤ k) v (firstP ps.flatten lim).1 ∧ Below w.heap.size w w' := by
  subst hL
  have HC := Aside0.mk hC
  have HO := Aside0.mk ho
  clear hC ho
  by_cases hneg : lim < 0
  · have HM := Aside0.mk (show (if lim < 0 then 0 else lim) = 0 from if_pos hneg)
    have hM0 : (0 : Int) ≤ 0 := Int.le_refl _
    go_enter Try.func11, Try.ntmps11
    go_wp2
    go_loopg [4, 5, 6, 8, 9, 14] ps.length (fun gk v4 v5 v6 v8 v9 v14 wr => ∃ (i left : Nat) (tr : Bool) (A4 : Option Addr) (n4 c4 : Nat), v14 = .int .i64 (i : Int) ∧ v4 = .slice A4 n4 c4 ∧ v5 = .bool tr ∧ v6 = .int .i64 (left : Int) ∧ Aside0 (i + gk = ps.length) ∧
      Aside0 (Joined (0 : Int) ps i left tr) ∧ Aside0 (n4 = ((ps.take i).flatten.take (0 : Int).toNat).length) ∧ Aside0 (Kd.string.R 9 wr w.heap.size (fun k => w.heap.size ≤ k) (.slice A4 n4 c4) ((ps.take i).flatten.take (0 : Int).toNat)) ∧ Aside0 (Below w.heap.size w wr))
    case atStart => exact ⟨0, (0 : Int).toNat, false, none, 0, 0, rfl, rfl, rfl, by go_num, ⟨by omega⟩, ⟨joined_start hM0⟩, ⟨by simp⟩, ⟨by simpa using Kd.R_nil _ _ _ _ _⟩, ⟨Below.refl _ _⟩⟩
    case round =>
      obtain ⟨i, left, tr, A4, n4, c4, rfl, rfl, rfl, rfl, HI, HJ, HN, HR, HB⟩ := hrel
      have hI := HI.out
      cases gk with
      | succ k1 =>
        have hlt : i < ps.length := by omega
        obtain ⟨x, hx⟩ : ∃ x, ps.getD i [] = x := ⟨_, rfl⟩
        obtain ⟨ad, A0, c0, rfl, hcell, hlc, hC0⟩ := C_row (Kd.C_below HC.out HB.out) i hlt
        rw [hx] at hcell hlc hC0
        have hfb := flat_bound hlt HO.out
        rw [hx] at hfb
        have hn4 : n4 + x.length ≤ 1000000 := by rw [HN.out, List.length_take]; omega
        have hx1 : x.length ≤ 1000000 := by omega
        have hM2 := joined_left HJ.out hM0
        obtain ⟨ie, hie, _⟩ := info_parts info9
        by_cases hlx : left < x.length
        · have hj := joined_a HJ.out hM0 hlt (by rw [hx]; exact hlx)
          rw [hx] at hj
          have HJ2 := Aside0.mk hj
          have hcut := cut_to (P := Try.prog) 30 9 .i64 Try.underlying30 hie A0 x.length c0 (left : Int) (by omega) (by omega) hlc
          rw [Int.toNat_natCast] at hcut
          have hC1 := Kd.C_take hC0 (Nat.le_of_lt hlx)
          rw [show (x.take left).length = left by rw [List.length_take]; omega] at hC1
          have HRo := Aside0.mk hC1
          have hlx' : (left : Int) < (x.length : Int) := by omega
          clear hlc hlx hie hfb hx hI hC0 hC1 hj
          cases tr
          all_goals
            go_wp2_with (first | ((with_reducible refine gate_builtin (b := .append) (xs := #[.tmp 22, .tmp 25]) rfl ?_); at_builtin; go_must (refine R_pushs Kd.string w.heap.size (fun k => w.heap.size ≤ k) rfl (.tmp 22) (.tmp 25) 30 9 (.string ⟨#[]⟩) 16 rfl Try.underlying30 info9 rfl (by decide) (by omega) (.slice A4 n4 c4) ((ps.take i).flatten.take (0 : Int).toNat) (x.take left) A0 left c0 (fun _ => False) rfl rfl HR.out HRo.out (fun _ _ h => h) (fun _ h => h.elim) HB.out.size (by rw [← HN.out]; omega) ?_; intro v1 w8 Fx1 hR hlt1 hnew hCh; have HB8 := Aside0.mk (HB.out.trans (hCh.below HB.out.size (fun k h => h))); rw [HJ2.out.1] at hR; obtain ⟨A8, n8, c8, hv, HN8, _, _, HR8⟩ := R_outN (Kd.R_mono hR (ok' := fun k => w.heap.size ≤ k) (fun k hk => by rcases hnew k hk with h | h; exact h; exact Nat.le_trans HB.out.size h)); subst hv; clear hR hlt1 hnew hCh)))
            go_roundg k1
            case measure => omega
            case rel => exact ⟨i + 1, 0, true, A8, _, c8, by go_num, rfl, rfl, by go_num, ⟨by have := HI.out; omega⟩, ⟨HJ2.out.2⟩, HN8, HR8, HB8⟩
        · have hj := joined_b HJ.out hM0 hlt (by rw [hx]; exact hlx)
          rw [hx] at hj
          have HJ2 := Aside0.mk hj
          have hcut := cut_to (P := Try.prog) 30 9 .i64 Try.underlying30 hie A0 x.length c0 (x.length : Int) (by omega) (by omega) hlc
          rw [Int.toNat_natCast] at hcut
          have HRo := Aside0.mk hC0
          have hlx' : ¬ (left : Int) < (x.length : Int) := by omega
          clear hlc hlx hie hfb hx hI hC0 hj
          cases tr
          all_goals
            go_wp2_with (first | ((with_reducible refine gate_builtin (b := .append) (xs := #[.tmp 22, .tmp 25]) rfl ?_); at_builtin; go_must (refine R_pushs Kd.string w.heap.size (fun k => w.heap.size ≤ k) rfl (.tmp 22) (.tmp 25) 30 9 (.string ⟨#[]⟩) 16 rfl Try.underlying30 info9 rfl (by decide) (by omega) (.slice A4 n4 c4) ((ps.take i).flatten.take (0 : Int).toNat) x A0 x.length c0 (fun _ => False) rfl rfl HR.out HRo.out (fun _ _ h => h) (fun _ h => h.elim) HB.out.size (by rw [← HN.out]; omega) ?_; intro v1 w8 Fx1 hR hlt1 hnew hCh; have HB8 := Aside0.mk (HB.out.trans (hCh.below HB.out.size (fun k h => h))); rw [HJ2.out.1] at hR; obtain ⟨A8, n8, c8, hv, HN8, _, _, HR8⟩ := R_outN (Kd.R_mono hR (ok' := fun k => w.heap.size ≤ k) (fun k hk => by rcases hnew k hk with h | h; exact h; exact Nat.le_trans HB.out.size h)); subst hv; clear hR hlt1 hnew hCh)))
            go_roundg k1
            case measure => omega
            case rel => exact ⟨i + 1, left - x.length, _, A8, _, c8, by go_num, rfl, rfl, by go_num, ⟨by have := HI.out; omega⟩, ⟨HJ2.out.2⟩, HN8, HR8, HB8⟩
      | zero =>
        have hge : ¬ i < ps.length := by omega
        have hj := joined_end HJ.out hge lim HM.out.symm
        have hR := HR.out
        rw [hj.1] at hR
        have HJ2 := Aside0.mk hj.2
        have HR2 := Aside0.mk hR
        clear hI hj hR
        go_wp2
        go_ret2
        exact ⟨_, by rw [← HJ2.out]; rfl, HR2.out, HB.out⟩
  · have HM := Aside0.mk (show (if lim < 0 then 0 else lim) = lim from if_neg hneg)
    have hM0 : 0 ≤ lim := by omega
    go_enter Try.func11, Try.ntmps11
    go_wp2
    go_loopg [4, 5, 6, 8, 9, 14] ps.length (fun gk v4 v5 v6 v8 v9 v14 wr => ∃ (i left : Nat) (tr : Bool) (A4 : Option Addr) (n4 c4 : Nat), v14 = .int .i64 (i : Int) ∧ v4 = .slice A4 n4 c4 ∧ v5 = .bool tr ∧ v6 = .int .i64 (left : Int) ∧ Aside0 (i + gk = ps.length) ∧
      Aside0 (Joined lim ps i left tr) ∧ Aside0 (n4 = ((ps.take i).flatten.take lim.toNat).length) ∧ Aside0 (Kd.string.R 9 wr w.heap.size (fun k => w.heap.size ≤ k) (.slice A4 n4 c4) ((ps.take i).flatten.take lim.toNat)) ∧ Aside0 (Below w.heap.size w wr))
    case atStart => exact ⟨0, lim.toNat, false, none, 0, 0, rfl, rfl, rfl, by go_num, ⟨by omega⟩, ⟨joined_start hM0⟩, ⟨by simp⟩, ⟨by simpa using Kd.R_nil _ _ _ _ _⟩, ⟨Below.refl _ _⟩⟩
    case round =>
      obtain ⟨i, left, tr, A4, n4, c4, rfl, rfl, rfl, rfl, HI, HJ, HN, HR, HB⟩ := hrel
      have hI := HI.out
      cases gk with
      | succ k1 =>
        have hlt : i < ps.length := by omega
        obtain ⟨x, hx⟩ : ∃ x, ps.getD i [] = x := ⟨_, rfl⟩
        obtain ⟨ad, A0, c0, rfl, hcell, hlc, hC0⟩ := C_row (Kd.C_below HC.out HB.out) i hlt
        rw [hx] at hcell hlc hC0
        have hfb := flat_bound hlt HO.out
        rw [hx] at hfb
        have hn4 : n4 + x.length ≤ 1000000 := by rw [HN.out, List.length_take]; omega
        have hx1 : x.length ≤ 1000000 := by omega
        have hM2 := joined_left HJ.out hM0
        obtain ⟨ie, hie, _⟩ := info_parts info9
        by_cases hlx : left < x.length
        · have hj := joined_a HJ.out hM0 hlt (by rw [hx]; exact hlx)
          rw [hx] at hj
          have HJ2 := Aside0.mk hj
          have hcut := cut_to (P := Try.prog) 30 9 .i64 Try.underlying30 hie A0 x.length c0 (left : Int) (by omega) (by omega) hlc
          rw [Int.toNat_natCast] at hcut
          have hC1 := Kd.C_take hC0 (Nat.le_of_lt hlx)
          rw [show (x.take left).length = left by rw [List.length_take]; omega] at hC1
          have HRo := Aside0.mk hC1
          have hlx' : (left : Int) < (x.length : Int) := by omega
          clear hlc hlx hie hfb hx hI hC0 hC1 hj
          cases tr
          all_goals
            go_wp2_with (first | ((with_reducible refine gate_builtin (b := .append) (xs := #[.tmp 22, .tmp 25]) rfl ?_); at_builtin; go_must (refine R_pushs Kd.string w.heap.size (fun k => w.heap.size ≤ k) rfl (.tmp 22) (.tmp 25) 30 9 (.string ⟨#[]⟩) 16 rfl Try.underlying30 info9 rfl (by decide) (by omega) (.slice A4 n4 c4) ((ps.take i).flatten.take lim.toNat) (x.take left) A0 left c0 (fun _ => False) rfl rfl HR.out HRo.out (fun _ _ h => h) (fun _ h => h.elim) HB.out.size (by rw [← HN.out]; omega) ?_; intro v1 w8 Fx1 hR hlt1 hnew hCh; have HB8 := Aside0.mk (HB.out.trans (hCh.below HB.out.size (fun k h => h))); rw [HJ2.out.1] at hR; obtain ⟨A8, n8, c8, hv, HN8, _, _, HR8⟩ := R_outN (Kd.R_mono hR (ok' := fun k => w.heap.size ≤ k) (fun k hk => by rcases hnew k hk with h | h; exact h; exact Nat.le_trans HB.out.size h)); subst hv; clear hR hlt1 hnew hCh)))
            go_roundg k1
            case measure => omega
            case rel => exact ⟨i + 1, 0, true, A8, _, c8, by go_num, rfl, rfl, by go_num, ⟨by have := HI.out; omega⟩, ⟨HJ2.out.2⟩, HN8, HR8, HB8⟩
        · have hj := joined_b HJ.out hM0 hlt (by rw [hx]; exact hlx)
          rw [hx] at hj
          have HJ2 := Aside0.mk hj
          have hcut := cut_to (P := Try.prog) 30 9 .i64 Try.underlying30 hie A0 x.length c0 (x.length : Int) (by omega) (by omega) hlc
          rw [Int.toNat_natCast] at hcut
          have HRo := Aside0.mk hC0
          have hlx' : ¬ (left : Int) < (x.length : Int) := by omega
          clear hlc hlx hie hfb hx hI hC0 hj
          cases tr
          all_goals
            go_wp2_with (first | ((with_reducible refine gate_builtin (b := .append) (xs := #[.tmp 22, .tmp 25]) rfl ?_); at_builtin; go_must (refine R_pushs Kd.string w.heap.size (fun k => w.heap.size ≤ k) rfl (.tmp 22) (.tmp 25) 30 9 (.string ⟨#[]⟩) 16 rfl Try.underlying30 info9 rfl (by decide) (by omega) (.slice A4 n4 c4) ((ps.take i).flatten.take lim.toNat) x A0 x.length c0 (fun _ => False) rfl rfl HR.out HRo.out (fun _ _ h => h) (fun _ h => h.elim) HB.out.size (by rw [← HN.out]; omega) ?_; intro v1 w8 Fx1 hR hlt1 hnew hCh; have HB8 := Aside0.mk (HB.out.trans (hCh.below HB.out.size (fun k h => h))); rw [HJ2.out.1] at hR; obtain ⟨A8, n8, c8, hv, HN8, _, _, HR8⟩ := R_outN (Kd.R_mono hR (ok' := fun k => w.heap.size ≤ k) (fun k hk => by rcases hnew k hk with h | h; exact h; exact Nat.le_trans HB.out.size h)); subst hv; clear hR hlt1 hnew hCh)))
            go_roundg k1
            case measure => omega
            case rel => exact ⟨i + 1, left - x.length, _, A8, _, c8, by go_num, rfl, rfl, by go_num, ⟨by have := HI.out; omega⟩, ⟨HJ2.out.2⟩, HN8, HR8, HB8⟩
      | zero =>
        have hge : ¬ i < ps.length := by omega
        have hj := joined_end HJ.out hge lim HM.out.symm
        have hR := HR.out
        rw [hj.1] at hR
        have HJ2 := Aside0.mk hj.2
        have HR2 := Aside0.mk hR
        clear hI hj hR
        go_wp2
        go_ret2
        exact ⟨_, by rw [← HJ2.out]; rfl, HR2.out, HB.out⟩

set_option maxHeartbeats 1000000 in
theorem first_str (w : World) (A : Option Addr) (c : Nat) (l : List ByteArray) (L : Nat) (hL : l.length = L) (lim : Int) (hC : Kd.string.C w A l.length l) (hc : l.length ≤ c) (ho : l.length ≤ 1000000) (hl0 : -9223372036854775808 ≤ lim) (hl1 : lim ≤ 9223372036854775807) :
    Calls Try.prog 14 #[.slice A L c, .int .i64 lim] w fun e w' => ∃ v, e = .returned (.tuple #[v, .bool (firstP l lim).2]) ∧ Kd.string.R 9 w' w.heap.size (fun k => w.heap.size ≤ k) v (firstP l lim).1 ∧ Below w.heap.size w w' := by
  subst hL
  have HC := Aside0.mk (show (Kd.slice 9 Kd.string).C (w.alloc (.cells #[.slice A l.length c] 30)) (some ⟨w.heap.size, 0, none⟩) [l].length [l] from
    C_list1 9 30 hC hc)
  clear hC
  have hf : [l].flatten = l := by simp
  have HJ := Aside0.mk (join_str (w.alloc (.cells #[.slice A l.length c] 30)) (some ⟨w.heap.size, 0, none⟩) 1 [l] 1 rfl lim HC.out (by simp) (by rw [hf]; omega) hl0 hl1)
  rw [hf] at HJ
  clear hf
  go_enter Try.func14, Try.ntmps14
  go_wp2_with fail
  refine HJ.out.mono ?_
  rintro e w1 ⟨v, rfl, hR, hB⟩
  have HR := Aside0.mk (Kd.R_mono (Kd.R_lower hR (by simp : w.heap.size ≤ _)) (ok' := fun k => w.heap.size ≤ k) (fun k hk => by simp at hk; omega))
  have HB := Aside0.mk ((below_alloc (Below.refl w.heap.size w) (.cells #[.slice A l.length c] 30)).trans (hB.mono (by simp)))
  clear hR hB HJ
  go_wp2
  go_ret2
  exact ⟨v, rfl, HR.out, HB.out⟩
end Go.Proofs.Ytmndgaibdcllgaa
