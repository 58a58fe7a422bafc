/- The document's First and Join. Conditions: the lists read as told, and are not great. -/
import Derived.Test.YtmndgaibdcllgaaProg
import Derived.Test.YtmndgaibdcllgaaF1
namespace Go.Proofs.Ytmndgaibdcllgaa
open Go.RowKit Go.Proofs.YtmndgaibdcllgaaW.PrintWords Lb

set_option maxHeartbeats 2000000 in
theorem ref_first (w : World) (A : Option Addr) (c : Nat) (l : List ByteArray) (L : Nat) (hL : l.length = L) (lim : Int) (hC : Kd.string.C w A l.length l) (ho : L ≤ 1000000) (_hl0 : -9223372036854775808 ≤ lim) (_hl1 : lim ≤ 9223372036854775807) :
    Calls Try.prog 15 #[.slice A L c, .int .i64 lim] w fun e w' => ∃ v, e = .returned (.tuple #[v, .bool (firstP l lim).2]) ∧ Kd.string.R 9 w' w.heap.size (fun k => w.heap.size ≤ k) v (firstP l lim).1 ∧ Below w.heap.size w w' := by
  have HC := Aside0.mk hC
  have HL := Aside0.mk hL
  clear hC hL
  go_enter Try.func15, Try.ntmps15
  go_wp2
  go_loopg [6, 7] L (fun gk v6 v7 wr => ∃ (i : Nat) (A4 : Option Addr) (c4 : Nat), v7 = .int .i64 (i : Int) ∧ v6 = .slice A4 i c4 ∧ Aside0 (i + gk = L) ∧ Aside0 (i = 0 ∨ (i : Int) ≤ lim) ∧
    Aside0 (Kd.string.R 9 wr w.heap.size (fun k => w.heap.size ≤ k) (.slice A4 i c4) (l.take i)) ∧ Aside0 (Below w.heap.size w wr))
  case atStart => exact ⟨0, none, 0, rfl, rfl, ⟨by omega⟩, ⟨.inl rfl⟩, ⟨by simpa using Kd.R_nil _ _ _ _ _⟩, ⟨Below.refl _ _⟩⟩
  case round =>
    obtain ⟨i, A4, c4, rfl, rfl, HI, HN, HR, HB⟩ := hrel
    have hI := HI.out
    by_cases hgo : (i : Int) < L ∧ (i : Int) < lim
    · obtain ⟨hlt, hlim⟩ := hgo
      obtain ⟨k1, rfl⟩ : ∃ k1, gk = k1 + 1 := ⟨gk - 1, by omega⟩
      obtain ⟨ad, rfl, hca⟩ := C_one ByteArray.empty (Kd.C_below HC.out HB.out) i (by rw [HL.out]; omega)
      have HS := Aside0.mk (show l.take (i + 1) = l.take i ++ [l.getD i ByteArray.empty] from take_snoc l _ i (by rw [HL.out]; omega))
      have HTL := Aside0.mk (show (l.take i).length = i by rw [List.length_take, HL.out]; omega)
      obtain ⟨x, hx⟩ : ∃ x, l.getD i ByteArray.empty = x := ⟨_, rfl⟩
      rw [hx] at hca HS
      have HP := Aside0.mk (show Kd.string.M wr w.heap.size (fun _ => False) x [.string x] from rfl)
      clear hx hI
      go_wp2_with (first | ((with_reducible refine gate_builtin (b := .append) (xs := #[.tmp 19, .tmp 24]) rfl ?_); at_builtin; go_must (refine R_push Kd.string w.heap.size (fun k => w.heap.size ≤ k) rfl (.tmp 19) (.tmp 24) 30 9 (.string ⟨#[]⟩) 16 rfl Try.underlying30 info9 rfl (by decide) (by omega) (.slice A4 i c4) (l.take i) x [.string x] (fun _ => False) rfl rfl HP.out (fun _ h => h.elim) HR.out HB.out.size (by rw [HTL.out]; omega) ?_; intro v1 w8 Fx1 hR hlt1 hnew hCh; rw [← HS.out] at hR; have HB8 := Aside0.mk (HB.out.trans (hCh.below HB.out.size (fun k h => h))); obtain ⟨A8, n8, c8, hv, HN8, _, _, HR8⟩ := R_outN (Kd.R_mono hR (ok' := fun k => w.heap.size ≤ k) (fun k hk => by rcases hnew k hk with h | h; exact h; exact Nat.le_trans HB.out.size h)); obtain rfl : n8 = i + 1 := (by rw [HN8.out, List.length_take, HL.out]; omega); subst hv; clear hR hlt1 hnew hCh)))
      go_roundg k1
      case measure => omega
      case rel => exact ⟨i + 1, A8, c8, by go_num, rfl, ⟨by have := HI.out; omega⟩, ⟨.inr (by omega)⟩, HR8, HB8⟩
    · have hend : (l.take i = (firstP l lim).1) ∧ decide ((i : Int) < (L : Int)) = (firstP l lim).2 := by
        unfold firstP
        have hN := HN.out
        have hL := HL.out
        rcases Int.lt_or_le (i : Int) (L : Int) with h | h
        · have hle : ¬ (i : Int) < lim := fun h2 => hgo ⟨h, h2⟩
          constructor
          · congr 1
            omega
          · rw [Bool.eq_iff_iff]
            simp
            omega
        · constructor
          · rw [List.take_of_length_le (by omega), List.take_of_length_le (by omega)]
          · rw [Bool.eq_iff_iff]
            simp
            omega
      have HE := Aside0.mk hend
      clear hend
      by_cases hlt : (i : Int) < L
      · have hlim : ¬ (i : Int) < lim := fun h2 => hgo ⟨hlt, h2⟩
        clear hgo hI
        go_wp2
        go_ret2
        exact ⟨_, by rw [← HE.out.2, decide_eq_true hlt]; rfl, by rw [← HE.out.1]; exact HR.out, HB.out⟩
      · clear hgo hI
        go_wp2
        go_ret2
        exact ⟨_, by rw [← HE.out.2, decide_eq_false (by omega)]; rfl, by rw [← HE.out.1]; exact HR.out, HB.out⟩

set_option maxHeartbeats 2000000 in
theorem ref_join (w : World) (A : Option Addr) (c : Nat) (ps : List (List ByteArray)) (L : Nat) (hL : ps.length = L) (lim : Int) (hC : (Kd.slice 9 Kd.string).C w A ps.length ps) (hp : L ≤ 1000000) (ho : ps.flatten.length ≤ 1000000) (hl0 : -9223372036854775808 ≤ lim) (hl1 : lim ≤ 9223372036854775807) :
    Calls Try.prog 12 #[.slice A L c, .int .i64 lim] w fun e w' => ∃ v, e = .returned (.tuple #[v, .bool (firstP ps.flatten lim).2]) ∧ Kd.string.R 9 w' w.heap.size (fun k => w.heap.size ≤ k) v (firstP ps.flatten lim).1 ∧ Below w.heap.size w w' := by
  have HC := Aside0.mk hC
  have HL := Aside0.mk hL
  have HO := Aside0.mk ho
  clear hC hL ho
  go_enter Try.func12, Try.ntmps12
  go_wp2
  go_loopg [6, 7, 8] L (fun gk v6 v7 v8 wr => ∃ (i n : Nat) (A4 : Option Addr) (c4 : Nat), v7 = .int .i64 (i : Int) ∧ v6 = .slice A4 n c4 ∧ Aside0 (i + gk = L) ∧ Aside0 (n = (ps.take i).flatten.length) ∧
    Aside0 (Kd.string.R 9 wr w.heap.size (fun k => w.heap.size ≤ k) (.slice A4 n c4) (ps.take i).flatten) ∧ Aside0 (Below w.heap.size w wr))
  case atStart => exact ⟨0, 0, none, 0, rfl, rfl, ⟨by omega⟩, ⟨by simp⟩, ⟨by simpa using Kd.R_nil _ _ _ _ _⟩, ⟨Below.refl _ _⟩⟩
  case round =>
    obtain ⟨i, n, A4, c4, rfl, rfl, HI, HN, HR, HB⟩ := hrel
    have hI := HI.out
    cases gk with
    | succ k1 =>
      have hlt : i < L := by omega
      have HP := Aside0.mk (pre_succ (ps := ps) (i := i) (by rw [HL.out]; exact hlt))
      have hfb := flat_bound (ps := ps) (i := i) (by rw [HL.out]; exact hlt) HO.out
      obtain ⟨ad, A0, c0, rfl, hcell, hlc, hC0⟩ := C_row HC.out i (by rw [HL.out]; exact hlt)
      obtain ⟨x, hx⟩ : ∃ x, ps.getD i [] = x := ⟨_, rfl⟩
      rw [hx] at hcell hlc hC0 HP hfb
      have HC0 := Aside0.mk hC0
      have HFB := Aside0.mk hfb
      have HCE := Aside0.mk hcell
      have hx1 : x.length ≤ 1000000 := by omega
      clear hx hI hC0 hlc hfb hcell
      go_wp2
      go_loopg [6, 8] x.length (fun gk v6 v8 wr => ∃ (j n : Nat) (A4 : Option Addr) (c4 : Nat), v8 = .int .i64 (j : Int) ∧ v6 = .slice A4 n c4 ∧ Aside0 (j + gk = x.length) ∧ Aside0 (n = ((ps.take i).flatten ++ x.take j).length) ∧
        Aside0 (Kd.string.R 9 wr w.heap.size (fun k => w.heap.size ≤ k) (.slice A4 n c4) ((ps.take i).flatten ++ x.take j)) ∧ Aside0 (Below w.heap.size w wr))
      case atStart => exact ⟨0, n, A4, c4, rfl, rfl, ⟨by omega⟩, ⟨by rw [List.take_zero, List.append_nil]; exact HN.out⟩, ⟨by rw [List.take_zero, List.append_nil]; exact HR.out⟩, HB⟩
      case round =>
        obtain ⟨j, n, A4, c4, rfl, rfl, HJ, HN, HR, HB⟩ := hrel
        have hJ := HJ.out
        have hcell := (HB.out.cell (World.block_lt_of_cell? w _ HCE.out)).trans HCE.out
        cases gk with
        | succ k2 =>
          have hjx : j < x.length := by omega
          obtain ⟨ad2, rfl, hca⟩ := C_one ByteArray.empty (Kd.C_below HC0.out HB.out) j hjx
          have HS := Aside0.mk (show x.take (j + 1) = x.take j ++ [x.getD j ByteArray.empty] from take_snoc x _ j hjx)
          obtain ⟨y, hy⟩ : ∃ y, x.getD j ByteArray.empty = y := ⟨_, rfl⟩
          rw [hy] at hca HS
          have HM := Aside0.mk (show Kd.string.M wr w.heap.size (fun _ => False) y [.string y] from rfl)
          clear hy hJ
          go_wp2_with (first | ((with_reducible refine gate_builtin (b := .append) (xs := #[.tmp 24, .tmp 32]) rfl ?_); at_builtin; go_must (refine R_push Kd.string w.heap.size (fun k => w.heap.size ≤ k) rfl (.tmp 24) (.tmp 32) 30 9 (.string ⟨#[]⟩) 16 rfl Try.underlying30 info9 rfl (by decide) (by omega) (.slice A4 n c4) ((ps.take i).flatten ++ x.take j) y [.string y] (fun _ => False) rfl rfl HM.out (fun _ h => h.elim) HR.out HB.out.size (by have := HFB.out; rw [List.length_append, List.length_take]; omega) ?_; intro v1 w8 Fx1 hR hlt1 hnew hCh; rw [List.append_assoc, ← HS.out] at hR; have HB8 := Aside0.mk (HB.out.trans (hCh.below HB.out.size (fun k h => h))); obtain ⟨A8, n8, c8, hv, HN8, _, _, HR8⟩ := R_outN (Kd.R_mono hR (ok' := fun k => w.heap.size ≤ k) (fun k hk => by rcases hnew k hk with h | h; exact h; exact Nat.le_trans HB.out.size h)); subst hv; clear hR hlt1 hnew hCh)))
          go_roundg k2
          case measure => omega
          case rel => exact ⟨j + 1, n8, A8, c8, by go_num, rfl, ⟨by have := HJ.out; omega⟩, HN8, HR8, HB8⟩
        | zero =>
          have hjx : ¬ j < x.length := by omega
          have HE := Aside0.mk (show (ps.take i).flatten ++ x.take j = (ps.take (i + 1)).flatten by rw [HP.out, show x.take j = x from List.take_of_length_le (by omega)])
          clear hJ
          go_wp2
          go_roundg k1
          case measure => omega
          case rel => exact ⟨i + 1, n, A4, c4, by go_num, rfl, ⟨by have := HI.out; omega⟩, ⟨by rw [← HE.out]; exact HN.out⟩, ⟨by rw [← HE.out]; exact HR.out⟩, HB⟩
    | zero =>
      have hge : ¬ i < L := by omega
      have HE := Aside0.mk (show ps.take i = ps from List.take_of_length_le (by rw [HL.out]; omega))
      rw [HE.out] at HN HR
      have HC2 := Aside0.mk (Kd.R_reads' HR.out).2.2
      clear hI
      go_wp2_with fail
      refine (ref_first wr A4 c4 ps.flatten n HN.out.symm lim HC2.out (by rw [HN.out]; exact HO.out) hl0 hl1).mono ?_
      rintro e w1 ⟨v, rfl, hR, hB⟩
      have HR1 := Aside0.mk (Kd.R_mono (Kd.R_lower hR HB.out.size) (ok' := fun k => w.heap.size ≤ k) (fun k hk => Nat.le_trans HB.out.size hk))
      have HB1 := Aside0.mk (HB.out.trans (hB.mono HB.out.size))
      clear hR hB
      go_wp2
      go_ret2
      exact ⟨v, rfl, HR1.out, HB1.out⟩
end Go.Proofs.Ytmndgaibdcllgaa
