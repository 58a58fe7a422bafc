/- The statements' own comparison of lists of texts. Conditions: the lists read as told. -/
import Derived.Test.YtmndgaibdcllgaaProg
import Derived.Test.YtmndgaibdcllgaaF0
import Derived.Deep.DeepMust
namespace Go.Proofs.Ytmndgaibdcllgaa
open Go.RowKit Go.Proofs.YtmndgaibdcllgaaW.PrintWords Lb

theorem bytes_ext {a b : ByteArray} (h : a.toList = b.toList) : a = b := by
  rw [ByteArray.toList_eq, ByteArray.toList_eq] at h
  obtain ⟨⟨a⟩⟩ := a
  obtain ⟨⟨b⟩⟩ := b
  simp at h
  rw [h]

set_option maxHeartbeats 1000000 in
theorem same_ne (w : World) (A B : Option Addr) (c d L M : Nat) (h : L ≠ M) (_hL : L ≤ 1000000) (_hM : M ≤ 1000000) :
    Calls Try.prog 13 #[.slice A L c, .slice B M d] w fun e w' => e = .returned (.bool false) ∧ w = w' := by
  have h1 : ((L : Int) == (M : Int)) = false := by rw [beq_eq_false_iff_ne]; omega
  go_enter Try.func13, Try.ntmps13
  go_wp2
  go_ret
  exact ⟨rfl, rfl⟩

set_option maxHeartbeats 1000000 in
theorem same_eqN (w : World) (A B : Option Addr) (c d : Nat) (a b : List ByteArray) (L : Nat) (hL : a.length = L) (hM : b.length = L) (hm : L ≤ 1000000) (hA : Kd.string.C w A a.length a) (hB : Kd.string.C w B b.length b) :
    Calls Try.prog 13 #[.slice A L c, .slice B L d] w fun e w' => e = .returned (.bool (decide (a = b))) ∧ ∃ n, w' = w.drewN n := by
  have HA := Aside0.mk hA
  have HB := Aside0.mk hB
  have HL := Aside0.mk hL
  have HM := Aside0.mk hM
  clear hA hB hL hM
  go_enter Try.func13, Try.ntmps13
  go_wp2
  go_loopg [5] L (fun gk v5 wr => ∃ i : Nat, v5 = .int .i64 (i : Int) ∧ Aside0 (i + gk = L) ∧ Aside0 (a.take i = b.take i) ∧ ∃ n, wr = w.drewN n)
  case atStart => exact ⟨0, rfl, ⟨by omega⟩, ⟨rfl⟩, 0, rfl⟩
  case round =>
    obtain ⟨i, rfl, HI, HE, n0, rfl⟩ := hrel
    have hI := HI.out
    cases gk with
    | succ k1 =>
      have hlt : i < L := by omega
      obtain ⟨ad, rfl, hca⟩ := C_one ByteArray.empty HA.out i (by rw [HL.out]; exact hlt)
      obtain ⟨ad2, rfl, hcb⟩ := C_one ByteArray.empty HB.out i (by rw [HM.out]; exact hlt)
      have HS := Aside0.mk (show a.take (i + 1) = a.take i ++ [a.getD i ByteArray.empty] from take_snoc a _ i (by rw [HL.out]; exact hlt))
      have HS2 := Aside0.mk (show b.take (i + 1) = b.take i ++ [b.getD i ByteArray.empty] from take_snoc b _ i (by rw [HM.out]; exact hlt))
      obtain ⟨x, hx⟩ : ∃ x, a.getD i ByteArray.empty = x := ⟨_, rfl⟩
      obtain ⟨y, hy⟩ : ∃ x, b.getD i ByteArray.empty = x := ⟨_, rfl⟩
      rw [hx] at hca HS
      rw [hy] at hcb HS2
      have hi0 : (0 : Int) ≤ i := by omega
      have hlt2 : (i : Int) < (L : Int) := by omega
      clear hx hy hI
      by_cases hxy : x.toList = y.toList
      · go_wp2
        go_quiet (fail)
        go_wp2
        go_roundg k1
        case measure => omega
        case rel => exact ⟨i + 1, by go_num, ⟨by have := HI.out; omega⟩, ⟨by rw [HS.out, HS2.out, HE.out, bytes_ext hxy]⟩, _, rfl⟩
      · have hb : (x.toList == y.toList) = false := beq_eq_false_iff_ne.2 hxy
        have HX := Aside0.mk hxy
        clear hxy
        go_wp2
        go_quiet (fail)
        go_wp2
        go_ret
        refine ⟨ret_bool ?_, _, World.drewN_drewN _ _ _⟩
        symm
        apply decide_eq_false
        intro hab
        subst hab
        have := HS.out.symm.trans HS2.out
        simp at this
        exact HX.out (by rw [this])
    | zero =>
      have hge : ¬ i < L := by omega
      clear hI
      go_wp2
      go_ret
      refine ⟨ret_bool ?_, _, rfl⟩
      symm
      apply decide_eq_true
      have h := HE.out
      rw [List.take_of_length_le (by rw [HL.out]; omega), List.take_of_length_le (by rw [HM.out]; omega)] at h
      exact h

theorem same_quiet (w : World) (A B : Option Addr) (c d : Nat) (a b : List ByteArray) (L M : Nat) (hL : a.length = L) (hM : b.length = M) (hm : L ≤ 1000000) (hn : M ≤ 1000000) (hA : Kd.string.C w A a.length a) (hB : Kd.string.C w B b.length b) :
    Calls Try.prog 13 #[.slice A L c, .slice B M d] w fun e w' => e = .returned (.bool (decide (a = b))) ∧ ∃ n, w' = w.drewN n := by
  by_cases h : L = M
  · subst h
    exact same_eqN w A B c d a b L hL hM hm hA hB
  · have hne : ¬ a = b := fun e => h (by rw [← hL, ← hM, e])
    exact (same_ne w A B c d L M h hm hn).mono fun e w' ⟨he, hw⟩ => ⟨by rw [he, decide_eq_false hne], 0, hw.symm⟩

theorem same_any (w : World) (A B : Option Addr) (c d : Nat) (a b : List ByteArray) (L M : Nat) (hL : a.length = L) (hM : b.length = M) (hm : L ≤ 1000000) (hn : M ≤ 1000000) (hA : Kd.string.C w A a.length a) (hB : Kd.string.C w B b.length b) :
    Calls Try.prog 13 #[.slice A L c, .slice B M d] w fun e w' => e = .returned (.bool (decide (a = b))) ∧ Below w.heap.size w w' :=
  (same_quiet w A B c d a b L M hL hM hm hn hA hB).mono fun _ _ ⟨he, n, hw⟩ => ⟨he, hw ▸ pw_below_drewN (Below.refl _ _) n⟩

/-- Not great: at most 50 parts of 200 things. -/
def Small {α : Type} (ps : List (List α)) : Prop := ps.length ≤ 50 ∧ ps.flatten.length ≤ 200

def GreatPost (ps : List (List ByteArray)) (w : World) (e : Ending) (w' : World) : Prop := ∃ b, e = .returned (.bool b) ∧ Aside0 (b = false → Small ps) ∧ w = w'

set_option maxHeartbeats 2000000 in
theorem great_any (w : World) (A : Option Addr) (c : Nat) (ps : List (List ByteArray)) (L : Nat) (hL : ps.length = L) (hC : (Kd.slice 9 Kd.string).C w A ps.length ps) (hmax : L ≤ 9223372036854775807)
    (hrow : ∀ x ∈ ps, x.length ≤ 9223372036854775807) :
    Calls Try.prog 10 #[.slice A L c] w (GreatPost ps w) := by
  have HC := Aside0.mk hC
  have HL := Aside0.mk hL
  have HR := Aside0.mk hrow
  clear hC hL hrow
  go_enter Try.func10, Try.ntmps10
  go_wp2
  go_loopg [3, 4] 51 (fun gk v3 v4 wr => ∃ (i n : Nat), v4 = .int .i64 (i : Int) ∧ v3 = .int .i64 (n : Int) ∧ Aside0 (i + gk = 51) ∧ Aside0 (i ≤ L) ∧ Aside0 (n ≤ 201 * i) ∧ Aside0 (n ≤ 200 → n = (ps.take i).flatten.length) ∧ w = wr)
  case atStart => exact ⟨0, 0, rfl, rfl, ⟨by omega⟩, ⟨by omega⟩, ⟨by omega⟩, ⟨fun _ => by simp⟩, rfl⟩
  case round =>
    obtain ⟨i, n, rfl, rfl, HI, HiL, HN, HX, rfl⟩ := hrel
    have hI := HI.out
    have hiL := HiL.out
    have hN := HN.out
    by_cases hin : i < L ∧ i ≤ 50
    · obtain ⟨hlt, hl50⟩ := hin
      obtain ⟨ad, A0, c0, rfl, hcell, hlc, hC0⟩ := C_row HC.out i (by rw [HL.out]; exact hlt)
      have hxl : (ps.getD i []).length ≤ 9223372036854775807 := by
        refine HR.out _ ?_
        rw [List.getD_eq_getElem?_getD, List.getElem?_eq_getElem (by rw [HL.out]; exact hlt)]
        exact List.getElem_mem _
      have HP := Aside0.mk (pre_succ (ps := ps) (i := i) (by rw [HL.out]; exact hlt))
      obtain ⟨x, hx⟩ : ∃ x, ps.getD i [] = x := ⟨_, rfl⟩
      rw [hx] at hcell hxl HP
      clear hC0 hlc hx hI
      have hn1 : n ≤ 100000 := by omega
      obtain ⟨k1, rfl⟩ : ∃ k1, gk = k1 + 1 := ⟨gk - 1, by have := HI.out; omega⟩
      clear hN hiL
      by_cases hx2 : (201 : Int) < (x.length : Int)
      · go_wp2
        go_roundg k1
        case measure => omega
        case rel => exact ⟨i + 1, n + 201, by go_num, by go_num, ⟨by have := HI.out; omega⟩, ⟨by omega⟩, ⟨by have := HN.out; omega⟩, ⟨fun h => by omega⟩, rfl⟩
      · go_wp2
        go_roundg k1
        case measure => omega
        case rel => exact ⟨i + 1, n + x.length, by go_num, by go_num, ⟨by have := HI.out; omega⟩, ⟨by omega⟩, ⟨by have := HN.out; omega⟩, ⟨fun h => by rw [HP.out, List.length_append, ← HX.out (by omega)]⟩, rfl⟩
    · have hn1 : n ≤ 100000 := by omega
      by_cases hL50 : 50 < L
      · have hout : ¬ i ≤ 50 ∨ ¬ i < L := by omega
        clear hin hI hN hiL
        by_cases hi50 : i ≤ 50
        · omega
        · clear hout
          by_cases hh : i < L
          · go_wp2
            go_ret
            exact ⟨true, rfl, ⟨fun h => by cases h⟩, rfl⟩
          · go_wp2
            go_ret
            exact ⟨true, rfl, ⟨fun h => by cases h⟩, rfl⟩
      · have hh : ¬ i < L := by omega
        clear hin hI hN hiL
        by_cases h200 : n ≤ 200
        · go_wp2
          go_ret
          refine ⟨false, ret_bool (by simp; omega), ⟨fun _ => ⟨by have := HL.out; omega, ?_⟩⟩, rfl⟩
          have := HX.out h200
          rw [List.take_of_length_le (by rw [HL.out]; omega)] at this
          omega
        · go_wp2
          go_ret
          exact ⟨true, ret_bool (by simp; omega), ⟨fun h => by cases h⟩, rfl⟩
end Go.Proofs.Ytmndgaibdcllgaa
