/- A made table's contracts; the document's May and Least; same; awake. Conditions: what lies in memory as told. -/
import Derived.Test.YtlnchdelcadmoaaT4
namespace Go.Proofs.Ytlnchdelcadmoaa
open Go.RowKit Go.Proofs.YtlnchdelcadmoaaW.PrintWords Go.Proofs.YtlnchdelcadmoaaW.PrintLast Go.Proofs.YtlnchdelcadmoaaW.PrintMore Lb

def leastP (l : List Kind) (cl c : Int) : Int := if 0 ≤ c ∧ c < cl then leastC l c.toNat else 0
section
variable {w : World} {F : Nat → Prop} {b : Nat} {l : List Kind} {cl : Int}
theorem TabO.parts (h : TabO w F b l cl) : 1 ≤ l.length ∧ l.length ≤ 16 ∧ 1 ≤ cl ∧ cl ≤ 8 ∧ ∀ k ∈ l, k.mask < 256 := by
  obtain ⟨a, b, c, d, e⟩ := right_parts h.ok
  exact ⟨a, b, c, d, fun k hk => okK_mask (e k hk) d⟩
theorem rowP_leasts (hcl : cl ≤ 8) (x : Int) : rowP (leasts l cl) cl x = leastP l cl x := by
  unfold rowP leastP leasts
  by_cases h : 0 ≤ x ∧ x < cl
  · rw [if_pos h, if_pos h, lsAt_get l cl _ _ _ (by omega), if_pos (by omega), if_neg (show ¬ x.toNat < 0 by omega), List.take_length]
  · rw [if_neg h, if_neg h]
theorem kinds_T (h : TabO w F b l cl) : Calls Try.prog 18 #[.pointer (some ⟨b, 0, none⟩)] w fun e w' => e = .returned (.int .i64 l.length) ∧ w = w' := by
  obtain ⟨⟨A, c, t⟩, _⟩ := h
  exact kinds_ok t
theorem classes_T (h : TabO w F b l cl) : Calls Try.prog 19 #[.pointer (some ⟨b, 0, none⟩)] w fun e w' => e = .returned (.int .i64 cl) ∧ w = w' := by
  obtain ⟨⟨A, c, t⟩, _⟩ := h
  exact classes_ok t
theorem may_T (h : TabO w F b l cl) (x y : Int) : Calls Try.prog 16 #[.pointer (some ⟨b, 0, none⟩), .int .i64 x, .int .i64 y] w fun e w' => e = .returned (.bool (mayP l cl x y)) ∧ w = w' := by
  have hp := h.parts
  obtain ⟨⟨A, c, t⟩, _⟩ := h
  exact may_any t hp.2.2.2.1 hp.2.2.2.2 x y
theorem cost_T (h : TabO w F b l cl) (y : Int) : Calls Try.prog 15 #[.pointer (some ⟨b, 0, none⟩), .int .i64 y] w fun e w' => e = .returned (.int .i64 (costP l y)) ∧ w = w' := by
  obtain ⟨⟨A, c, t⟩, _⟩ := h
  exact cost_any t y
theorem least_T (h : TabO w F b l cl) (x : Int) : Calls Try.prog 13 #[.pointer (some ⟨b, 0, none⟩), .int .i64 x] w fun e w' => e = .returned (.tuple #[.int .i64 (leastP l cl x), .bool (decide (0 < leastP l cl x))]) ∧ Below w.heap.size w w' := by
  have hp := h.parts
  obtain ⟨⟨A, c, t⟩, _⟩ := h
  rw [← rowP_leasts hp.2.2.2.1]
  exact least_any t hp.2.2.2.1 (lsAt_len _ _ _ _) x
theorem all_T (h : TabO w F b l cl) : Calls Try.prog 12 #[.pointer (some ⟨b, 0, none⟩)] w (RetRow w l) := by
  have hp := h.parts
  obtain ⟨⟨A, c, t⟩, _⟩ := h
  exact all_ok t (by omega)
end
theorem C_of_blk {w : World} {L : Nat} {t : TypeId} (xs : List Kind) (hl : xs.length ≤ 1000000) (h : w.heap[L]? = some (.cells (flat encK xs).toArray t (0, 0))) : kdK.C w (some ⟨L, 0, none⟩) xs.length xs :=
  ⟨rfl, by omega, fun _ => ⟨_, rfl, fun j p hj => ⟨encK p, rfl, rfl, fun i u hu => by
    have hi : i < 2 := by have := (List.getElem?_eq_some_iff.1 hu).1; exact this
    rw [add_plain, blk_cell h]
    have e := flat_get encK_len xs j i p hj hi
    show (flat encK xs).toArray[j * 2 + i]? = some u
    rw [List.getElem?_toArray, e]
    exact hu⟩⟩⟩

/-- The document's May. -/
theorem rmay_ok (w : World) (A : Option Addr) (n c : Nat) (l : List Kind) (cl x y : Int) (hC : kdK.C w A n l) (hn : l.length = n) (hm : ∀ k ∈ l, k.mask < 256) (hcl : cl ≤ 8) : Calls Try.prog 21 #[.slice A n c, .int .i64 cl, .int .i64 x, .int .i64 y] w fun e w' => e = .returned (.bool (mayP l cl x y)) ∧ w = w' := by
  have HCl := Aside0.mk hC
  have HN := Aside0.mk hn
  have HM := Aside0.mk hm
  clear hC
  by_cases h1 : 0 ≤ x
  · have h1' : decide (x < 0) = false := decide_eq_false (by omega)
    by_cases h2 : x < cl
    · by_cases h3 : 0 ≤ y
      · have h3' : decide (y < 0) = false := decide_eq_false (by omega)
        by_cases h4 : y < (n : Int)
        · obtain ⟨k, rfl⟩ := Int.eq_ofNat_of_zero_le h1
          obtain ⟨i, rfl⟩ := Int.eq_ofNat_of_zero_le h3
          have hin : i < n := by omega
          obtain ⟨g, o, rfl, a0, a1⟩ := kind_at HCl.out i hin
          have hmk : (kAt l i).mask < 256 := HM.out _ (List.mem_of_getElem? (kAt_some (by have := HN.out; omega)))
          have HV : Aside0 (mayP l cl (k : Int) (i : Int) = bit (kAt l i).mask k) := ⟨by simp [mayP, h1, h2, h3, hn, h4]⟩
          clear hn hm
          go_enter Try.func21, Try.ntmps21
          go_wp2_with fail
          refine (bit_ok _ (kAt l i).mask k hmk (by omega)).mono ?_
          rintro e w2 ⟨rfl, rfl⟩
          go_wp2
          go_ret
          exact ⟨ret_bool HV.out.symm, rfl⟩
        · have HV : Aside0 (mayP l cl x y = false) := ⟨by simp [mayP, hn, h4]⟩
          clear hn hm
          go_enter Try.func21, Try.ntmps21
          go_wp2
          go_ret
          exact ⟨ret_bool HV.out.symm, rfl⟩
      · have HV : Aside0 (mayP l cl x y = false) := ⟨by simp [mayP, h3]⟩
        have h3' : y < 0 := by omega
        clear hn hm h3
        go_enter Try.func21, Try.ntmps21
        go_wp2
        go_ret
        exact ⟨ret_bool HV.out.symm, rfl⟩
    · have HV : Aside0 (mayP l cl x y = false) := ⟨by simp [mayP, h2]⟩
      clear hn hm
      go_enter Try.func21, Try.ntmps21
      go_wp2
      go_ret
      exact ⟨ret_bool HV.out.symm, rfl⟩
  · have HV : Aside0 (mayP l cl x y = false) := ⟨by simp [mayP, h1]⟩
    have h1' : x < 0 := by omega
    clear hn hm h1
    go_enter Try.func21, Try.ntmps21
    go_wp2
    go_ret
    exact ⟨ret_bool HV.out.symm, rfl⟩

/-- The least cost of class x among the first i. -/
def leastQ (l : List Kind) (cl x : Int) (i : Nat) : Int := if 0 ≤ x ∧ x < cl then leastC (l.take i) x.toNat else 0
theorem leastQ_next {l : List Kind} {cl x : Int} {i : Nat} (hi : i < l.length) : leastQ l cl x (i + 1) = if mayP l cl x (i : Int) = true ∧ (leastQ l cl x i = 0 ∨ (kAt l i).cost < leastQ l cl x i) then (kAt l i).cost else leastQ l cl x i := by
  unfold leastQ
  by_cases h : 0 ≤ x ∧ x < cl
  · rw [if_pos h, if_pos h, leastC_take hi, lstep]
    have e : mayP l cl x (i : Int) = bit (kAt l i).mask x.toNat := by simp [mayP, h.1, h.2, hi]
    rw [e]
  · rw [if_neg h, if_neg h]
    have e : mayP l cl x (i : Int) = false := by
      by_cases h1 : 0 ≤ x
      · have h2 : ¬ x < cl := fun e => h ⟨h1, e⟩
        simp [mayP, h2]
      · simp [mayP, h1]
    rw [e, if_neg (by simp)]
theorem leastQ_all (l : List Kind) (cl x : Int) : leastQ l cl x l.length = leastP l cl x := by rw [leastQ, leastP, List.take_length]
set_option maxHeartbeats 2000000 in
theorem rleast_ok (w : World) (A : Option Addr) (n c : Nat) (l : List Kind) (cl x : Int) (hC : kdK.C w A n l) (hn : l.length = n) (hm : ∀ k ∈ l, k.mask < 256) (hcl : cl ≤ 8) (hn2 : n ≤ 1000000) : Calls Try.prog 22 #[.slice A n c, .int .i64 cl, .int .i64 x] w fun e w' => e = .returned (.int .i64 (leastP l cl x)) ∧ w = w' := by
  have HCl := Aside0.mk hC
  have HN := Aside0.mk hn
  have HM := Aside0.mk hm
  clear hC hn hm
  go_enter Try.func22, Try.ntmps22
  go_wp2
  go_loopg [7, 8] n (fun gk v7 v8 wr => ∃ i : Nat, v8 = .int .i64 (i : Int) ∧ v7 = .int .i64 (leastQ l cl x i) ∧ Aside0 (i + gk = n) ∧ Aside0 (wr = w))
  case atStart => exact ⟨0, rfl, by simp [leastQ, leastC], ⟨by omega⟩, ⟨rfl⟩⟩
  case round =>
    obtain ⟨i, rfl, rfl, HI, HW⟩ := hrel
    have hw := HW.out
    subst hw
    have hI := HI.out
    cases gk with
    | zero =>
      have hi : (n : Int) ≤ (i : Int) := by omega
      have HV : Aside0 (leastQ l cl x i = leastP l cl x) := ⟨by rw [← leastQ_all]; congr 1; have := HN.out; omega⟩
      clear hI
      go_wp2
      go_ret
      exact ⟨ret_int HV.out, rfl⟩
    | succ k1 =>
      have hi : (i : Int) < (n : Int) := by omega
      have hin : i < n := by omega
      have HNx := Aside0.mk (leastQ_next (l := l) (cl := cl) (x := x) (i := i) (by have := HN.out; omega))
      obtain ⟨g, o, rfl, a0, a1⟩ := kind_at HCl.out i hin
      obtain ⟨q, hq⟩ : ∃ q, q = leastQ l cl x i := ⟨_, rfl⟩
      rw [← hq] at HNx ⊢
      have HQ := Aside0.mk hq
      clear hI hq
      go_wp2_with fail
      refine (rmay_ok _ _ n c l cl x (i : Int) HCl.out HN.out HM.out hcl).mono ?_
      rintro e w4 ⟨rfl, rfl⟩
      cases hmay : mayP l cl x (i : Int)
      · have HX : Aside0 (leastQ l cl x (i + 1) = q) := ⟨by rw [HNx.out, if_neg (by rw [hmay]; simp)]⟩
        clear hmay
        go_wp2
        go_roundg k1
        case measure => omega
        case rel => exact ⟨i + 1, by go_num, by rw [HX.out], ⟨by have := HI.out; omega⟩, ⟨rfl⟩⟩
      · by_cases hst : q = 0 ∨ (kAt l i).cost < q
        · have HX : Aside0 (leastQ l cl x (i + 1) = (kAt l i).cost) := ⟨by rw [HNx.out, if_pos ⟨hmay, hst⟩]⟩
          have hcs : ((q == 0) = true) ∨ ((q == 0) = false ∧ (kAt l i).cost < q) := by
            by_cases e : q = 0
            · exact .inl (beq_iff_eq.2 e)
            · exact .inr ⟨beq_eq_false_iff_ne.2 e, by omega⟩
          clear hmay hst
          rcases hcs with hs1 | ⟨hs1, hs2⟩
          all_goals
            go_wp2
            go_roundg k1
            case measure => omega
            case rel => exact ⟨i + 1, by go_num, by rw [HX.out], ⟨by have := HI.out; omega⟩, ⟨rfl⟩⟩
        · have HX : Aside0 (leastQ l cl x (i + 1) = q) := ⟨by rw [HNx.out, if_neg (fun e => hst e.2)]⟩
          have hs1 : (q == 0) = false := beq_eq_false_iff_ne.2 (fun e => hst (.inl e))
          have hs2 : q ≤ (kAt l i).cost := by omega
          clear hmay hst
          go_wp2
          go_roundg k1
          case measure => omega
          case rel => exact ⟨i + 1, by go_num, by rw [HX.out], ⟨by have := HI.out; omega⟩, ⟨rfl⟩⟩

theorem below_next {w w1 w2 : World} (h : Below w.heap.size w w1) (k : Below w1.heap.size w1 w2) : Below w.heap.size w w2 := below_then h h.size k
set_option maxHeartbeats 1000000 in
theorem same_eq (w : World) (A B : Option Addr) (n c d : Nat) (l : List Kind) (hA : kdK.C w A n l) (hB : kdK.C w B n l) (hn : n ≤ 1000000) : Calls Try.prog 20 #[.slice A n c, .slice B n d] w fun e w' => e = .returned (.bool true) ∧ Below w.heap.size w w' := by
  have HA := Aside0.mk hA
  have HB := Aside0.mk hB
  clear hA hB
  go_enter Try.func20, Try.ntmps20
  go_wp2
  go_loopg [5] n (fun gk v wr => ∃ i : Nat, v = .int .i64 (i : Int) ∧ Aside0 (i + gk = n) ∧ Aside0 (Below w.heap.size w wr))
  case atStart => exact ⟨0, rfl, ⟨by omega⟩, ⟨Below.refl _ _⟩⟩
  case round =>
    obtain ⟨i, rfl, HI, HW⟩ := hrel
    have hI := HI.out
    cases gk with
    | zero =>
      have hi : (n : Int) ≤ (i : Int) := by omega
      clear hI
      go_wp2
      go_ret
      exact ⟨rfl, HW.out⟩
    | succ k1 =>
      have hi : (i : Int) < (n : Int) := by omega
      have hi0 : (0 : Int) ≤ (i : Int) := by omega
      have hin : i < n := by omega
      obtain ⟨g, o, rfl, a0, a1⟩ := kind_at (Kd.C_below HA.out HW.out) i hin
      obtain ⟨g', o', rfl, b0, b1⟩ := kind_at (Kd.C_below HB.out HW.out) i hin
      clear hI
      go_wp2_with fail
      go_quiet (fail)
      go_wp2
      go_roundg k1
      case measure => omega
      case rel => exact ⟨i + 1, by go_num, ⟨by have := HI.out; omega⟩, ⟨HW.out.trans (pw_below_drewN (Below.refl _ _) _)⟩⟩

def exK : List Kind := [⟨1, 3⟩, ⟨5, 2⟩, ⟨9, 0⟩]
theorem example_ok (w : World) : Calls Try.prog 10 #[] w fun e w' => e = .returned (.slice (some ⟨w.heap.size, 0, none⟩) 3 3) ∧ w.alloc (.cells #[.int .i64 1, .int .u8 3, .int .i64 5, .int .u8 2, .int .i64 9, .int .u8 0] 29) = w' := by
  go_enter Try.func10, Try.ntmps10
  go_wp2
  go_ret
  exact ⟨rfl, rfl⟩
theorem exK_C (w : World) : kdK.C (w.alloc (.cells #[.int .i64 1, .int .u8 3, .int .i64 5, .int .u8 2, .int .i64 9, .int .u8 0] 29)) (some ⟨w.heap.size, 0, none⟩) 3 exK := C_of_blk exK (by decide) (blk_new w _)
theorem new_yes {w : World} {A : Option Addr} {n c : Nat} {l : List Kind} {cl : Int} (hC : kdK.C w A n l) (hn : l.length = n) (hm : ∀ k ∈ l, k.mask < 256) (hr : rightP l cl = true) : Calls Try.prog 11 #[.slice A n c, .int .i64 cl] w fun e w' => ∃ (b : Nat) (F : Nat → Prop), e = .returned (.tuple #[.pointer (some ⟨b, 0, none⟩), .int .i64 0]) ∧ TabO w' F b l cl ∧ (∀ k, F k → w.heap.size ≤ k) ∧ Below w.heap.size w w' := by
  refine (new_any w A n c l cl hC hn hm).mono ?_
  rintro e w' (⟨_, h⟩ | ⟨h, _⟩)
  · exact h
  · rw [hr] at h; cases h
theorem new_no {w : World} {A : Option Addr} {n c : Nat} {l : List Kind} {cl : Int} (hC : kdK.C w A n l) (hn : l.length = n) (hm : ∀ k ∈ l, k.mask < 256) (hr : rightP l cl = false) : Calls Try.prog 11 #[.slice A n c, .int .i64 cl] w fun e w' => e = .returned (.tuple #[.pointer none, .int .i64 1]) ∧ Below w.heap.size w w' := by
  refine (new_any w A n c l cl hC hn hm).mono ?_
  rintro e w' (⟨h, _⟩ | ⟨_, h⟩)
  · rw [hr] at h; cases h
  · exact h

set_option maxHeartbeats 1000000 in
set_option maxRecDepth 100000 in
theorem awake_yes (w : World) : Calls Try.prog 14 #[] w fun e w' => e = .returned (.bool true) ∧ Below w.heap.size w w' := by
  go_enter Try.func14, Try.ntmps14
  go_wp2_with fail
  refine (example_ok w).mono ?_
  rintro e w1 ⟨rfl, rfl⟩
  go_wp2_with fail
  refine (new_yes (exK_C w) rfl (by decide) (by decide)).mono ?_
  rintro e w2 ⟨b, F, rfl, hT, hF, hb⟩
  have HT := Aside0.mk hT
  have HB := Aside0.mk (below_next (below_alloc (Below.refl w.heap.size w) _) hb)
  clear hT hF hb
  go_wp2_with fail
  refine (least_T HT.out 1).mono ?_
  rintro e w3 ⟨rfl, hb⟩
  have HT3 := Aside0.mk (HT.out.below hb)
  have HB3 := Aside0.mk (below_next HB.out hb)
  rw [show leastP exK 2 1 = 1 by decide]
  clear hb
  go_wp2_with fail
  refine (kinds_T HT3.out).mono ?_
  rintro e w4 ⟨rfl, rfl⟩
  rw [show exK.length = 3 from rfl]
  go_wp2_with fail
  refine (classes_T HT3.out).mono ?_
  rintro e w4 ⟨rfl, rfl⟩
  go_wp2_with fail
  refine (may_T HT3.out 0 0).mono ?_
  rintro e w4 ⟨rfl, rfl⟩
  rw [show mayP exK 2 0 0 = true by decide]
  go_wp2_with fail
  refine (may_T HT3.out 0 1).mono ?_
  rintro e w4 ⟨rfl, rfl⟩
  rw [show mayP exK 2 0 1 = false by decide]
  go_wp2_with fail
  refine (cost_T HT3.out 1).mono ?_
  rintro e w4 ⟨rfl, rfl⟩
  rw [show costP exK 1 = 5 by decide]
  go_wp2_with fail
  refine (all_T HT3.out).mono ?_
  rintro e w4 ⟨v, rfl, A', c', F', rfl, _, _, _, hb⟩
  have HB4 := Aside0.mk (below_next HB3.out hb)
  clear hb
  rw [show exK.length = 3 from rfl]
  go_wp2
  go_ret
  exact ⟨rfl, HB4.out⟩
end Go.Proofs.Ytlnchdelcadmoaa
