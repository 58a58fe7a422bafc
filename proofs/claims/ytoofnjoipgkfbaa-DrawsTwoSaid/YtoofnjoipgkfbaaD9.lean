/- DrawsTwo's walk. Conditions: a list of numbers of 32 bits, one of bools. -/
import Derived.Test.YtoofnjoipgkfbaaD5
import Derived.Deep.DeepMust
namespace Go.Proofs.Ytoofnjoipgkfbaa
open Go.RowKit Go.Proofs.YtoofnjoipgkfbaaW.PrintWords Lb

/-- The first p draws. -/
def dl (l : List Int) (p : Nat) : List Int := (List.range p).map fun (j : Nat) => drawN l (j : Int)
theorem dl_succ (l : List Int) (p : Nat) : dl l (p + 1) = dl l p ++ [drawN l (p : Int)] := by simp [dl, List.range_succ]
theorem dl_len (l : List Int) (p : Nat) : (dl l p).length = p := by simp [dl]
theorem rd_dl (l : List Int) (p : Nat) (i : Nat) (h : i < p) : rd (dl l p) (i : Int) = drawN l (i : Int) := by
  unfold rd dl
  simp [List.getD_eq_getElem?_getD, h]

structure Two (w0 w : World) (F1 F2 Fx Fy : Nat → Prop) (b1 b2 : Nat) (l : List Int) (n m : Int) (vx vy : Value) (xs ys : List Int) : Prop where
  x : DrawsAt w F1 b1 l n
  y : DrawsAt w F2 b2 l m
  rx : (Kd.int .u32).R 30 w w0.heap.size Fx vx xs
  ry : (Kd.int .u32).R 30 w w0.heap.size Fy vy ys
  bl : Below w0.heap.size w0 w
  g1 : ∀ k, F1 k → w0.heap.size ≤ k
  g2 : ∀ k, F2 k → w0.heap.size ≤ k
  gx : ∀ k, Fx k → w0.heap.size ≤ k ∧ k < w.heap.size
  gy : ∀ k, Fy k → w0.heap.size ≤ k ∧ k < w.heap.size
  a12 : ∀ k, F1 k → ¬ F2 k
  a1x : ∀ k, F1 k → ¬ Fx k
  a1y : ∀ k, F1 k → ¬ Fy k
  a2x : ∀ k, F2 k → ¬ Fx k
  a2y : ∀ k, F2 k → ¬ Fy k
  axy : ∀ k, Fx k → ¬ Fy k

section
variable {w0 w w1 : World} {F1 F2 Fx Fy : Nat → Prop} {b1 b2 : Nat} {l : List Int} {n m n' : Int} {vx vy v1 : Value} {xs ys xs1 : List Int}
theorem Two.nextx (h : Two w0 w F1 F2 Fx Fy b1 b2 l n m vx vy xs ys) (hD : DrawsAt w1 F1 b1 l n') (hc : Chg (fun k => k = b1) w w1) : Two w0 w1 F1 F2 Fx Fy b1 b2 l n' m vx vy xs ys :=
  ⟨hD, h.y.keep hc (fun k hk e => h.a12 k (by rw [e]; exact h.x.hb) hk), R_chg h.rx hc (fun k hk e => h.a1x k (by rw [e]; exact h.x.hb) hk), R_chg h.ry hc (fun k hk e => h.a1y k (by rw [e]; exact h.x.hb) hk),
    h.bl.trans (hc.below h.bl.size (fun k e => by rw [e]; exact h.g1 b1 h.x.hb)), h.g1, h.g2, fun k hk => ⟨(h.gx k hk).1, Nat.lt_of_lt_of_le (h.gx k hk).2 hc.size⟩, fun k hk => ⟨(h.gy k hk).1, Nat.lt_of_lt_of_le (h.gy k hk).2 hc.size⟩, h.a12, h.a1x, h.a1y, h.a2x, h.a2y, h.axy⟩
theorem Two.flip (h : Two w0 w F1 F2 Fx Fy b1 b2 l n m vx vy xs ys) : Two w0 w F2 F1 Fy Fx b2 b1 l m n vy vx ys xs :=
  ⟨h.y, h.x, h.ry, h.rx, h.bl, h.g2, h.g1, h.gy, h.gx, fun k a b => h.a12 k b a, h.a2y, h.a2x, h.a1y, h.a1x, fun k a b => h.axy k b a⟩
theorem Two.pushx {Fx1 : Nat → Prop} (h : Two w0 w F1 F2 Fx Fy b1 b2 l n m vx vy xs ys) (hR : (Kd.int .u32).R 30 w1 w0.heap.size Fx1 v1 xs1) (hl : ∀ k, Fx1 k → k < w1.heap.size) (hn : ∀ k, Fx1 k → Fx k ∨ w.heap.size ≤ k) (hc : Chg Fx w w1) :
    Two w0 w1 F1 F2 Fx1 Fy b1 b2 l n m v1 vy xs1 ys :=
  ⟨h.x.keep hc h.a1x, h.y.keep hc h.a2x, hR, R_chg h.ry hc (fun k hk e => h.axy k e hk), h.bl.trans (hc.below h.bl.size (fun k e => (h.gx k e).1)), h.g1, h.g2,
    fun k hk => ⟨by rcases hn k hk with e | e; exact (h.gx k e).1; exact Nat.le_trans h.bl.size e, hl k hk⟩, fun k hk => ⟨(h.gy k hk).1, Nat.lt_of_lt_of_le (h.gy k hk).2 hc.size⟩, h.a12,
    fun k a b => by rcases hn k b with e | e; exact h.a1x k a e; have := h.x.lt k a; omega, h.a1y, fun k a b => by rcases hn k b with e | e; exact h.a2x k a e; have := h.y.lt k a; omega, h.a2y,
    fun k a b => by rcases hn k a with e | e; exact h.axy k e b; have := (h.gy k b).2; omega⟩
theorem Two.keep (h : Two w0 w F1 F2 Fx Fy b1 b2 l n m vx vy xs ys) (hc : Chg Non w w1) : Two w0 w1 F1 F2 Fx Fy b1 b2 l n m vx vy xs ys :=
  ⟨h.x.keep hc (fun _ _ e => e), h.y.keep hc (fun _ _ e => e), R_chg h.rx hc (fun _ _ e => e), R_chg h.ry hc (fun _ _ e => e),
    h.bl.trans (hc.below h.bl.size (fun _ e => e.elim)), h.g1, h.g2, fun k hk => ⟨(h.gx k hk).1, Nat.lt_of_lt_of_le (h.gx k hk).2 hc.size⟩, fun k hk => ⟨(h.gy k hk).1, Nat.lt_of_lt_of_le (h.gy k hk).2 hc.size⟩, h.a12, h.a1x, h.a1y, h.a2x, h.a2y, h.axy⟩
end

set_option maxHeartbeats 1000000 in
set_option maxRecDepth 100000 in
theorem two_great (w : World) (A B : Option Addr) (L M c d : Nat) (h : 500 < L ∨ 300 < M) :
    Calls Try.prog 7 #[.slice A L c, .slice B M d] w fun e w' => e = .returned (.bool true) ∧ Below w.heap.size w w' := by
  by_cases h1 : 500 < L
  · go_enter Try.func7, Try.ntmps7
    go_wp2_with (go_at_call 9; refine (awake_yes _).mono ?_; rintro e w1 ⟨rfl, hB⟩; have HB := Aside0.mk hB; clear hB)
    go_ret
    exact ⟨rfl, HB.out⟩
  · have h2 : 300 < M := by omega
    go_enter Try.func7, Try.ntmps7
    go_wp2_with (go_at_call 9; refine (awake_yes _).mono ?_; rintro e w1 ⟨rfl, hB⟩; have HB := Aside0.mk hB; clear hB)
    go_ret
    exact ⟨rfl, HB.out⟩

set_option maxHeartbeats 2000000 in
set_option maxRecDepth 100000 in
theorem two_main (w : World) (A B : Option Addr) (l : List Int) (ts : List Bool) (c d : Nat) (ha : l.length ≤ 500) (hb : ts.length ≤ 300) (hCa : (Kd.int .u32).C w A l.length l) (hCb : Kd.bool.C w B ts.length ts) (hU : U32s l) :
    Calls Try.prog 7 #[.slice A l.length c, .slice B ts.length d] w fun e w' => e = .returned (.bool true) ∧ Below w.heap.size w w' := by
  have HCa := Aside0.mk hCa
  have HCb := Aside0.mk hCb
  have HU := Aside0.mk hU
  clear hCa hCb hU
  go_enter Try.func7, Try.ntmps7
  go_wp2_with fail
  refine (awake_yes _).mono ?_
  rintro e w1 ⟨rfl, hB⟩
  have HB := Aside0.mk hB
  clear hB
  go_wp2_with fail
  refine (new_ok _ A c l (Kd.C_below HCa.out HB.out) (by omega)).mono ?_
  rintro e w2 ⟨b1, F1, rfl, hD, hF, hB⟩
  have HD1 := Aside0.mk hD
  have HF1 := Aside0.mk (show ∀ k, F1 k → w.heap.size ≤ k from fun k hk => Nat.le_trans HB.out.size (hF k hk))
  have HB2 := Aside0.mk (HB.out.trans (hB.mono HB.out.size))
  clear hD hF hB
  go_wp2_with fail
  refine (new_ok _ A c l (Kd.C_below HCa.out HB2.out) (by omega)).mono ?_
  rintro e w3 ⟨b2, F2, rfl, hD, hF, hB⟩
  have HB3 := HB2.out.trans (hB.mono HB2.out.size)
  have HT := Aside0.mk (show Two w w3 F1 F2 (fun _ => False) (fun _ => False) b1 b2 l 0 0 (.slice none 0 0) (.slice none 0 0) (dl l 0) (dl l 0) from
    ⟨HD1.out.keep (Chg.of_below (F := Non) hB) (fun _ _ h => h), hD, Kd.R_nil _ _ _ _ _, Kd.R_nil _ _ _ _ _, HB3, HF1.out, fun k hk => Nat.le_trans HB2.out.size (hF k hk), fun k h => h.elim, fun k h => h.elim,
      fun k h1 h2 => by have := HD1.out.lt k h1; have := hF k h2; omega, fun _ _ h => h, fun _ _ h => h, fun _ _ h => h, fun _ _ h => h, fun _ h => h.elim⟩)
  clear hD hF hB HB3
  go_wp2
  go_loopg [9, 10, 11] ts.length (fun gk v9 v10 v11 wr => ∃ (p q : Nat) (Ax Ay : Option Addr) (cx cy : Nat), v9 = .slice Ax p cx ∧ v10 = .slice Ay q cy ∧ v11 = .int .i64 ((p + q : Nat) : Int) ∧ Aside0 (p + q + gk = ts.length) ∧
    Aside0 (∃ Fx Fy, Two w wr F1 F2 Fx Fy b1 b2 l p q (.slice Ax p cx) (.slice Ay q cy) (dl l p) (dl l q)))
  case atStart => exact ⟨0, 0, none, none, 0, 0, rfl, rfl, rfl, ⟨by omega⟩, ⟨_, _, HT.out⟩⟩
  case round =>
    obtain ⟨p, q, Ax, Ay, cx, cy, rfl, rfl, rfl, HI, HX⟩ := hrel
    have hI := HI.out
    obtain ⟨Fx, Fy, hT⟩ := HX.out
    have HT := Aside0.mk hT
    clear hT HX
    cases gk with
    | succ k1 =>
      have hlt : p + q < ts.length := by omega
      obtain ⟨ad, rfl, hcell⟩ := Kd.at_bool (Kd.C_below HCb.out HT.out.bl) ((p + q : Nat) : Int) (by omega) (by omega)
      rw [Int.toNat_natCast] at hcell
      clear hI
      cases ht : rdOf false ts ((p + q : Nat) : Int) with
      | true =>
        rw [ht] at hcell
        clear ht
        go_wp2_with fail
        refine (next_at HT.out.x (by omega) (by omega) HU.out (by omega)).mono ?_
        rintro e w7 ⟨rfl, hD, hC⟩
        have HT7 := Aside0.mk (HT.out.nextx hD hC)
        have HP := Aside0.mk (show (Kd.int .u32).M w7 w.heap.size (fun _ => False) (drawN l (p : Int)) [.int .u32 (drawN l (p : Int))] from rfl)
        clear hD hC hcell
        go_wp2_with (first | ((with_reducible refine gate_builtin (b := .append) (xs := #[.tmp 49, .tmp 52]) rfl ?_); at_builtin; go_must (refine R_push (Kd.int .u32) w.heap.size Fx rfl (.tmp 49) (.tmp 52) 26 30 (.int .u32 0) 4 rfl Try.underlying26 info30 rfl (by decide) (by omega) (.slice Ax p cx) (dl l p) (drawN l (p : Int)) [.int .u32 (drawN l (p : Int))] (fun _ => False) rfl rfl HP.out (fun _ h => h.elim) HT7.out.rx HT7.out.bl.size (by rw [dl_len]; omega) ?_; intro v1 w8 Fx1 hR hlt hnew hC; rw [← dl_succ] at hR; obtain ⟨A8, c8, hv, hc8, _, hR8⟩ := R_out hR; rw [dl_len] at hv hR8; subst hv; have HT8 := Aside0.mk (HT7.out.pushx hR8 hlt hnew hC); clear hR hlt hnew hC hR8 hc8)))
        go_roundg k1
        case measure => omega
        case rel => exact ⟨p + 1, q, A8, Ay, c8, cy, rfl, rfl, by go_num, ⟨by have := HI.out; omega⟩, ⟨_, _, HT8.out⟩⟩
      | false =>
        rw [ht] at hcell
        clear ht
        go_wp2_with fail
        refine (next_at HT.out.y (by omega) (by omega) HU.out (by omega)).mono ?_
        rintro e w7 ⟨rfl, hD, hC⟩
        have HT7 := Aside0.mk (HT.out.flip.nextx hD hC)
        have HP := Aside0.mk (show (Kd.int .u32).M w7 w.heap.size (fun _ => False) (drawN l (q : Int)) [.int .u32 (drawN l (q : Int))] from rfl)
        clear hD hC hcell
        go_wp2_with (first | ((with_reducible refine gate_builtin (b := .append) (xs := #[.tmp 54, .tmp 57]) rfl ?_); at_builtin; go_must (refine R_push (Kd.int .u32) w.heap.size Fy rfl (.tmp 54) (.tmp 57) 26 30 (.int .u32 0) 4 rfl Try.underlying26 info30 rfl (by decide) (by omega) (.slice Ay q cy) (dl l q) (drawN l (q : Int)) [.int .u32 (drawN l (q : Int))] (fun _ => False) rfl rfl HP.out (fun _ h => h.elim) HT7.out.rx HT7.out.bl.size (by rw [dl_len]; omega) ?_; intro v1 w8 Fx1 hR hlt hnew hC; rw [← dl_succ] at hR; obtain ⟨A8, c8, hv, hc8, _, hR8⟩ := R_out hR; rw [dl_len] at hv hR8; subst hv; have HT8 := Aside0.mk ((HT7.out.pushx hR8 hlt hnew hC).flip); clear hR hlt hnew hC hR8 hc8)))
        go_roundg k1
        case measure => omega
        case rel => exact ⟨p, q + 1, Ax, A8, cx, c8, rfl, rfl, by go_num, ⟨by have := HI.out; omega⟩, ⟨_, _, HT8.out⟩⟩
    | zero =>
      have hge : ¬ p + q < ts.length := by omega
      have hp : p ≤ 300 := by omega
      have hq : q ≤ 300 := by omega
      clear hI
      obtain ⟨N, hN⟩ : ∃ N : Nat, N = if q < p then q else p := ⟨_, rfl⟩
      have hNp : N ≤ p := by rw [hN]; split <;> omega
      have hNq : N ≤ q := by rw [hN]; split <;> omega
      go_wp2
      go_loopg [12] N (fun gk v12 wr => ∃ i : Nat, v12 = .int .i64 (i : Int) ∧ Aside0 (i + gk = N) ∧ Aside0 (Two w wr F1 F2 Fx Fy b1 b2 l p q (.slice Ax p cx) (.slice Ay q cy) (dl l p) (dl l q)))
      case atStart => exact ⟨0, rfl, ⟨by omega⟩, HT⟩
      case round =>
        obtain ⟨i, rfl, HI, HT⟩ := hrel
        have hI := HI.out
        cases gk with
        | succ k1 =>
          have hip : (i : Int) < p := by omega
          have hiq : (i : Int) < q := by omega
          obtain ⟨g, c3, hv, _, hcx, _, _⟩ := int_at_own HT.out.rx i (by rw [dl_len]; omega)
          injection hv with hA2 hu1 hu2
          subst hA2
          obtain ⟨g', c3', hv', _, hcy, _, _⟩ := int_at_own HT.out.ry i (by rw [dl_len]; omega)
          injection hv' with hA2 hu3 hu4
          subst hA2
          rw [rd_dl l p i (by omega)] at hcx
          rw [rd_dl l q i (by omega)] at hcy
          have hi0 : (0 : Int) ≤ i := by omega
          clear hI hN hu1 hu2 hu3 hu4
          by_cases hqp : (q : Int) < p
          all_goals
            go_wp2
            go_quiet (fail)
            go_wp2
            go_roundg k1
            case measure => omega
            case rel => exact ⟨i + 1, by go_num, ⟨by have := HI.out; omega⟩, ⟨HT.out.keep ((Chg.refl _ _).drewN _)⟩⟩
        | zero =>
          have hout : ¬ ((i : Int) < p ∧ (i : Int) < q) := by split at hN <;> omega
          clear hN hI HI hNp hNq
          by_cases hqp : (q : Int) < p
          · have hge : ¬ (i : Int) < (q : Int) := by omega
            clear hout
            go_wp2_with fail
            refine (len_obj HT.out.x).mono ?_
            rintro e w7 ⟨rfl, rfl⟩
            go_wp2_with fail
            refine (len_obj HT.out.y).mono ?_
            rintro e w7 ⟨rfl, rfl⟩
            go_wp2
            go_ret
            exact ⟨ret_bool (by simp), HT.out.bl⟩
          · have hge : ¬ (i : Int) < (p : Int) := by omega
            clear hout
            go_wp2_with fail
            refine (len_obj HT.out.x).mono ?_
            rintro e w7 ⟨rfl, rfl⟩
            go_wp2_with fail
            refine (len_obj HT.out.y).mono ?_
            rintro e w7 ⟨rfl, rfl⟩
            go_wp2
            go_ret
            exact ⟨ret_bool (by simp), HT.out.bl⟩
end Go.Proofs.Ytoofnjoipgkfbaa
namespace Go.Proofs.Ytoofnjoipgkfbaa
open Go.RowKit Go.Proofs.YtoofnjoipgkfbaaW.PrintWords Lb
theorem two_walk (w : World) (A B : Option Addr) (c d : Nat) (l : List Int) (ts : List Bool) (hCa : (Kd.int .u32).C w A l.length l) (hCb : Kd.bool.C w B ts.length ts) (hU : U32s l) :
    Calls Try.prog 7 #[.slice A l.length c, .slice B ts.length d] w fun e w' => e = .returned (.bool true) ∧ Below w.heap.size w w' := by
  by_cases h : 500 < l.length ∨ 300 < ts.length
  · exact two_great w A B l.length ts.length c d h
  · exact two_main w A B l ts c d (by omega) (by omega) hCa hCb hU
end Go.Proofs.Ytoofnjoipgkfbaa
