/- ArenaTwo's walk. Conditions: a list of acts, a number of 8 bits. -/
import Derived.Test.YtckimhfbbfpddaaA3
import Derived.Test.YtckimhfbbfpddaaA5
import Derived.Test.YtckimhfbbfpddaaAS
namespace Go.Proofs.Ytckimhfbbfpddaa
open Go.RowKit Go.Proofs.YtckimhfbbfpddaaW.PrintWords Lb

theorem ArenaS.lt {w : World} {F : Nat → Prop} {b : Nat} {s : Ar ByteArray} (h : ArenaS w F b s) : ∀ k, F k → k < w.heap.size := by
  obtain ⟨A, c, h⟩ := h
  exact h.lt
/-- Two arenas, far from one another. -/
structure Duo (w0 w : World) (Fa Fb : Nat → Prop) (ba bb : Nat) (sa sb : Ar ByteArray) : Prop where
  x : ArenaS w Fa ba sa
  y : ArenaS w Fb bb sb
  bl : Below w0.heap.size w0 w
  ga : ∀ k, Fa k → w0.heap.size ≤ k
  gb : ∀ k, Fb k → w0.heap.size ≤ k
  ab : ∀ k, Fa k → ¬ Fb k
section
variable {w0 w w1 : World} {Fa Fb F' : Nat → Prop} {ba bb : Nat} {sa sb s' : Ar ByteArray}
theorem Duo.flip (h : Duo w0 w Fa Fb ba bb sa sb) : Duo w0 w Fb Fa bb ba sb sa := ⟨h.y, h.x, h.bl, h.gb, h.ga, fun k a b => h.ab k b a⟩
theorem Duo.step (h : Duo w0 w Fa Fb ba bb sa sb) (hA : ArenaS w1 F' ba s') (hF : ∀ k, F' k → Fa k ∨ w.heap.size ≤ k) (hc : Chg Fa w w1) : Duo w0 w1 F' Fb ba bb s' sb :=
  ⟨hA, h.y.keep hc (fun k a b => h.ab k b a), h.bl.trans (hc.below h.bl.size h.ga), fun k hk => by rcases hF k hk with e | e; exact h.ga k e; exact Nat.le_trans h.bl.size e, h.gb,
    fun k a b => by rcases hF k a with e | e; exact h.ab k e b; have := h.y.lt k b; omega⟩
theorem Duo.drewN (h : Duo w0 w Fa Fb ba bb sa sb) (n : Nat) : Duo w0 (w.drewN n) Fa Fb ba bb sa sb :=
  ⟨h.x.keep ((Chg.refl Non w).drewN n) (fun _ _ h => h), h.y.keep ((Chg.refl Non w).drewN n) (fun _ _ h => h), h.bl.trans (((Chg.refl Non w).drewN n).below h.bl.size (fun _ e => e.elim)), h.ga, h.gb, h.ab⟩
end
def own : ByteArray := ⟨#[111, 119, 110]⟩
def ownS (i : Nat) : Ar ByteArray := ⟨List.replicate i ⟨own, true, 0⟩, 0, i⟩
theorem ownS_succ (i : Nat) : (⟨(ownS i).slots ++ [⟨⟨#[111, 119, 110]⟩, true, 0⟩], 0, (ownS i).n + 1⟩ : Ar ByteArray) = ownS (i + 1) := by
  simp [ownS, List.replicate_succ', own]
theorem ownS_at (N k : Nat) (h : k < N) : (ownS N).slots[k]? = some ⟨own, true, 0⟩ := by simp [ownS, h]
theorem ownS_len (N : Nat) : (ownS N).slots.length = N := by simp [ownS]

set_option maxHeartbeats 2000000 in
set_option maxRecDepth 100000 in
theorem two_walk (w : World) (A : Option Addr) (c : Nat) (l : List Act) (m : Int) (hC : kdAct.C w A l.length l) (hW : ∀ a ∈ l, ActWf a) (hm0 : 0 ≤ m) (hm1 : m ≤ 255) :
    Calls Try.prog 7 #[.slice A l.length c, .int .u8 m] w fun e w' => e = .returned (.bool true) ∧ Below w.heap.size w w' := by
  have hq0 : 0 ≤ m % 20 := by omega
  have hq1 : m % 20 < 20 := by omega
  have HC := Aside0.mk hC
  have HWf := Aside0.mk hW
  clear hC hW
  obtain ⟨L, hL⟩ : ∃ L, l.length = L := ⟨_, rfl⟩
  rw [hL]
  rw [hL] at HC
  have HL := Aside0.mk hL
  obtain ⟨N, hN⟩ : ∃ N : Nat, (N : Int) = 1 + m % 20 := ⟨(1 + m % 20).toNat, by omega⟩
  go_enter Try.func7, Try.ntmps7
  go_wp2_with fail
  refine (awake_yes _).mono ?_
  rintro e w1 ⟨rfl, hB⟩
  have HB := Aside0.mk hB
  clear hB
  cases hG : Great l with
  | true =>
    have HG := Aside0.mk hG
    go_wp2_with fail
    refine (great_ok _ A c l L (Kd.C_below HC.out HB.out) HL.out).mono ?_
    rintro e w2 ⟨rfl, rfl⟩
    rw [HG.out]
    go_wp2
    go_ret
    exact ⟨rfl, HB.out⟩
  | false =>
    have HG := Aside0.mk hG
    have hL300 : L ≤ 300 := by
      simp [Great] at hG
      omega
    clear hG
    go_wp2_with fail
    refine (great_ok _ A c l L (Kd.C_below HC.out HB.out) HL.out).mono ?_
    rintro e w2 ⟨rfl, rfl⟩
    rw [HG.out]
    clear hL
    go_wp2_with fail
    refine (newS w1).mono ?_
    rintro e w3 ⟨rfl, rfl⟩
    go_wp2_with fail
    refine (newS _).mono ?_
    rintro e w4 ⟨rfl, hw4⟩
    have hD : Duo w w4 (fun k => k = w1.heap.size) (fun k => k = w1.heap.size + 1) w1.heap.size (w1.heap.size + 1) ⟨[], 0, 0⟩ (ownS 0) := by
      have h1 := newS_at w1
      have h2 := newS_at (w1.alloc (.cells #[.slice none 0 0, .int .i32 0, .int .i64 0] 69))
      have hz := HB.out.size
      have hs : (w1.alloc (.cells #[.slice none 0 0, .int .i32 0, .int .i64 0] 69)).heap.size = w1.heap.size + 1 := by simp
      rw [← hw4, hs] at h2
      have hc : Chg Non (w1.alloc (.cells #[.slice none 0 0, .int .i32 0, .int .i64 0] 69)) w4 := by
        rw [hw4]; exact (Chg.refl _ _).alloc _
      refine ⟨h1.keep hc (fun _ _ h => h), h2, ?_, fun k hk => by omega, fun k hk => by omega, fun k h1 h2 => by omega⟩
      rw [hw4]
      exact below_alloc (below_alloc HB.out _) _
    have HD := Aside0.mk hD
    clear hw4 hD
    go_wp2
    go_loopg [8] N (fun gk v8 wr => ∃ i : Nat, v8 = .int .i64 ((i : Int) + 1) ∧ Aside0 (i + gk = N) ∧ Aside0 (∃ Fb, Duo w wr (fun k => k = w1.heap.size) Fb w1.heap.size (w1.heap.size + 1) ⟨[], 0, 0⟩ (ownS i)))
    case atStart => exact ⟨0, rfl, ⟨by omega⟩, ⟨_, HD.out⟩⟩
    case round =>
      obtain ⟨i, rfl, HI, HX⟩ := hrel
      have hI := HI.out
      obtain ⟨Fb, hD⟩ := HX.out
      have HD := Aside0.mk hD
      clear hD HX
      cases gk with
      | succ k1 =>
        have hle : (i : Int) + 1 ≤ 1 + m % 20 := by omega
        have hi20 : i < 20 := by omega
        clear hI
        go_wp2_with fail
        refine (takeS_new HD.out.y ⟨#[111, 119, 110]⟩ rfl (by rw [ownS_len]; omega) (by show _ ≤ _; simp only [ownS]; omega) (by show _ ≤ _; simp only [ownS]; omega)).mono ?_
        rintro e w5 ⟨rfl, F', hA, hF, hc⟩
        rw [ownS_len]
        rw [ownS_succ] at hA
        have HD5 := Aside0.mk ((HD.out.flip.step hA hF hc).flip)
        clear hA hF hc
        go_wp2
        go_roundg k1
        case measure => omega
        case rel => exact ⟨i + 1, by go_num, ⟨by have := HI.out; omega⟩, ⟨_, HD5.out⟩⟩
      | zero =>
        have hge : ¬ (i : Int) + 1 ≤ 1 + m % 20 := by omega
        obtain rfl : i = N := by omega
        clear hI HI
        go_wp2
        go_loopg [9, 10] L (fun gk v9 v10 wr => ∃ (j : Nat) (t : Int), v10 = .int .i64 (j : Int) ∧ v9 = .int .i64 t ∧ Aside0 (j + gk = L) ∧ Aside0 (-(j : Int) ≤ t ∧ t ≤ (j : Int)) ∧ Aside0 (∃ Fa s, V s ∧ s.n = t ∧ s.slots.length ≤ j ∧ Duo w wr Fa Fb w1.heap.size (w1.heap.size + 1) s (ownS i)))
        case atStart => exact ⟨0, 0, rfl, rfl, ⟨by omega⟩, ⟨by simp⟩, ⟨_, _, V_new, rfl, Nat.le_refl _, HD.out⟩⟩
        case round =>
          obtain ⟨j, t, rfl, rfl, HJ, HT, HX⟩ := hrel
          have hJ := HJ.out
          have ht := HT.out
          obtain ⟨Fa, s, hV, hn, hs, hD⟩ := HX.out
          have HD := Aside0.mk hD
          have HV := Aside0.mk hV
          have HN := Aside0.mk hn
          have HS := Aside0.mk hs
          clear hD HX hV hn hs
          cases gk with
          | succ k1 =>
            have hlt : (j : Int) < (L : Int) := by omega
            have hj300 : j < 300 := by omega
            obtain ⟨g, o, rfl, c0, c1, c2⟩ := act_at (Kd.C_below HC.out HD.out.bl) j (by omega)
            have HWx := Aside0.mk (HWf.out (l.getD j default) (by
              rw [List.getD_eq_getElem?_getD, List.getElem?_eq_getElem (by rw [HL.out]; omega)]
              exact List.getElem_mem _))
            generalize l.getD j default = x at *
            obtain ⟨d, n, sx⟩ := x
            simp only at c0 c1 c2
            clear hJ
            by_cases hd0 : d = 0
            · subst hd0
              go_wp2_with fail
              refine (takeS HD.out.x HV.out sx (by have := HS.out; omega) (by have := HN.out; omega) (by have := HN.out; omega)).mono ?_
              rintro e w5 ⟨rfl, F', hA, hF, hc⟩
              have HD5 := Aside0.mk (HD.out.step hA hF hc)
              clear hA hF hc
              go_wp2
              go_roundg k1
              case measure => omega
              case rel => exact ⟨j + 1, t + 1, by go_num, by go_num, ⟨by have := HJ.out; omega⟩, ⟨by omega⟩, ⟨_, _, V_take HV.out sx, by rw [take_n HV.out, HN.out], by have := take_len HV.out sx; have := HS.out; omega, HD5.out⟩⟩
            · have hd0' : (d == 0) = false := beq_eq_false_iff_ne.2 hd0
              by_cases hd1 : d = 1
              · subst hd1
                go_wp2_with fail
                refine (freeS HD.out.x n HWx.out.2.1.1 HWx.out.2.1.2 (by have := HS.out; omega) (by have := HN.out; omega) (by have := HN.out; omega)).mono ?_
                rintro e w5 ⟨rfl, hA, hc⟩
                have HD5 := Aside0.mk (HD.out.step hA (fun k hk => .inl hk) hc)
                clear hA hc
                cases hq : isS s n with
                | true =>
                  have HQ := Aside0.mk hq
                  clear hq
                  go_wp2
                  go_roundg k1
                  case measure => omega
                  case rel => exact ⟨j + 1, t - 1, by go_num, by go_num, ⟨by have := HJ.out; omega⟩, ⟨by omega⟩, ⟨_, _, V_free HV.out _ n, by rw [free_n, HQ.out, HN.out]; rfl, by rw [free_len]; have := HS.out; omega, HD5.out⟩⟩
                | false =>
                  have HQ := Aside0.mk hq
                  clear hq
                  go_wp2
                  go_roundg k1
                  case measure => omega
                  case rel => exact ⟨j + 1, t, by go_num, rfl, ⟨by have := HJ.out; omega⟩, ⟨by omega⟩, ⟨_, _, V_free HV.out _ n, by rw [free_n, HQ.out, HN.out]; rfl, by rw [free_len]; have := HS.out; omega, HD5.out⟩⟩
              · have hd1' : (d == 1) = false := beq_eq_false_iff_ne.2 hd1
                go_wp2
                go_roundg k1
                case measure => omega
                case rel => exact ⟨j + 1, t, by go_num, rfl, ⟨by have := HJ.out; omega⟩, ⟨by omega⟩, ⟨_, _, HV.out, HN.out, by have := HS.out; omega, HD.out⟩⟩
          | zero =>
            have hge2 : ¬ (j : Int) < (L : Int) := by omega
            clear hJ
            go_wp2
            go_loopg [11] i (fun gk v11 wr => ∃ k : Nat, v11 = .int .i64 ((k : Int) + 1) ∧ Aside0 (k + gk = i) ∧ Aside0 (Duo w wr Fa Fb w1.heap.size (w1.heap.size + 1) s (ownS i)))
            case atStart => exact ⟨0, rfl, ⟨by omega⟩, HD⟩
            case round =>
              obtain ⟨k, rfl, HK, HD⟩ := hrel
              have hK := HK.out
              cases gk with
              | succ k1 =>
                have hle : (k : Int) + 1 ≤ 1 + m % 20 := by omega
                have hlt : k < i := by omega
                have hk20 : k < 20 := by omega
                obtain ⟨A5, c5, h5⟩ := HD.out.y
                obtain ⟨g5, rfl, _, _, hcell, _⟩ := F_elem h5.row k _ (ownS_at i k hlt)
                have hx0 : wr.cell? ⟨g5, k * 3, none⟩ = some (.string ⟨#[111, 119, 110]⟩) := hcell 0 _ rfl
                have H5 := Aside0.mk h5
                clear hK hcell h5
                go_wp2_with fail
                refine (atS_yes H5.out rfl k ⟨own, true, 0⟩ (ownS_at i k hlt) rfl (by rw [ownS_len]; omega)).mono ?_
                rintro e w6 ⟨rfl, rfl⟩
                go_wp2
                go_roundg k1
                case measure => omega
                case rel => exact ⟨k + 1, by go_num, ⟨by have := HK.out; omega⟩, HD⟩
              | zero =>
                have hge : ¬ (k : Int) + 1 ≤ 1 + m % 20 := by omega
                clear hK
                go_wp2_with fail
                refine (lenS HD.out.y).mono ?_
                rintro e w6 ⟨rfl, rfl⟩
                have hn1 : (ownS i).n = 1 + m % 20 := hN
                rw [hn1]
                go_wp2_with fail
                refine (slotsS HD.out.y).mono ?_
                rintro e w6 ⟨rfl, rfl⟩
                rw [ownS_len, hN]
                go_wp2_with fail
                refine (lenS HD.out.x).mono ?_
                rintro e w6 ⟨rfl, rfl⟩
                rw [HN.out]
                go_wp2
                go_ret
                exact ⟨rfl, HD.out.bl⟩
end Go.Proofs.Ytckimhfbbfpddaa
