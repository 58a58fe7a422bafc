/- ArenaKeeps's walk. Conditions: a list of numbers of 16 bits. -/
import Derived.Test.YtckimhfbbfpddaaA3
import Derived.Test.YtckimhfbbfpddaaAI
import Derived.Test.YtckimhfbbfpddaaAJ
import Derived.Test.YtckimhfbbfpddaaAZ
import Derived.Test.YtckimhfbbfpddaaAT
import Derived.BigQuiet
namespace Go.Proofs.Ytckimhfbbfpddaa
open Go.RowKit Go.Proofs.YtckimhfbbfpddaaW.PrintWords Lb

theorem Rz.at {α : Type} {enc : α → Value} {h1 : ∀ x, (enc x).oneCell' = true} (z : α) {e : Nat} {w : World} {F : Nat → Prop} {A : Option Addr} {n c : Nat} {xs : List α} (h : Rz enc h1 e w F (.slice A n c) xs) (hn : xs.length = n) (k : Nat) (hk : k < n) :
    ∃ ad, A = some ad ∧ w.cell? (ad.add k) = some (enc (xs.getD k z)) := by
  obtain ⟨A', c', hv, _, hC⟩ := h.reads
  injection hv with hA _ _
  subst hA
  exact C_one z hC k (by omega)
theorem half_mod (x : Int) (N : Nat) (h0 : 0 ≤ x) (h1 : x ≤ 65535) : (wrap64 (IntKind.u16.wrap (x.tdiv 2))).tmod (N : Int) = x / 2 % (N : Int) := by
  have e1 : x.tdiv 2 = x / 2 := Int.tdiv_eq_ediv_of_nonneg h0
  have e2 : IntKind.u16.wrap (x / 2) = x / 2 := by
    simp [IntKind.wrap, IntKind.bits, IntKind.signed]
    omega
  have e3 : wrap64 (x / 2) = x / 2 := by
    unfold wrap64
    omega
  rw [e1, e2, e3, Int.tmod_eq_emod_of_nonneg (by omega)]
theorem rinfo21 : (Try.prog.info? 21).map (fun i => (i.zero, i.size, i.bytes)) = some (some (.int .i32 0), 1, 4) := by kernel_rfl
/-- The arena, the numbers and the things, far from one another. -/
structure Ke (w0 w : World) (Fa Fn Ft : Nat → Prop) (ba : Nat) (s : Ar Int) (ns ts : List Int) (vn vt : Value) : Prop where
  x : ArenaI w Fa ba s
  rn : Rz (Value.int .i32) (fun _ => rfl) 21 w Fn vn ns
  rt : Rz (Value.int .i64) (fun _ => rfl) 3 w Ft vt ts
  bl : Below w0.heap.size w0 w
  ga : ∀ k, Fa k → w0.heap.size ≤ k
  gn : ∀ k, Fn k → w0.heap.size ≤ k ∧ k < w.heap.size
  gt : ∀ k, Ft k → w0.heap.size ≤ k ∧ k < w.heap.size
  an : ∀ k, Fa k → ¬ Fn k
  ay : ∀ k, Fa k → ¬ Ft k
  ny : ∀ k, Fn k → ¬ Ft k
theorem ArenaI.lt {w : World} {F : Nat → Prop} {b : Nat} {s : Ar Int} (h : ArenaI w F b s) : ∀ k, F k → k < w.heap.size := by
  obtain ⟨A, c, h⟩ := h
  exact h.lt
section
variable {w0 w w1 : World} {Fa Fn Ft F' : Nat → Prop} {ba : Nat} {s s' : Ar Int} {ns ts xs : List Int} {vn vt v' : Value}
theorem Ke.stepx (h : Ke w0 w Fa Fn Ft ba s ns ts vn vt) (hA : ArenaI w1 F' ba s') (hF : ∀ k, F' k → Fa k ∨ w.heap.size ≤ k) (hc : Chg Fa w w1) : Ke w0 w1 F' Fn Ft ba s' ns ts vn vt :=
  ⟨hA, h.rn.chg hc (fun k a b => h.an k b a), h.rt.chg hc (fun k a b => h.ay k b a), h.bl.trans (hc.below h.bl.size h.ga), fun k hk => by rcases hF k hk with e | e; exact h.ga k e; exact Nat.le_trans h.bl.size e,
    fun k hk => ⟨(h.gn k hk).1, Nat.lt_of_lt_of_le (h.gn k hk).2 hc.size⟩, fun k hk => ⟨(h.gt k hk).1, Nat.lt_of_lt_of_le (h.gt k hk).2 hc.size⟩,
    fun k a b => by rcases hF k a with e | e; exact h.an k e b; have := (h.gn k b).2; omega, fun k a b => by rcases hF k a with e | e; exact h.ay k e b; have := (h.gt k b).2; omega, h.ny⟩
theorem Ke.stepn (h : Ke w0 w Fa Fn Ft ba s ns ts vn vt) (hR : Rz (Value.int .i32) (fun _ => rfl) 21 w1 F' v' xs) (hl : ∀ k, F' k → k < w1.heap.size) (hF : ∀ k, F' k → Fn k ∨ w.heap.size ≤ k) (hc : Chg Fn w w1) : Ke w0 w1 Fa F' Ft ba s xs ts v' vt :=
  ⟨h.x.keep hc h.an, hR, h.rt.chg hc (fun k a b => h.ny k b a), h.bl.trans (hc.below h.bl.size (fun k hk => (h.gn k hk).1)), h.ga,
    fun k hk => ⟨by rcases hF k hk with e | e; exact (h.gn k e).1; exact Nat.le_trans h.bl.size e, hl k hk⟩, fun k hk => ⟨(h.gt k hk).1, Nat.lt_of_lt_of_le (h.gt k hk).2 hc.size⟩,
    fun k a b => by rcases hF k b with e | e; exact h.an k a e; have := h.x.lt k a; omega, h.ay, fun k a b => by rcases hF k a with e | e; exact h.ny k e b; have := (h.gt k b).2; omega⟩
theorem Ke.stept (h : Ke w0 w Fa Fn Ft ba s ns ts vn vt) (hR : Rz (Value.int .i64) (fun _ => rfl) 3 w1 F' v' xs) (hl : ∀ k, F' k → k < w1.heap.size) (hF : ∀ k, F' k → Ft k ∨ w.heap.size ≤ k) (hc : Chg Ft w w1) : Ke w0 w1 Fa Fn F' ba s ns xs vn v' :=
  ⟨h.x.keep hc h.ay, h.rn.chg hc h.ny, hR, h.bl.trans (hc.below h.bl.size (fun k hk => (h.gt k hk).1)), h.ga,
    fun k hk => ⟨(h.gn k hk).1, Nat.lt_of_lt_of_le (h.gn k hk).2 hc.size⟩, fun k hk => ⟨by rcases hF k hk with e | e; exact (h.gt k e).1; exact Nat.le_trans h.bl.size e, hl k hk⟩,
    h.an, fun k a b => by rcases hF k b with e | e; exact h.ay k a e; have := h.x.lt k a; omega, fun k a b => by rcases hF k b with e | e; exact h.ny k a e; have := (h.gn k a).2; omega⟩
theorem Ke.drewN (h : Ke w0 w Fa Fn Ft ba s ns ts vn vt) (n : Nat) : Ke w0 (w.drewN n) Fa Fn Ft ba s ns ts vn vt :=
  have hc := (Chg.refl Non w).drewN n
  ⟨h.x.keep hc (fun _ _ e => e), h.rn.chg hc (fun _ _ e => e), h.rt.chg hc (fun _ _ e => e), h.bl.trans (hc.below h.bl.size (fun _ e => e.elim)), h.ga, h.gn, h.gt, h.an, h.ay, h.ny⟩
end

set_option maxHeartbeats 4000000 in
set_option maxRecDepth 100000 in
theorem keeps_walk (w : World) (A : Option Addr) (c : Nat) (l : List Int) (hC : (Kd.int .u16).C w A l.length l) (hU : ∀ x ∈ l, 0 ≤ x ∧ x ≤ 65535) :
    Calls Try.prog 6 #[.slice A l.length c] w fun e w' => e = .returned (.bool true) ∧ Below w.heap.size w w' := by
  have HC := Aside0.mk hC
  have HU := Aside0.mk hU
  clear hC hU
  obtain ⟨L, hL⟩ : ∃ L, l.length = L := ⟨_, rfl⟩
  rw [hL]
  rw [hL] at HC
  have HL := Aside0.mk hL
  clear hL
  rcases Nat.lt_or_ge 300 L with hbig | hsm
  · go_enter Try.func6, Try.ntmps6
    go_wp2_with fail
    refine (awake_yes _).mono ?_
    rintro e w1 ⟨rfl, hB⟩
    have HB := Aside0.mk hB
    clear hB
    go_wp2
    go_ret
    exact ⟨rfl, HB.out⟩
  · go_enter Try.func6, Try.ntmps6
    go_wp2_with fail
    refine (awake_yes _).mono ?_
    rintro e w1 ⟨rfl, hB⟩
    have HB := Aside0.mk hB
    clear hB
    go_wp2_with fail
    refine (newI w1).mono ?_
    rintro e w2 ⟨rfl, hw2⟩
    have HD0 : Aside0 (Ke w w2 (fun k => k = w1.heap.size) Non Non w1.heap.size ⟨[], 0, 0⟩ [] [] (.slice none 0 0) (.slice none 0 0)) := ⟨by
      subst hw2
      have hz := HB.out.size
      exact ⟨newI_at w1, Rz.nil _ _ _, Rz.nil _ _ _, below_alloc HB.out _, fun k hk => by omega, fun k hk => hk.elim, fun k hk => hk.elim, fun _ _ h => h, fun _ _ h => h, fun _ h => h.elim⟩⟩
    clear hw2
    obtain ⟨ba, hba⟩ : ∃ ba, w1.heap.size = ba := ⟨_, rfl⟩
    rw [hba] at HD0 ⊢
    clear hba
    go_wp2
    go_loopg [4, 5, 6, 7] L (fun gk v4 v5 v6 v7 wr => ∃ (i N M : Nat) (An At : Option Addr) (cn ct : Nat), v4 = .slice An N cn ∧ v5 = .slice At N ct ∧ v6 = .int .i64 (M : Int) ∧ v7 = .int .i64 (i : Int) ∧ Aside0 (i + gk = L) ∧
      Aside0 (∃ Fa Fn Ft s ns ts fs, Ke w wr Fa Fn Ft ba s ns ts (.slice An N cn) (.slice At N ct) ∧ Kp s ns ts fs ∧ ns.length = N ∧ s.slots.length = M ∧ N ≤ M ∧ M ≤ i))
    case atStart => exact ⟨0, 0, 0, none, none, 0, 0, rfl, rfl, rfl, rfl, ⟨by omega⟩, ⟨_, _, _, _, _, _, _, HD0.out, kp_new, rfl, rfl, Nat.le_refl _, Nat.le_refl _⟩⟩
    case round =>
      obtain ⟨i, N, M, An, At, cn, ct, rfl, rfl, rfl, rfl, HI, HX⟩ := hrel
      have hI := HI.out
      obtain ⟨Fa, Fn, Ft, s, ns, ts, fs, hD, hK, hN, hM, hNM, hMi⟩ := HX.out
      have HD := Aside0.mk hD
      have HK := Aside0.mk hK
      have HNl := Aside0.mk hN
      have HMl := Aside0.mk hM
      clear hD hK hN hM HX
      cases gk with
      | succ k1 =>
        have hlt : (i : Int) < (L : Int) := by omega
        have hi300 : i < 300 := by omega
        obtain ⟨ad, rfl, hca⟩ := C_one (0 : Int) (Kd.C_below HC.out HD.out.bl) i (by omega)
        have hx := HU.out (l.getD i 0) (by
          rw [List.getD_eq_getElem?_getD, List.getElem?_eq_getElem (by rw [HL.out]; omega)]
          exact List.getElem_mem _)
        generalize l.getD i 0 = x at *
        have hx0 := hx.1
        have hx1 := hx.2
        clear hI hx
        by_cases hev : x % 2 = 0
        · have hmod := hev
          obtain ⟨fs', hnot, hK', hmx⟩ := HK.out.take (i : Int)
          have hNl := HNl.out
          have hMl := HMl.out
          have hnn := HK.out.n
          have HTk := Aside0.mk (takeI HD.out.x HK.out.v (i : Int) (by omega) (by omega) (by omega))
          have HNot := Aside0.mk hnot
          have HK' := Aside0.mk hK'
          have htl := HK.out.tl
          have HNl' : Aside0 ((ns ++ [takeN s]).length = N + 1) := ⟨by simp [hNl]⟩
          have HMx : Aside0 ((takeP (i : Int) s).slots.length = max M (N + 1)) := ⟨by rw [hmx, hMl, hNl]⟩
          have HTl : Aside0 (ts.length = N) := ⟨by omega⟩
          generalize takeN s = tn at *
          clear hnot hK' hmx hNl hMl hnn htl
          go_wp2_with fail
          refine HTk.out.mono ?_
          rintro e w5 ⟨rfl, F5, hA, hF, hc⟩
          have HD5 := Aside0.mk (HD.out.stepx hA hF hc)
          clear hA hF hc HTk
          go_wp2
          go_loopg [9] N (fun gk v9 wr => ∃ k : Nat, v9 = .int .i64 (k : Int) ∧ Aside0 (k + gk = N) ∧ Aside0 (wr = w5))
          case atStart => exact ⟨0, rfl, ⟨by omega⟩, ⟨rfl⟩⟩
          case round =>
            obtain ⟨k, rfl, HJ, HW⟩ := hrel
            have hJ := HJ.out
            have hw := HW.out
            subst hw
            cases gk with
            | succ k2 =>
              have hkI : (k : Int) < (N : Int) := by omega
              have hNl := HNl.out
              obtain ⟨ad1, had1, hcell1⟩ := HD5.out.rn.at (0 : Int) hNl k (by omega)
              have hne : (ns.getD k 0 == tn) = false := beq_eq_false_iff_ne.2 (fun e => HNot.out (by
                rw [← e, List.getD_eq_getElem?_getD, List.getElem?_eq_getElem (by omega)]
                exact List.getElem_mem _))
              generalize ns.getD k 0 = y at *
              subst had1
              clear hJ hNl
              go_wp2
              go_roundg k2
              case measure => omega
              case rel => exact ⟨k + 1, by go_num, ⟨by have := HJ.out; omega⟩, ⟨rfl⟩⟩
            | zero =>
              have hkI : ¬ (k : Int) < (N : Int) := by omega
              clear hJ
              rcases Nat.lt_or_ge M (N + 1) with hmn | hmn
              · have hmI : (M : Int) < (N : Int) + 1 := by omega
                have HMl' : Aside0 ((takeP (i : Int) s).slots.length = N + 1) := ⟨by rw [HMx.out]; omega⟩
                go_wp2_with (first | ((with_reducible refine gate_builtin (b := .append) (xs := #[.tmp 46, .tmp 48]) rfl ?_); at_builtin; go_must (refine Rz_push (enc := Value.int .i32) (h1 := fun _ => rfl) (Fn) rfl (.tmp 46) (.tmp 48) 57 21 (.int .i32 0) 4 rfl Try.underlying57 rinfo21 rfl (by decide) (.slice An N cn) (ns) (tn) _ rfl rfl rfl HD5.out.rn (by have := HNl.out; have := HTl.out; omega) (by have := HNl.out; have := HTl.out; omega) ?_; intro v6 w6 F6 hR hlt6 hnew hCh; obtain ⟨A6, c6, hv, _, _⟩ := hR.reads; rw [HNl'.out] at hv; subst hv; have HD6 := Aside0.mk (HD5.out.stepn hR hlt6 hnew hCh); clear hR hlt6 hnew hCh)) | ((with_reducible refine gate_builtin (b := .append) (xs := #[.tmp 50, .tmp 52]) rfl ?_); at_builtin; go_must (refine Rz_push (enc := Value.int .i64) (h1 := fun _ => rfl) (Ft) rfl (.tmp 50) (.tmp 52) 38 3 (.int .i64 0) 8 rfl Try.underlying38 rinfo3 rfl (by decide) (.slice At N ct) (ts) ((i : Int)) _ rfl rfl rfl HD6.out.rt (by have := HNl.out; have := HTl.out; omega) (by have := HNl.out; have := HTl.out; omega) ?_; intro v7 w7 F7 hR hlt7 hnew hCh; obtain ⟨A7, c7, hv, _, _⟩ := hR.reads; rw [show (ts ++ [(i : Int)]).length = N + 1 by simp [HTl.out]] at hv; subst hv; have HD7 := Aside0.mk (HD6.out.stept hR hlt7 hnew hCh); clear hR hlt7 hnew hCh)))
                go_wp2
                go_loopg [11] (N + 1) (fun gk v11 wr => ∃ k : Nat, v11 = .int .i64 (k : Int) ∧ Aside0 (k + gk = N + 1) ∧ Aside0 (Ke w wr (F5) (F6) (F7) ba (takeP (i : Int) s) (ns ++ [tn]) (ts ++ [(i : Int)]) (.slice A6 (N + 1) c6) (.slice A7 (N + 1) c7)))
                case atStart => exact ⟨0, rfl, ⟨by omega⟩, HD7⟩
                case round =>
                  obtain ⟨k, rfl, HJ, HD3⟩ := hrel
                  have hJ := HJ.out
                  cases gk with
                  | succ k3 =>
                    have hkN : k < N + 1 := by omega
                    have hkI : (k : Int) < ((N + 1 : Nat) : Int) := by omega
                    have hNl := HNl'.out
                    have hMl := HMl'.out
                    have htl := HK'.out.tl
                    obtain ⟨i0, hi0⟩ : ∃ i0, (ns ++ [tn])[k]? = some i0 := ⟨_, List.getElem?_eq_getElem (by omega)⟩
                    obtain ⟨m, x, rfl, hx, ht, hq⟩ := HK'.out.tk k i0 hi0
                    have hmM : m < (N + 1) := by rw [← hMl]; exact (List.getElem?_eq_some_iff.1 hx).1
                    obtain ⟨ad1, had1, hcell1⟩ := HD3.out.rn.at (0 : Int) hNl k hkN
                    obtain ⟨ad2, had2, hcell2⟩ := HD3.out.rt.at (0 : Int) (htl.trans hNl) k hkN
                    rw [List.getD_eq_getElem?_getD, hi0] at hcell1
                    rw [List.getD_eq_getElem?_getD, hq] at hcell2
                    simp only [Option.getD_some] at hcell1 hcell2
                    obtain ⟨A5, c5, h5⟩ := HD3.out.x
                    obtain ⟨ga, rfl, _, _, hcell, _⟩ := F_elem h5.row m x hx
                    have hx0 : wr.cell? ⟨ga, m * 3, none⟩ = some (.int .i64 x.x) := hcell 0 _ rfl
                    have HAt := Aside0.mk (atI_yes h5 rfl m x hx ht (by omega))
                    have hmI : (m : Int) + 1 ≤ (((N + 1) : Nat) : Int) := by omega
                    have hm300 : m < 301 := by omega
                    have hmI3 : ¬ (((N + 1) : Nat) : Int) < (m : Int) + 1 := by omega
                    have hm0 : ¬ (m : Int) + 1 < 1 := by omega
                    have hm00 : ¬ (m : Int) < 0 := by omega
                    have hmI5 : ¬ N < m := by omega
                    push_cast at hmI hmI3
                    subst had1
                    subst had2
                    clear hJ hNl hMl htl hi0 hx ht hq hcell h5
                    go_wp2_with fail
                    refine HAt.out.mono ?_
                    rintro e w9 ⟨rfl, rfl⟩
                    go_wp2
                    have hwr : IntKind.i64.wrap ((m : Int) + 1) = (m : Int) + 1 := IntWalk.i64_in _ (by omega)
                    go_quiet (fail)
                    clear hwr
                    go_wp2
                    go_roundg k3
                    case measure => omega
                    case rel => exact ⟨k + 1, by go_num, ⟨by have := HJ.out; omega⟩, ⟨HD3.out.drewN _⟩⟩
                  | zero =>
                    have hkI : ¬ (k : Int) < ((N + 1 : Nat) : Int) := by omega
                    clear hJ
                    go_wp2_with fail
                    refine (lenI HD3.out.x).mono ?_
                    rintro e w9 ⟨rfl, rfl⟩
                    rw [show (takeP (i : Int) s).n = ((N + 1 : Nat) : Int) from HK'.out.n.trans (congrArg (fun n : Nat => (n : Int)) HNl'.out)]
                    go_wp2_with fail
                    refine (slotsI HD3.out.x).mono ?_
                    rintro e w9 ⟨rfl, rfl⟩
                    rw [HMl'.out]
                    go_wp2
                    go_roundg k1
                    case measure => omega
                    case rel => exact ⟨i + 1, N + 1, (N + 1), _, _, _, _, rfl, rfl, rfl, by go_num, ⟨by have := HI.out; omega⟩, ⟨_, _, _, _, _, _, _, HD3.out, HK'.out, HNl'.out, HMl'.out, by omega, by omega⟩⟩
              · have hmI : ¬ (M : Int) < (N : Int) + 1 := by omega
                have HMl' : Aside0 ((takeP (i : Int) s).slots.length = M) := ⟨by rw [HMx.out]; omega⟩
                go_wp2_with (first | ((with_reducible refine gate_builtin (b := .append) (xs := #[.tmp 46, .tmp 48]) rfl ?_); at_builtin; go_must (refine Rz_push (enc := Value.int .i32) (h1 := fun _ => rfl) (Fn) rfl (.tmp 46) (.tmp 48) 57 21 (.int .i32 0) 4 rfl Try.underlying57 rinfo21 rfl (by decide) (.slice An N cn) (ns) (tn) _ rfl rfl rfl HD5.out.rn (by have := HNl.out; have := HTl.out; omega) (by have := HNl.out; have := HTl.out; omega) ?_; intro v6 w6 F6 hR hlt6 hnew hCh; obtain ⟨A6, c6, hv, _, _⟩ := hR.reads; rw [HNl'.out] at hv; subst hv; have HD6 := Aside0.mk (HD5.out.stepn hR hlt6 hnew hCh); clear hR hlt6 hnew hCh)) | ((with_reducible refine gate_builtin (b := .append) (xs := #[.tmp 50, .tmp 52]) rfl ?_); at_builtin; go_must (refine Rz_push (enc := Value.int .i64) (h1 := fun _ => rfl) (Ft) rfl (.tmp 50) (.tmp 52) 38 3 (.int .i64 0) 8 rfl Try.underlying38 rinfo3 rfl (by decide) (.slice At N ct) (ts) ((i : Int)) _ rfl rfl rfl HD6.out.rt (by have := HNl.out; have := HTl.out; omega) (by have := HNl.out; have := HTl.out; omega) ?_; intro v7 w7 F7 hR hlt7 hnew hCh; obtain ⟨A7, c7, hv, _, _⟩ := hR.reads; rw [show (ts ++ [(i : Int)]).length = N + 1 by simp [HTl.out]] at hv; subst hv; have HD7 := Aside0.mk (HD6.out.stept hR hlt7 hnew hCh); clear hR hlt7 hnew hCh)))
                go_wp2
                go_loopg [11] (N + 1) (fun gk v11 wr => ∃ k : Nat, v11 = .int .i64 (k : Int) ∧ Aside0 (k + gk = N + 1) ∧ Aside0 (Ke w wr (F5) (F6) (F7) ba (takeP (i : Int) s) (ns ++ [tn]) (ts ++ [(i : Int)]) (.slice A6 (N + 1) c6) (.slice A7 (N + 1) c7)))
                case atStart => exact ⟨0, rfl, ⟨by omega⟩, HD7⟩
                case round =>
                  obtain ⟨k, rfl, HJ, HD3⟩ := hrel
                  have hJ := HJ.out
                  cases gk with
                  | succ k3 =>
                    have hkN : k < N + 1 := by omega
                    have hkI : (k : Int) < ((N + 1 : Nat) : Int) := by omega
                    have hNl := HNl'.out
                    have hMl := HMl'.out
                    have htl := HK'.out.tl
                    obtain ⟨i0, hi0⟩ : ∃ i0, (ns ++ [tn])[k]? = some i0 := ⟨_, List.getElem?_eq_getElem (by omega)⟩
                    obtain ⟨m, x, rfl, hx, ht, hq⟩ := HK'.out.tk k i0 hi0
                    have hmM : m < M := by rw [← hMl]; exact (List.getElem?_eq_some_iff.1 hx).1
                    obtain ⟨ad1, had1, hcell1⟩ := HD3.out.rn.at (0 : Int) hNl k hkN
                    obtain ⟨ad2, had2, hcell2⟩ := HD3.out.rt.at (0 : Int) (htl.trans hNl) k hkN
                    rw [List.getD_eq_getElem?_getD, hi0] at hcell1
                    rw [List.getD_eq_getElem?_getD, hq] at hcell2
                    simp only [Option.getD_some] at hcell1 hcell2
                    obtain ⟨A5, c5, h5⟩ := HD3.out.x
                    obtain ⟨ga, rfl, _, _, hcell, _⟩ := F_elem h5.row m x hx
                    have hx0 : wr.cell? ⟨ga, m * 3, none⟩ = some (.int .i64 x.x) := hcell 0 _ rfl
                    have HAt := Aside0.mk (atI_yes h5 rfl m x hx ht (by omega))
                    have hmI : (m : Int) + 1 ≤ ((M : Nat) : Int) := by omega
                    have hm300 : m < 301 := by omega
                    have hmI3 : ¬ ((M : Nat) : Int) < (m : Int) + 1 := by omega
                    have hm0 : ¬ (m : Int) + 1 < 1 := by omega
                    have hm00 : ¬ (m : Int) < 0 := by omega
                    have hmI5 : ¬ M ≤ m := by omega
                    push_cast at hmI hmI3
                    subst had1
                    subst had2
                    clear hJ hNl hMl htl hi0 hx ht hq hcell h5
                    go_wp2_with fail
                    refine HAt.out.mono ?_
                    rintro e w9 ⟨rfl, rfl⟩
                    go_wp2
                    have hwr : IntKind.i64.wrap ((m : Int) + 1) = (m : Int) + 1 := IntWalk.i64_in _ (by omega)
                    go_quiet (fail)
                    clear hwr
                    go_wp2
                    go_roundg k3
                    case measure => omega
                    case rel => exact ⟨k + 1, by go_num, ⟨by have := HJ.out; omega⟩, ⟨HD3.out.drewN _⟩⟩
                  | zero =>
                    have hkI : ¬ (k : Int) < ((N + 1 : Nat) : Int) := by omega
                    clear hJ
                    go_wp2_with fail
                    refine (lenI HD3.out.x).mono ?_
                    rintro e w9 ⟨rfl, rfl⟩
                    rw [show (takeP (i : Int) s).n = ((N + 1 : Nat) : Int) from HK'.out.n.trans (congrArg (fun n : Nat => (n : Int)) HNl'.out)]
                    go_wp2_with fail
                    refine (slotsI HD3.out.x).mono ?_
                    rintro e w9 ⟨rfl, rfl⟩
                    rw [HMl'.out]
                    go_wp2
                    go_roundg k1
                    case measure => omega
                    case rel => exact ⟨i + 1, N + 1, M, _, _, _, _, rfl, rfl, rfl, by go_num, ⟨by have := HI.out; omega⟩, ⟨_, _, _, _, _, _, _, HD3.out, HK'.out, HNl'.out, HMl'.out, by omega, by omega⟩⟩
        · have hmod : (x % 2 == 0) = false := beq_eq_false_iff_ne.2 hev
          rcases Nat.eq_zero_or_pos N with h0 | h0
          · subst h0
            go_wp2
            go_loopg [11] (0) (fun gk v11 wr => ∃ k : Nat, v11 = .int .i64 (k : Int) ∧ Aside0 (k + gk = 0) ∧ Aside0 (Ke w wr (Fa) (Fn) (Ft) ba (s) (ns) (ts) (.slice An (0) cn) (.slice At (0) ct)))
            case atStart => exact ⟨0, rfl, ⟨by omega⟩, HD⟩
            case round =>
              obtain ⟨k, rfl, HJ, HD3⟩ := hrel
              have hJ := HJ.out
              cases gk with
              | succ k3 =>
                exact absurd hJ (by omega)
              | zero =>
                have hkI : ¬ (k : Int) < ((0 : Nat) : Int) := by omega
                clear hJ
                go_wp2_with fail
                refine (lenI HD3.out.x).mono ?_
                rintro e w9 ⟨rfl, rfl⟩
                rw [show (s).n = ((0 : Nat) : Int) from HK.out.n.trans (congrArg (fun n : Nat => (n : Int)) HNl.out)]
                go_wp2_with fail
                refine (slotsI HD3.out.x).mono ?_
                rintro e w9 ⟨rfl, rfl⟩
                rw [HMl.out]
                go_wp2
                go_roundg k1
                case measure => omega
                case rel => exact ⟨i + 1, 0, M, _, _, _, _, rfl, rfl, rfl, by go_num, ⟨by have := HI.out; omega⟩, ⟨_, _, _, _, _, _, _, HD3.out, HK.out, HNl.out, HMl.out, by omega, by omega⟩⟩
          · obtain ⟨kk, hkk⟩ : ∃ kk : Nat, x / 2 % (N : Int) = (kk : Int) := ⟨(x / 2 % (N : Int)).toNat, by rw [Int.toNat_of_nonneg (Int.emod_nonneg _ (by omega))]⟩
            have hkN : kk < N := by
              have := Int.emod_lt_of_pos (x / 2) (show (0 : Int) < (N : Int) by omega)
              omega
            obtain ⟨m2, hm2⟩ : ∃ m2, N = kk + 1 + m2 := ⟨N - (kk + 1), by omega⟩
            obtain ⟨N1, hN1⟩ : ∃ N1, N = N1 + 1 := ⟨N - 1, by omega⟩
            have hNl := HNl.out
            have hMl := HMl.out
            have htl := HK.out.tl
            have hnn := HK.out.n
            obtain ⟨num, hnum⟩ : ∃ num, ns[kk]? = some num := ⟨_, List.getElem?_eq_getElem (by omega)⟩
            obtain ⟨hi1, hi2, hlen2, hK'⟩ := HK.out.drop hnum
            have hrg := HK.out.range (List.mem_of_getElem? hnum)
            obtain ⟨ad1, had1, hcell1⟩ := HD.out.rn.at (0 : Int) hNl kk hkN
            obtain ⟨ad2, had2, _⟩ := HD.out.rt.at (0 : Int) (htl.trans hNl) kk hkN
            subst had1
            subst had2
            rw [List.getD_eq_getElem?_getD, hnum] at hcell1
            simp only [Option.getD_some] at hcell1
            have HFr := Aside0.mk (freeI HD.out.x num (by omega) (by omega) (by omega) (by omega) (by omega))
            rw [hi1] at HFr
            have HI2 := Aside0.mk hi2
            have HGd : Aside0 (ns.getD kk 0 = num) := ⟨by rw [List.getD_eq_getElem?_getD, hnum]; rfl⟩
            have HK' := Aside0.mk hK'
            have HNl' : Aside0 ((ns.eraseIdx kk).length = N1) := ⟨by rw [List.length_eraseIdx_of_lt (by omega)]; omega⟩
            have HTl' : Aside0 ((ts.eraseIdx kk).length = N1) := ⟨by rw [List.length_eraseIdx_of_lt (by omega)]; omega⟩
            have HTl : Aside0 (ts.length = N) := ⟨by omega⟩
            have HMl' : Aside0 ((freeP 0 num s).slots.length = M) := ⟨by rw [hlen2, hMl]⟩
            have hNc : N ≤ cn := by
              obtain ⟨_, _, hv, hle, _⟩ := HD.out.rn.reads
              injection hv with _ hv1 hv2
              omega
            have hNt : N ≤ ct := by
              obtain ⟨_, _, hv, hle, _⟩ := HD.out.rt.reads
              injection hv with _ hv1 hv2
              omega
            obtain ⟨i21, hi21, hs21⟩ : ∃ i, Try.prog.info? 21 = some i ∧ i.size = 1 := by
              obtain ⟨i, hi, hi2⟩ := Option.map_eq_some_iff.1 rinfo21
              exact ⟨i, hi, by have h9 := congrArg (fun x => x.2.1) hi2; exact h9⟩
            obtain ⟨i3, hi3, hs3⟩ : ∃ i, Try.prog.info? 3 = some i ∧ i.size = 1 := by
              obtain ⟨i, hi, hi2⟩ := Option.map_eq_some_iff.1 rinfo3
              exact ⟨i, hi, by have h9 := congrArg (fun x => x.2.1) hi2; exact h9⟩
            have hcA := cut_both (P := Try.prog) 57 21 Try.underlying57 hi21 (some ad1) N cn kk (by omega) hNc
            have hcB := cut_from (P := Try.prog) 57 21 .i64 Try.underlying57 hi21 1 hs21 (some ad1) N cn ((kk : Int) + 1) (by omega) (by omega)
            have hcC := cut_both (P := Try.prog) 38 3 Try.underlying38 hi3 (some ad2) N ct kk (by omega) hNt
            have hcD := cut_from (P := Try.prog) 38 3 .i64 Try.underlying38 hi3 1 hs3 (some ad2) N ct ((kk : Int) + 1) (by omega) (by omega)
            rw [show ((kk : Int) + 1).toNat = kk + 1 by omega, show N - (kk + 1) = m2 by omega] at hcB hcD
            obtain ⟨cc1, hcc1⟩ : ∃ cc, cn - (kk + 1) = cc := ⟨_, rfl⟩
            obtain ⟨cc2, hcc2⟩ : ∃ cc, ct - (kk + 1) = cc := ⟨_, rfl⟩
            obtain ⟨B1, hB1⟩ : ∃ B, (if cn = kk + 1 then some ad1 else (some ad1).map (·.add ((kk + 1) * 1))) = B := ⟨_, rfl⟩
            obtain ⟨B2, hB2⟩ : ∃ B, (if ct = kk + 1 then some ad2 else (some ad2).map (·.add ((kk + 1) * 1))) = B := ⟨_, rfl⟩
            rw [hcc1, hB1] at hcB
            rw [hcc2, hB2] at hcD
            rw [Nat.mul_one] at hB1 hB2
            have HB1 := Aside0.mk hB1.symm
            have HB2 := Aside0.mk hB2.symm
            have HmN : Aside0 (ns.length = kk + 1 + m2) := ⟨by omega⟩
            have HmT : Aside0 (ts.length = kk + 1 + m2) := ⟨by omega⟩
            have HrN := Aside0.mk hrg
            have hkI : (kk : Int) < (N : Int) := by omega
            have hNz : ((N : Int) == 0) = false := beq_eq_false_iff_ne.2 (by omega)
            have hNp : (0 : Int) < (N : Int) := by omega
            have hN300 : N ≤ 300 := by omega
            have hx2 : 0 ≤ x / 2 := by omega
            have hMl2 : M ≤ 300 := by omega
            have hNN : N1 ≤ M := by omega
            clear hm2 hN1 hNl hMl htl hnn hnum hi1 hi2 hlen2 hK' hrg hB1 hB2 hcc1 hcc2 hi21 hi3 hs21 hs3
            have hdm := (half_mod x N hx0 hx1).trans hkk
            go_wp2_with fail
            refine HFr.out.mono ?_
            rintro e w5 ⟨rfl, hA, hc⟩
            have HD5 := Aside0.mk (HD.out.stepx hA (fun k hk => .inl hk) hc)
            have hcell5 : w5.cell? (ad1.add kk) = some (.int .i32 num) := by
              obtain ⟨ad5, had5, hq5⟩ := HD5.out.rn.at (0 : Int) HNl.out kk hkN
              injection had5 with had5
              subst had5
              rw [hq5, HGd.out]
            have HNo := Aside0.mk (freeI_no HD5.out.x num (by have := HrN.out.1; omega) (by have := HrN.out.2; have := HMl.out; omega) (by rw [HMl'.out]; omega) HI2.out)
            clear hA hc HFr hdm hkk
            go_wp2_with fail
            refine HNo.out.mono ?_
            rintro e w6 ⟨rfl, rfl⟩
            have HDd := Aside0.mk (HD5.out.drewN 1)
            go_wp2
            have hwr : IntKind.i64.wrap ((kk : Int) + 1) = (kk : Int) + 1 := IntWalk.i64_in _ (by omega)
            go_region_law (refine Rz_del (enc := Value.int .i32) (h1 := fun _ => rfl) Fn rfl (.tmp 88) (.tmp 92) 57 21 (.int .i32 0) 4 rfl Try.underlying57 rinfo21 rfl (some ad1) B1 cn cc1 ns kk m2 HmN.out (by rw [HNl.out]; exact HDd.out.rn) HB1.out (by simp [Act.eval, Act.put]) (by simp [Act.eval, Act.put]) (by rw [HNl.out]; have := hN300; have := Nat.mul_le_mul_right 4 this; exact Nat.le_trans this (by decide)) (by rw [HNl.out]; exact Nat.le_trans hN300 (by decide)) (fun k hk => (HDd.out.gn k hk).2) ?_; intro v6 w6 F6 hR hlt6 hnew hCh; obtain ⟨A6, c6, hv, _, _⟩ := hR.reads; rw [HNl'.out] at hv; subst hv; have HD6 := Aside0.mk (HDd.out.stepn hR hlt6 hnew hCh); clear hR hlt6 hnew hCh)
            all_goals
              clear hwr
              have HDe := Aside0.mk (HD6.out.drewN 1)
              go_wp2
              have hwr : IntKind.i64.wrap ((kk : Int) + 1) = (kk : Int) + 1 := IntWalk.i64_in _ (by omega)
              go_region_law (refine Rz_del (enc := Value.int .i64) (h1 := fun _ => rfl) Ft rfl (.tmp 97) (.tmp 101) 38 3 (.int .i64 0) 8 rfl Try.underlying38 rinfo3 rfl (some ad2) B2 ct cc2 ts kk m2 HmT.out (by rw [HTl.out]; exact HDe.out.rt) HB2.out (by simp [Act.eval, Act.put]) (by simp [Act.eval, Act.put]) (by rw [HTl.out]; have := hN300; have := Nat.mul_le_mul_right 8 this; exact Nat.le_trans this (by decide)) (by rw [HTl.out]; exact Nat.le_trans hN300 (by decide)) (fun k hk => (HDe.out.gt k hk).2) ?_; intro v7 w7 F7 hR hlt7 hnew hCh; obtain ⟨A7, c7, hv, _, _⟩ := hR.reads; rw [HTl'.out] at hv; subst hv; have HD7 := Aside0.mk (HDe.out.stept hR hlt7 hnew hCh); clear hR hlt7 hnew hCh)
              all_goals
                clear hwr hcA hcB hcC hcD
                go_wp2
                go_loopg [11] (N1) (fun gk v11 wr => ∃ k : Nat, v11 = .int .i64 (k : Int) ∧ Aside0 (k + gk = N1) ∧ Aside0 (Ke w wr (Fa) (F6) (F7) ba (freeP 0 num s) (ns.eraseIdx kk) (ts.eraseIdx kk) (.slice A6 (N1) c6) (.slice A7 (N1) c7)))
                case atStart => exact ⟨0, rfl, ⟨by omega⟩, HD7⟩
                case round =>
                  obtain ⟨k, rfl, HJ, HD3⟩ := hrel
                  have hJ := HJ.out
                  cases gk with
                  | succ k3 =>
                    have hkN : k < N1 := by omega
                    have hkI : (k : Int) < ((N1 : Nat) : Int) := by omega
                    have hNl := HNl'.out
                    have hMl := HMl'.out
                    have htl := HK'.out.tl
                    obtain ⟨i0, hi0⟩ : ∃ i0, (ns.eraseIdx kk)[k]? = some i0 := ⟨_, List.getElem?_eq_getElem (by omega)⟩
                    obtain ⟨m, x, rfl, hx, ht, hq⟩ := HK'.out.tk k i0 hi0
                    have hmM : m < M := by rw [← hMl]; exact (List.getElem?_eq_some_iff.1 hx).1
                    obtain ⟨ad1, had1, hcell1⟩ := HD3.out.rn.at (0 : Int) hNl k hkN
                    obtain ⟨ad2, had2, hcell2⟩ := HD3.out.rt.at (0 : Int) (htl.trans hNl) k hkN
                    rw [List.getD_eq_getElem?_getD, hi0] at hcell1
                    rw [List.getD_eq_getElem?_getD, hq] at hcell2
                    simp only [Option.getD_some] at hcell1 hcell2
                    obtain ⟨A5, c5, h5⟩ := HD3.out.x
                    obtain ⟨ga, rfl, _, _, hcell, _⟩ := F_elem h5.row m x hx
                    have hx0 : wr.cell? ⟨ga, m * 3, none⟩ = some (.int .i64 x.x) := hcell 0 _ rfl
                    have HAt := Aside0.mk (atI_yes h5 rfl m x hx ht (by omega))
                    have hmI : (m : Int) + 1 ≤ ((M : Nat) : Int) := by omega
                    have hm300 : m < 301 := by omega
                    have hmI3 : ¬ ((M : Nat) : Int) < (m : Int) + 1 := by omega
                    have hm0 : ¬ (m : Int) + 1 < 1 := by omega
                    have hm00 : ¬ (m : Int) < 0 := by omega
                    have hmI5 : ¬ M ≤ m := by omega
                    push_cast at hmI hmI3
                    subst had1
                    subst had2
                    clear hJ hNl hMl htl hi0 hx ht hq hcell h5
                    go_wp2_with fail
                    refine HAt.out.mono ?_
                    rintro e w9 ⟨rfl, rfl⟩
                    go_wp2
                    have hwr : IntKind.i64.wrap ((m : Int) + 1) = (m : Int) + 1 := IntWalk.i64_in _ (by omega)
                    go_quiet (fail)
                    clear hwr
                    go_wp2
                    go_roundg k3
                    case measure => omega
                    case rel => exact ⟨k + 1, by go_num, ⟨by have := HJ.out; omega⟩, ⟨HD3.out.drewN _⟩⟩
                  | zero =>
                    have hkI : ¬ (k : Int) < ((N1 : Nat) : Int) := by omega
                    clear hJ
                    go_wp2_with fail
                    refine (lenI HD3.out.x).mono ?_
                    rintro e w9 ⟨rfl, rfl⟩
                    rw [show (freeP 0 num s).n = ((N1 : Nat) : Int) from HK'.out.n.trans (congrArg (fun n : Nat => (n : Int)) HNl'.out)]
                    go_wp2_with fail
                    refine (slotsI HD3.out.x).mono ?_
                    rintro e w9 ⟨rfl, rfl⟩
                    rw [HMl'.out]
                    go_wp2
                    go_roundg k1
                    case measure => omega
                    case rel => exact ⟨i + 1, N1, M, _, _, _, _, rfl, rfl, rfl, by go_num, ⟨by have := HI.out; omega⟩, ⟨_, _, _, _, _, _, _, HD3.out, HK'.out, HNl'.out, HMl'.out, by omega, by omega⟩⟩
      | zero =>
        have hge : ¬ (i : Int) < (L : Int) := by omega
        clear hI
        go_wp2
        go_ret
        exact ⟨rfl, HD.out.bl⟩
end Go.Proofs.Ytckimhfbbfpddaa
