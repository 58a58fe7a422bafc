/- HeapBack's walk. Conditions: a list of entries, a number of 16 bits. -/
import Derived.Test.YtplimabdnpepjaaHF
namespace Go.Proofs.Ytplimabdnpepjaa
open Go.RowKit Go.Proofs.YtplimabdnpepjaaW.PrintWords Go.Proofs.YtplimabdnpepjaaW.PrintLast Go.Proofs.YtplimabdnpepjaaW.PrintMore Lb

/-- Two heaps, and a row that was taken out, apart. -/
structure Bk (w0 wr : World) (hb rb : Nat) (F G H : Nat → Prop) (S T R : List Entry) (A : Option Addr) (n c : Nat) : Prop where
  pq : Pq w0 wr hb rb F G S T
  row : kdE.R 27 wr 0 H (.slice A n c) R
  hF : ∀ k, H k → ¬ F k ∧ ¬ G k
  hge : ∀ k, H k → w0.heap.size ≤ k
  hlt : ∀ k, H k → k < wr.heap.size
section
variable {w0 wr w' : World} {hb rb n c : Nat} {F G H F' G' K : Nat → Prop} {S T R S' T' : List Entry} {A : Option Addr}
theorem Bk.next (h : Bk w0 wr hb rb F G H S T R A n c) (pq : Pq w0 w' hb rb F' G' S' T') (hC : Chg K wr w') (hK : ∀ k, H k → ¬ K k) (hF : ∀ k, F' k → F k ∨ wr.heap.size ≤ k) (hG : ∀ k, G' k → G k ∨ wr.heap.size ≤ k) : Bk w0 w' hb rb F' G' H S' T' R A n c :=
  ⟨pq, R_chg h.row hC hK, fun k a => ⟨fun e => by rcases hF k e with e | e; exact (h.hF k a).1 e; have := h.hlt k a; omega, fun e => by rcases hG k e with e | e; exact (h.hF k a).2 e; have := h.hlt k a; omega⟩, h.hge, fun k a => Nat.lt_of_lt_of_le (h.hlt k a) hC.size⟩
theorem Bk.below (h : Bk w0 wr hb rb F G H S T R A n c) (hb' : Below wr.heap.size wr w') : Bk w0 w' hb rb F G H S T R A n c :=
  h.next (h.pq.below hb') (Chg.of_below (F := Non) hb') (fun _ _ e => e) (fun _ e => .inl e) (fun _ e => .inl e)
theorem Bk.stepF (h : Bk w0 wr hb rb F G H S T R A n c) (ho : HO w' F' hb S') (hF : ∀ k, F' k → F k ∨ wr.heap.size ≤ k) (hC : Chg F wr w') : Bk w0 w' hb rb F' G H S' T R A n c :=
  h.next (h.pq.stepF ho hF hC) hC (fun k a => (h.hF k a).1) hF (fun _ e => .inl e)
theorem Bk.stepG (h : Bk w0 wr hb rb F G H S T R A n c) (ho : HO w' G' rb T') (hG : ∀ k, G' k → G k ∨ wr.heap.size ≤ k) (hC : Chg G wr w') : Bk w0 w' hb rb F G' H S T' R A n c :=
  h.next (h.pq.stepG ho hG hC) hC (fun k a => (h.hF k a).2) (fun _ e => .inl e) hG
theorem Bk.popF (h : Bk w0 wr hb rb F G H S T R A n c) (ho : HO w' F hb S') (hC : Chg F wr w') : Bk w0 w' hb rb F G H S' T R A n c := h.stepF ho (fun _ e => .inl e) hC
theorem Bk.popG (h : Bk w0 wr hb rb F G H S T R A n c) (ho : HO w' G rb T') (hC : Chg G wr w') : Bk w0 w' hb rb F G H S T' R A n c := h.stepG ho (fun _ e => .inl e) hC
/-- The row grown. -/
theorem Bk.row' (h : Bk w0 wr hb rb F G H S T R A n c) {H' : Nat → Prop} {R' : List Entry} {A' : Option Addr} {n' c' : Nat} (r : kdE.R 27 w' 0 H' (.slice A' n' c') R') (hC : Chg H wr w') (hH : ∀ k, H' k → H k ∨ wr.heap.size ≤ k) (hlt : ∀ k, H' k → k < w'.heap.size) : Bk w0 w' hb rb F G H' S T R' A' n' c' :=
  ⟨⟨h.pq.ho.keep hC (fun k a b => (h.hF k b).1 a), h.pq.rf.keep hC (fun k a b => (h.hF k b).2 a), h.pq.dis, h.pq.gF, h.pq.gG, h.pq.bel.trans (hC.below h.pq.bel.size h.hge)⟩, r,
   fun k a => by rcases hH k a with e | e; exact h.hF k e; exact ⟨fun e2 => by have := h.pq.ho.lt k e2; omega, fun e2 => by have := h.pq.rf.lt k e2; omega⟩,
   fun k a => by rcases hH k a with e | e; exact h.hge k e; have := h.pq.bel.size; omega, hlt⟩
end
theorem entAt_take {S : List Entry} {k j : Nat} (h : j < k) : entAt (S.take k) j = entAt S j := by
  unfold entAt
  simp [h]

set_option maxRecDepth 100000 in
set_option maxHeartbeats 8000000 in
theorem back_walk (w : World) (A : Option Addr) (c : Nat) (l : List Entry) (many : Int) (hC : kdE.C w A l.length l) (hm0 : 0 ≤ many) (hm1 : many ≤ 65535) : Calls Try.prog 8 #[.slice A l.length c, .int .u16 many] w fun e w' => e = .returned (.bool true) ∧ Below w.heap.size w w' := by
  have hmax : (l.length : Int) ≤ 9223372036854775807 := by have := hC.2.1; unfold maxLen at this; omega
  have HCl := Aside0.mk hC
  clear hC
  go_enter Try.func8, Try.ntmps8
  go_wp2_with fail
  refine (awake_yes _).mono ?_
  rintro e w1 ⟨rfl, hb⟩
  have HB1 := Aside0.mk hb
  clear hb
  by_cases h300 : (300 : Int) < (l.length : Int)
  · go_wp2
    go_ret
    exact ⟨rfl, HB1.out⟩
  · have h300' : (l.length : Int) ≤ 300 := by omega
    have HP0 := Aside0.mk (Pq.new HB1.out)
    clear h300
    go_wp2
    go_loopg [7] l.length (fun gk v wr => ∃ (i : Nat) (F G : Nat → Prop), v = .int .i64 (i : Int) ∧ Aside0 (i + gk = l.length) ∧ Aside0 (Pq w wr w1.heap.size (w1.heap.size + 1) F G (insAll (l.take i)) (insAll (l.take i))))
    case atStart => exact ⟨0, _, _, rfl, ⟨by omega⟩, HP0⟩
    case round =>
      obtain ⟨i, F, G, rfl, HI, HP⟩ := hrel
      have hI := HI.out
      cases gk with
      | succ k1 =>
        have hi : (i : Int) < (l.length : Int) := by omega
        have hin : i < l.length := by omega
        have hi3 : (i : Int) ≤ 300 := by omega
        have HS1 := Aside0.mk (insAll_take (l := l) (i := i) hin)
        have HL1 : Aside0 ((insAll (l.take i)).length ≤ 100000) := ⟨by rw [insAll_len, List.length_take]; omega⟩
        obtain ⟨g, o, rfl, a0, a1, a2⟩ := ent_at (Kd.C_below HCl.out HP.out.bel) i hin
        clear hI
        go_wp2_with fail
        refine (push_S HP.out.ho (entAt l i) HL1.out).mono ?_
        rintro e w2 ⟨rfl, F2, hA, hF, hC⟩
        have HP2 := Aside0.mk (HP.out.stepF hA hF hC)
        clear hA hF hC a0 a1 a2
        obtain ⟨g', o', e', b0, b1, b2⟩ := ent_at (Kd.C_below HCl.out HP2.out.bel) i hin
        injection e' with e'
        injection e' with e1' e2'
        subst e1' e2'
        go_wp2_with fail
        refine (push_S HP2.out.rf (entAt l i) HL1.out).mono ?_
        rintro e w3 ⟨rfl, G3, hA, hG, hC⟩
        have HP3 := Aside0.mk (HP2.out.stepG hA hG hC)
        clear hA hG hC b0 b1 b2
        go_wp2
        go_roundg k1
        case measure => omega
        case rel => exact ⟨i + 1, F2, G3, by go_num, ⟨by have := HI.out; omega⟩, ⟨by rw [HS1.out]; exact HP3.out⟩⟩
      | zero =>
        have hi : (l.length : Int) ≤ (i : Int) := by omega
        have hE1 : insAll (l.take i) = insAll l := by rw [List.take_of_length_le (by omega)]
        have hp := HP.out
        rw [hE1] at hp
        obtain ⟨S, hS⟩ : ∃ S, S = insAll l := ⟨_, rfl⟩
        rw [← hS] at hp
        have HSr := Aside0.mk hp.ho.srt
        have HSn : Aside0 (S.length = l.length) := ⟨by rw [hS, insAll_len]⟩
        obtain ⟨k, hk⟩ : ∃ k : Nat, many % ((l.length : Int) + 1) = (k : Int) := ⟨(many % ((l.length : Int) + 1)).toNat, by have := Int.emod_nonneg many (show (l.length : Int) + 1 ≠ 0 by omega); omega⟩
        have hkl : (k : Int) ≤ (l.length : Int) := by have := Int.emod_lt_of_pos many (show (0 : Int) < (l.length : Int) + 1 by omega); omega
        have HB : Aside0 (Bk w wr w1.heap.size (w1.heap.size + 1) F G (fun _ => False) (S.drop 0) S (S.take 0) none 0 0) := ⟨hp, Kd.R_nil _ _ _ _ _, fun _ e => e.elim, fun _ e => e.elim, fun _ e => e.elim⟩
        have hl1 : (0 : Int) < (l.length : Int) + 1 := by omega
        have hl2 : ((l.length : Int) + 1 == 0) = false := beq_eq_false_iff_ne.2 (by omega)
        have hid : decide (i < l.length) = false := decide_eq_false (by omega)
        clear hI hE1 hp hS HP
        go_wp2
        clear hid
        simp only [hk]
        have HK := Aside0.mk hkl
        clear hk hl1 hl2 hi
        go_loopg [9, 10] k (fun gk v9 v10 wr => ∃ (j n9 c9 : Nat) (A9 : Option Addr) (H : Nat → Prop), v10 = .int .i64 (j : Int) ∧ v9 = .slice A9 n9 c9 ∧ Aside0 (j + gk = k) ∧ Aside0 (n9 = j) ∧ Aside0 (Bk w wr w1.heap.size (w1.heap.size + 1) F G H (S.drop j) S (S.take j) A9 n9 c9))
        case atStart => exact ⟨0, 0, 0, none, _, rfl, rfl, ⟨by omega⟩, ⟨rfl⟩, HB⟩
        case round =>
          obtain ⟨j, n9, c9, A9, H, rfl, rfl, HJ, HN9, HBj⟩ := hrel
          have hJ := HJ.out
          cases gk with
          | succ k1 =>
            have hjk : (j : Int) < (k : Int) := by omega
            have hj3 : (j : Int) ≤ 300 := by omega
            obtain ⟨x, S', hS⟩ : ∃ x S', S.drop j = x :: S' := ⟨_, _, List.drop_eq_getElem_cons (by have := HSn.out; omega)⟩
            obtain ⟨hjS, hxj, hS'⟩ := entAt_drop hS
            have hb := HBj.out
            rw [hS] at hb
            have HB2 := Aside0.mk hb
            have HS' := Aside0.mk hS'
            have HX : Aside0 (S.take (j + 1) = S.take j ++ [x]) := ⟨by rw [List.take_succ_eq_append_getElem hjS, ← hxj, entAt_get hjS]⟩
            have hsl : S'.length ≤ 100000 := by rw [← hS', List.length_drop]; have := HSn.out; omega
            clear hJ hS hxj hS' hb hjS
            go_wp2_with fail
            refine (pop_S HB2.out.pq.ho hsl).mono ?_
            rintro e w3 ⟨rfl, hA, hC⟩
            have HB3 := Aside0.mk ((HB2.out.popF hA hC).below (below_alloc (Below.refl w3.heap.size w3) (.cells #[.int .i64 x.f, .int .i64 x.g, .int .i64 x.c] 27)))
            clear hA hC
            go_wp2_with ((with_reducible refine gate_builtin (b := .append) (xs := #[.tmp 64, .tmp 66]) rfl ?_); at_builtin; go_must (refine R_push kdE (W := w3.alloc (.cells #[.int .i64 x.f, .int .i64 x.g, .int .i64 x.c] 27)) 0 H rfl (.tmp 64) (.tmp 66) 23 27 (.agg #[.int .i64 0, .int .i64 0, .int .i64 0]) 24 rfl Try.underlying23 info27 rfl (by decide) (by omega) (.slice A9 n9 c9) (S.take j) x [.int .i64 x.f, .int .i64 x.g, .int .i64 x.c] (fun _ => False) rfl (by simp [Act.eval]) rfl (fun _ h => h.elim) HB3.out.row (Nat.zero_le _) (by rw [List.length_take]; omega) ?_; intro v1 w4 F4 hR hlt hnew hC; obtain ⟨A4, n4, c4, hv, HN4, _, _, HR4⟩ := R_outN hR; subst hv; have HX4 := Aside0.mk hC; have HW4 := Aside0.mk hnew; have HLt4 := Aside0.mk hlt; clear hR hlt hnew hC))
            go_roundg k1
            case measure => omega
            case rel =>
              refine ⟨j + 1, n4, c4, A4, F4, by go_num, rfl, ⟨by have := HJ.out; omega⟩, ⟨by rw [HN4.out, List.length_append, List.length_take]; have := HSn.out; simp; omega⟩, ⟨?_⟩⟩
              rw [HS'.out, HX.out]
              exact HB3.out.row' HR4.out HX4.out HW4.out HLt4.out
          | zero =>
            have hjk : j = k := by omega
            subst hjk
            have hkk : ¬ (j : Int) < (j : Int) := by omega
            have HBs : Aside0 (∃ T, Bk w wr w1.heap.size (w1.heap.size + 1) F G H T S (S.take j) A9 n9 c9 ∧ T.Perm (S.drop j ++ S.take 0)) := ⟨S.drop j, HBj.out, by simp⟩
            clear hJ HBj
            go_wp2
            go_loopg [13] j (fun gk v wr => ∃ (m : Nat) (F : Nat → Prop) (T : List Entry), v = .int .i64 (m : Int) ∧ Aside0 (m + gk = j) ∧ Aside0 (Bk w wr w1.heap.size (w1.heap.size + 1) F G H T S (S.take j) A9 n9 c9) ∧ Aside0 (T.Perm (S.drop j ++ S.take m)))
            case atStart =>
              obtain ⟨T, h1, h2⟩ := HBs.out
              exact ⟨0, F, T, rfl, ⟨by omega⟩, ⟨h1⟩, ⟨h2⟩⟩
            case round =>
              obtain ⟨m, F, T, rfl, HM, HBm, HTp⟩ := hrel
              have hM := HM.out
              cases gk with
              | succ k1 =>
                have hmk : (m : Int) < (j : Int) := by omega
                have hmn : (m : Int) < (n9 : Int) := by have := HN9.out; omega
                have hmS : m < S.length := by have := HSn.out; omega
                obtain ⟨g9, e9, _, _, hcell, _⟩ := F_elem HBm.out.row m (entAt S m) (by rw [← entAt_take (k := j) (by omega)]; exact entAt_some (by rw [List.length_take]; omega))
                subst e9
                have a0 : wr.cell? ⟨g9, m * 3, none⟩ = some (.int .i64 (entAt S m).f) := hcell 0 _ rfl
                have a1 : wr.cell? ⟨g9, m * 3 + 1, none⟩ = some (.int .i64 (entAt S m).g) := hcell 1 _ rfl
                have a2 : wr.cell? ⟨g9, m * 3 + 2, none⟩ = some (.int .i64 (entAt S m).c) := hcell 2 _ rfl
                have hTl : T.length ≤ 100000 := by rw [HTp.out.length_eq, List.length_append, List.length_drop, List.length_take]; have := HSn.out; omega
                have HX : Aside0 (S.take (m + 1) = S.take m ++ [entAt S m]) := ⟨by rw [List.take_succ_eq_append_getElem hmS, entAt_get hmS]⟩
                clear hM hcell
                go_wp2_with fail
                refine (push_S HBm.out.pq.ho (entAt S m) hTl).mono ?_
                rintro e w3 ⟨rfl, F3, hA, hF, hC⟩
                have HB3 := Aside0.mk (HBm.out.stepF hA hF hC)
                clear hA hF hC a0 a1 a2
                go_wp2
                go_roundg k1
                case measure => omega
                case rel =>
                  refine ⟨m + 1, F3, _, by go_num, ⟨by have := HM.out; omega⟩, HB3, ⟨?_⟩⟩
                  rw [HX.out, ← List.append_assoc]
                  exact (ins_perm _ _).trans ((HTp.out.cons _).trans (List.perm_append_comm (l₁ := [entAt S m]) (l₂ := S.drop j ++ S.take m)))
              | zero =>
                have hmk : m = j := by omega
                subst hmk
                have hmm : ¬ (m : Int) < (m : Int) := by omega
                have hT : T = S := srt_uniq HBm.out.pq.ho.srt HSr.out (HTp.out.trans ((List.perm_append_comm (l₁ := S.drop m) (l₂ := S.take m)).trans (by rw [List.take_append_drop])))
                subst hT
                have HB4 : Aside0 (Bk w wr w1.heap.size (w1.heap.size + 1) F G H (T.drop 0) (T.drop 0) (T.take m) A9 n9 c9) := HBm
                clear hM HBm HTp
                go_wp2
                go_loopg [14] l.length (fun gk v wr => ∃ (q : Nat), v = .int .i64 (q : Int) ∧ Aside0 (q + gk = l.length) ∧ Aside0 (Bk w wr w1.heap.size (w1.heap.size + 1) F G H (T.drop q) (T.drop q) (T.take m) A9 n9 c9))
                case atStart => exact ⟨0, rfl, ⟨by omega⟩, HB4⟩
                case round =>
                  obtain ⟨q, rfl, HQ, HBq⟩ := hrel
                  have hQ := HQ.out
                  cases gk with
                  | zero =>
                    have hq : (l.length : Int) ≤ (q : Int) := by omega
                    have hd : T.drop q = [] := List.drop_eq_nil_of_le (by have := HSn.out; omega)
                    have hb := HBq.out
                    rw [hd] at hb
                    have HE := Aside0.mk hb
                    clear hQ hd hb
                    go_wp2_with fail
                    refine (len_S HE.out.pq.ho).mono ?_
                    rintro e w3 ⟨rfl, rfl⟩
                    go_wp2_with fail
                    refine (len_S HE.out.pq.rf).mono ?_
                    rintro e w3 ⟨rfl, rfl⟩
                    go_wp2
                    go_ret
                    exact ⟨rfl, HE.out.pq.bel⟩
                  | succ k1 =>
                    have hq : (q : Int) < (l.length : Int) := by omega
                    have hq3 : (q : Int) ≤ 300 := by omega
                    have hq0 : (0 : Int) ≤ (q : Int) := by omega
                    obtain ⟨x, S', hS⟩ : ∃ x S', T.drop q = x :: S' := ⟨_, _, List.drop_eq_getElem_cons (by have := HSn.out; omega)⟩
                    obtain ⟨hqS, hxq, hS'⟩ := entAt_drop hS
                    have hb := HBq.out
                    rw [hS] at hb
                    have HB2 := Aside0.mk hb
                    have HS' := Aside0.mk hS'
                    have HXq := Aside0.mk hxq
                    have hsl : S'.length ≤ 100000 := by rw [← hS', List.length_drop]; have := HSn.out; omega
                    clear hQ hS hxq hS' hb
                    go_wp2_with fail
                    refine (pop_S HB2.out.pq.ho hsl).mono ?_
                    rintro e w3 ⟨rfl, hA, hC⟩
                    have HB3 := Aside0.mk ((HB2.out.popF hA hC).below (below_alloc (Below.refl w3.heap.size w3) (.cells #[.int .i64 x.f, .int .i64 x.g, .int .i64 x.c] 27)))
                    have HZ9 := Aside0.mk (blk_new w3 (.cells #[.int .i64 x.f, .int .i64 x.g, .int .i64 x.c] 27))
                    have HG9 : Aside0 (¬ G w3.heap.size) := ⟨fun e => by have := HB2.out.pq.rf.lt _ e; have := hC.size; omega⟩
                    clear hA hC
                    go_wp2_with fail
                    refine (pop_S HB3.out.pq.rf hsl).mono ?_
                    rintro e w4 ⟨rfl, hA, hC⟩
                    have HB5 := Aside0.mk ((HB3.out.popG hA hC).below (below_alloc (Below.refl w4.heap.size w4) (.cells #[.int .i64 x.f, .int .i64 x.g, .int .i64 x.c] 27)))
                    have hz9 := ((Chg.refl Non w4).alloc (.cells #[.int .i64 x.f, .int .i64 x.g, .int .i64 x.c] 27)).blk (hC.blk HZ9.out HG9.out) (fun e => e)
                    have hz11 := blk_new w4 (.cells #[.int .i64 x.f, .int .i64 x.g, .int .i64 x.c] 27)
                    have q0 : (w4.alloc (.cells #[.int .i64 x.f, .int .i64 x.g, .int .i64 x.c] 27)).cell? ⟨w3.heap.size, 0, none⟩ = some (.int .i64 x.f) := by rw [blk_cell hz9]; rfl
                    have q1 : (w4.alloc (.cells #[.int .i64 x.f, .int .i64 x.g, .int .i64 x.c] 27)).cell? ⟨w3.heap.size, 1, none⟩ = some (.int .i64 x.g) := by rw [blk_cell hz9]; rfl
                    have q2 : (w4.alloc (.cells #[.int .i64 x.f, .int .i64 x.g, .int .i64 x.c] 27)).cell? ⟨w3.heap.size, 2, none⟩ = some (.int .i64 x.c) := by rw [blk_cell hz9]; rfl
                    have r0 : (w4.alloc (.cells #[.int .i64 x.f, .int .i64 x.g, .int .i64 x.c] 27)).cell? ⟨w4.heap.size, 0, none⟩ = some (.int .i64 x.f) := by rw [blk_cell hz11]; rfl
                    have r1 : (w4.alloc (.cells #[.int .i64 x.f, .int .i64 x.g, .int .i64 x.c] 27)).cell? ⟨w4.heap.size, 1, none⟩ = some (.int .i64 x.g) := by rw [blk_cell hz11]; rfl
                    have r2 : (w4.alloc (.cells #[.int .i64 x.f, .int .i64 x.g, .int .i64 x.c] 27)).cell? ⟨w4.heap.size, 2, none⟩ = some (.int .i64 x.c) := by rw [blk_cell hz11]; rfl
                    clear hA hC hz9 hz11
                    by_cases hqm : q < m
                    · have hqm1 : (q : Int) < (m : Int) := by omega
                      have hqn : (q : Int) < (n9 : Int) := by have := HN9.out; omega
                      obtain ⟨g9, e9, _, _, hcell, _⟩ := F_elem HB5.out.row q x (by rw [← HXq.out, ← entAt_take (k := m) hqm]; exact entAt_some (by rw [List.length_take]; omega))
                      subst e9
                      have a0 : (w4.alloc (.cells #[.int .i64 x.f, .int .i64 x.g, .int .i64 x.c] 27)).cell? ⟨g9, q * 3, none⟩ = some (.int .i64 x.f) := hcell 0 _ rfl
                      have a1 : (w4.alloc (.cells #[.int .i64 x.f, .int .i64 x.g, .int .i64 x.c] 27)).cell? ⟨g9, q * 3 + 1, none⟩ = some (.int .i64 x.g) := hcell 1 _ rfl
                      have a2 : (w4.alloc (.cells #[.int .i64 x.f, .int .i64 x.g, .int .i64 x.c] 27)).cell? ⟨g9, q * 3 + 2, none⟩ = some (.int .i64 x.c) := hcell 2 _ rfl
                      clear hcell
                      go_wp2_with fail
                      go_quiet (fail)
                      go_wp2
                      go_roundg k1
                      case measure => omega
                      case rel => exact ⟨q + 1, by go_num, ⟨by have := HQ.out; omega⟩, ⟨by rw [HS'.out]; exact HB5.out.below (pw_below_drewN (Below.refl _ _) _)⟩⟩
                    · have hqm1 : (m : Int) ≤ (q : Int) := by omega
                      have hqm2 : decide ((q : Int) < (m : Int)) = false := decide_eq_false (by omega)
                      have hqm3 : decide (q < m) = false := decide_eq_false hqm
                      clear hqm
                      go_wp2_with fail
                      go_quiet (fail)
                      go_wp2
                      go_roundg k1
                      case measure => omega
                      case rel => exact ⟨q + 1, by go_num, ⟨by have := HQ.out; omega⟩, ⟨by rw [HS'.out]; exact HB5.out.below (pw_below_drewN (Below.refl _ _) _)⟩⟩
end Go.Proofs.Ytplimabdnpepjaa
