/- HeapPlays's walk. Conditions: a list of acts. -/
import Derived.Test.YtplimabdnpepjaaHD
import Derived.Deep.DeepCutAuto
import Derived.Deep.RegionLaw
namespace Go.Proofs.Ytplimabdnpepjaa
open Go.RowKit Go.Proofs.YtplimabdnpepjaaW.PrintWords Go.Proofs.YtplimabdnpepjaaW.PrintLast Go.Proofs.YtplimabdnpepjaaW.PrintMore Lb

theorem HO.drewN {w : World} {F : Nat → Prop} {b : Nat} {S : List Entry} (h : HO w F b S) (n : Nat) : HO (w.drewN n) F b S := h.keep ((Chg.refl Non w).drewN n) (fun _ _ e => e)
/-- What the switch leaves. -/
def Sw (w wc : World) (b1 b2 T6 T7 n : Nat) (v8 v9 : Value) : Prop := ∃ (F' G' : Nat → Prop) (S' L' : List Entry) (x : Entry) (ok : Bool), v8 = .bool ok ∧ v9 = .bool ok ∧ Pl w wc b1 b2 F' G' S' L' ∧ L'.Perm S' ∧ S'.length ≤ n ∧ wc.heap[T6]? = some (.cells #[.int .i64 x.f, .int .i64 x.g, .int .i64 x.c] 27 (0, 0)) ∧ wc.heap[T7]? = some (.cells #[.int .i64 x.f, .int .i64 x.g, .int .i64 x.c] 38 (0, 0))
set_option maxRecDepth 100000 in
set_option maxHeartbeats 8000000 in
theorem plays_walk (w : World) (A : Option Addr) (c : Nat) (l : List Act) (hC : kdAct.C w A l.length l) : Calls Try.prog 4 #[.slice A l.length c] w fun e w' => e = .returned (.bool true) ∧ Below w.heap.size w w' := by
  have hmax : (l.length : Int) ≤ 9223372036854775807 := by have := hC.2.1; unfold maxLen at this; omega
  have HCl := Aside0.mk hC
  clear hC
  go_enter Try.func4, Try.ntmps4
  go_wp2_with fail
  refine (awake_yes _).mono ?_
  rintro e w1 ⟨rfl, hb⟩
  have HB1 := Aside0.mk hb
  clear hb
  by_cases h500 : (500 : Int) < (l.length : Int)
  · go_wp2
    go_ret
    exact ⟨rfl, HB1.out⟩
  · have h500' : (l.length : Int) ≤ 500 := by omega
    have HP0 : Aside0 (Pl w ((w1.alloc (.cells #[.slice none 0 0] 25)).alloc (.cells #[.slice none 0 0] 37)) w1.heap.size (w1.heap.size + 1) (fun k => k = w1.heap.size) (fun k => k = w1.heap.size + 1) [] []) := ⟨by
      have n1 : (w1.alloc (.cells #[.slice none 0 0] 25)).heap.size = w1.heap.size + 1 := by simp
      have r := Rf.new (w1.alloc (.cells #[.slice none 0 0] 25))
      rw [n1] at r
      have hs := HB1.out.size
      exact ⟨(HO.new w1).keep ((Chg.refl Non _).alloc _) (fun _ _ e => e), r, fun k e e2 => by omega, fun k e => by omega, fun k e => by omega, below_alloc (below_alloc HB1.out _) _⟩⟩
    clear h500
    go_wp2
    go_loopg [5] l.length (fun gk v wr => ∃ (i : Nat) (F G : Nat → Prop) (S L : List Entry), v = .int .i64 (i : Int) ∧ Aside0 (i + gk = l.length) ∧ Aside0 (Pl w wr w1.heap.size (w1.heap.size + 1) F G S L) ∧ Aside0 (L.Perm S) ∧ Aside0 (S.length ≤ i))
    case atStart => exact ⟨0, _, _, [], [], rfl, ⟨by omega⟩, HP0, ⟨List.Perm.refl _⟩, ⟨Nat.le_refl _⟩⟩
    case round =>
      obtain ⟨i, F, G, S, L, rfl, HI, HP, HPm, HSl⟩ := hrel
      have hI := HI.out
      cases gk with
      | zero =>
        have hi : (l.length : Int) ≤ (i : Int) := by omega
        clear hI
        go_wp2
        go_ret
        exact ⟨rfl, HP.out.bel⟩
      | succ k1 =>
        have hi : (i : Int) < (l.length : Int) := by omega
        have hin : i < l.length := by omega
        have hi5 : (i : Int) ≤ 500 := by omega
        have HP3 := Aside0.mk ((HP.out.below (below_alloc (Below.refl _ _) (.cells #[.int .i64 0, .int .i64 0, .int .i64 0] 27))).below (below_alloc (Below.refl _ _) (.cells #[.int .i64 0, .int .i64 0, .int .i64 0] 38)))
        have hn6 := HP.out.n1 wr.heap.size (Nat.le_refl _)
        have hn7 := HP.out.n1 (wr.heap.size + 1) (by omega)
        have HN6 := Aside0.mk hn6
        have HN7 := Aside0.mk hn7
        have HZ6 := Aside0.mk (((Chg.refl Non _).alloc (.cells #[.int .i64 0, .int .i64 0, .int .i64 0] 38)).blk (blk_new wr (.cells #[.int .i64 0, .int .i64 0, .int .i64 0] 27)) (fun e => e))
        have HZ7 : Aside0 (((wr.alloc (.cells #[.int .i64 0, .int .i64 0, .int .i64 0] 27)).alloc (.cells #[.int .i64 0, .int .i64 0, .int .i64 0] 38)).heap[wr.heap.size + 1]? = some (.cells #[.int .i64 0, .int .i64 0, .int .i64 0] 38 (0, 0))) := ⟨by
          have := blk_new (wr.alloc (.cells #[.int .i64 0, .int .i64 0, .int .i64 0] 27)) (.cells #[.int .i64 0, .int .i64 0, .int .i64 0] 38)
          have n1 : (wr.alloc (.cells #[.int .i64 0, .int .i64 0, .int .i64 0] 27)).heap.size = wr.heap.size + 1 := by simp
          rwa [n1] at this⟩
        have HW3 := Aside0.mk (below_alloc (below_alloc (Below.refl wr.heap.size wr) (.cells #[.int .i64 0, .int .i64 0, .int .i64 0] 27)) (.cells #[.int .i64 0, .int .i64 0, .int .i64 0] 38))
        clear hI hn6 hn7
        go_upto_region 13 with fail
        generalize (wr.alloc (.cells #[.int .i64 0, .int .i64 0, .int .i64 0] 27)).alloc (.cells #[.int .i64 0, .int .i64 0, .int .i64 0] 38) = w3 at HP3 HZ6 HZ7 HW3 ⊢
        obtain ⟨g, o, rfl, a0, a1, a2, a3⟩ := act_at (Kd.C_below HCl.out HP3.out.bel) i hin
        generalize hact : l.getD i default = act at a0 a1 a2 a3
        have HAct := Aside0.mk hact
        have hn67 : ¬ wr.heap.size = wr.heap.size + 1 := by omega
        have hn76 : ¬ wr.heap.size + 1 = wr.heap.size := by omega
        clear hact
        go_upto_block 2 with fail
        go_cut [8, 9] from 19 to 92 (fun v8 v9 wc => Sw w wc w1.heap.size (w1.heap.size + 1) wr.heap.size (wr.heap.size + 1) (i + 1) v8 v9)
        case rest =>
          obtain ⟨F2, G2, S2, L2, x, ok, rfl, rfl, hp, hpm, hsl, z6, z7⟩ := hcut
          obtain ⟨A7, c7, hr⟩ := hp.rf
          have h07 := hr.c0
          have p0 : wc.cell? ⟨wr.heap.size, 0, none⟩ = some (.int .i64 x.f) := by rw [blk_cell z6]; rfl
          have p1 : wc.cell? ⟨wr.heap.size, 1, none⟩ = some (.int .i64 x.g) := by rw [blk_cell z6]; rfl
          have p2 : wc.cell? ⟨wr.heap.size, 2, none⟩ = some (.int .i64 x.c) := by rw [blk_cell z6]; rfl
          have q0 : wc.cell? ⟨wr.heap.size + 1, 0, none⟩ = some (.int .i64 x.f) := by rw [blk_cell z7]; rfl
          have q1 : wc.cell? ⟨wr.heap.size + 1, 1, none⟩ = some (.int .i64 x.g) := by rw [blk_cell z7]; rfl
          have q2 : wc.cell? ⟨wr.heap.size + 1, 2, none⟩ = some (.int .i64 x.c) := by rw [blk_cell z7]; rfl
          have HP7 := Aside0.mk hp
          have HPn := Aside0.mk hpm
          have HSn := Aside0.mk hsl
          have HLen := Aside0.mk (show (S2.length : Int) = (L2.length : Int) by rw [hpm.length_eq])
          have hl7 : (0 : Int) ≤ (L2.length : Int) := by omega
          clear hr z6 z7 hp hpm hsl a0 a1 a2 a3
          go_wp2_with fail
          go_quiet ((go_at_call 15; refine Calls.quiet_of_same (v := .int .i64 (L2.length : Int)) ((len_S (HP7.out.ho.drewN _)).mono fun e w' ⟨he, hw⟩ => ⟨he.trans (ret_int HLen.out), hw.symm⟩)))
          go_wp2
          go_roundg k1
          case measure => omega
          case rel => exact ⟨i + 1, F2, G2, S2, L2, by go_num, ⟨by have := HI.out; omega⟩, ⟨HP7.out.below (pw_below_drewN (Below.refl _ _) _)⟩, HPn, HSn⟩
        case first =>
         by_cases hd0 : act.d = 0
         · have hd0b : (act.d == 0) = true := beq_iff_eq.2 hd0
           clear hd0
           have hSl : S.length ≤ 100000 := by have := HSl.out; omega
           go_wp2_with fail
           refine (push_S HP3.out.ho act.x hSl).mono ?_
           rintro e w4 ⟨rfl, F4, hA, hF, hC⟩
           have HP4 := Aside0.mk (HP3.out.stepF hA hF hC)
           have HY6 := Aside0.mk (hC.blk HZ6.out (fun e => HN6.out.1 e))
           have HY7 := Aside0.mk (hC.blk HZ7.out (fun e => HN7.out.1 e))
           obtain ⟨g', o', e', b0, b1, b2, b3⟩ := act_at (Kd.C_below HCl.out HP4.out.bel) i hin
           injection e' with e'
           injection e' with e1' e2'
           subst e1' e2'
           rw [HAct.out] at b0 b1 b2 b3
           obtain ⟨A4, c4, hr⟩ := HP4.out.rf
           have h04 := hr.c0
           have hRb := hr.lt _ hr.hb
           have HR4 := Aside0.mk hr
           have h0a : (w4.alloc (.cells #[.int .i64 act.x.f, .int .i64 act.x.g, .int .i64 act.x.c] 38)).cell? ⟨w1.heap.size + 1, 0, none⟩ = some (.slice A4 L.length c4) := (hr.keep ((Chg.refl Non _).alloc _) (fun _ _ e => e)).c0
           have HR := Aside0.mk (Kd.R_drew (Kd.R_types hr.row hr.blk (by simp [flatK])))
           have HM := Aside0.mk (show kdE.M w4.drew 0 (fun _ => False) act.x [.int .i64 act.x.f, .int .i64 act.x.g, .int .i64 act.x.c] from rfl)
           have hLl : L.length ≤ 1000 := by rw [HPm.out.length_eq]; have := HSl.out; omega
           clear hA hF hC a0 a1 a2 a3 hr b0
           go_wp2_with fail
           go_region_law (refine push_step (W := w4.drew) kdE 0 (fun k => G k ∧ k ≠ w1.heap.size + 1) rfl (.tmp 53) (.tmp 59) 35 38 (.agg #[.int .i64 0, .int .i64 0, .int .i64 0]) 24 rfl Try.underlying35 info38 rfl (by decide) (by omega) (.slice A4 L.length c4) L act.x [.int .i64 act.x.f, .int .i64 act.x.g, .int .i64 act.x.c] (fun _ => False) w4.heap.size rfl (by simp [Act.eval]) (by simp [Act.eval]) HM.out (fun _ h => h.elim) HR.out (Nat.zero_le _) (by omega) ?_; intro v1 w8 F1 hR hlt1 hnew hCh; have hblk := hCh.blk (HR4.out.keep ((Chg.refl Non _).drew) (fun _ _ e => e)).blk (fun e => e.2 rfl); have hk0 : w8.cell? ⟨w1.heap.size + 1, 0, none⟩ = some (.slice A4 L.length c4) := (by rw [blk_cell hblk]; rfl); have hf0 := blk_frozen hblk 0; obtain ⟨A8, n8, c8, hv, HN8, _, _, HR8⟩ := R_outN hR; subst hv; have HB8 := Aside0.mk hblk; have HL8 := Aside0.mk hlt1; have HW8 := Aside0.mk hnew; have HC8 := Aside0.mk hCh; clear hR hlt1 hnew hCh hblk)
           all_goals
             go_wp2_with fail
             go_meet
             have hCw : Chg G w4 w8 := (Chg.refl G w4).drew.trans HC8.out (fun i h => .inl h.1)
             have hCf : Chg G w4 (w8.setCell ⟨w1.heap.size + 1, 0, none⟩ (.slice A8 n8 c8)) := hCw.set (p := ⟨w1.heap.size + 1, 0, none⟩) (.inl HR4.out.hb) _
             have hnewk : ∀ k, F1 k ∨ k = w1.heap.size + 1 → G k ∨ w4.heap.size ≤ k := fun k hk => hk.elim (fun e => (HW8.out k e).elim (fun e => .inl e.1) (fun e => .inr e)) (fun e => .inl (by rw [e]; exact HR4.out.hb))
             refine ⟨F4, fun k => F1 k ∨ k = w1.heap.size + 1, ins act.x S, L ++ [act.x], ⟨0, 0, 0⟩, _, rfl, rfl, HP4.out.stepG ⟨A8, c8, fun k hk => ?_, .inr rfl, ?_, ?_⟩ hnewk hCf, (List.perm_append_comm (l₁ := L) (l₂ := [act.x])).trans ((HPm.out.cons _).trans (ins_perm _ _).symm), by rw [(ins_perm _ _).length_eq]; have := HSl.out; simp; omega, hCf.blk HY6.out (fun e => HN6.out.2.1 e), hCf.blk HY7.out (fun e => HN7.out.2.1 e)⟩
             · simp only [World.setCell, Array.size_modify]
               rcases hk with hk | hk
               · exact HL8.out k hk
               · rw [hk]; exact blk_lt HB8.out
             · rw [← HN8.out]
               exact blk_set HB8.out 0 (.slice A8 n8 c8)
             · rw [← HN8.out]
               exact Kd.R_mono (Kd.R_set HR8.out HB8.out (by simp [flatK]) 0 _) (fun k hk => .inl hk)
         · have hd0b : (act.d == 0) = false := beq_eq_false_iff_ne.2 hd0
           by_cases hd1 : act.d = 1
           · have hd1b : (act.d == 1) = true := beq_iff_eq.2 hd1
             clear hd0 hd1
             clear a1 a2 a3
             cases S with
             | nil =>
               have hL : L = [] := List.eq_nil_of_length_eq_zero (by rw [HPm.out.length_eq]; rfl)
               subst hL
               go_wp2_with fail
               refine (pop_S0 HP3.out.ho).mono ?_
               rintro e w4 ⟨rfl, hb⟩
               have HP4 := Aside0.mk (HP3.out.below hb)
               have HY6 := Aside0.mk ((Chg.of_below (F := Non) hb).blk HZ6.out (fun e => e))
               have HY7 := Aside0.mk ((Chg.of_below (F := Non) hb).blk HZ7.out (fun e => e))
               clear hb a0
               have zq := HY6.out
               have u0 : w4.cell? ⟨wr.heap.size, 0, none⟩ = some (.int .i64 0) := by rw [blk_cell zq]; rfl
               have u1 : w4.cell? ⟨wr.heap.size, 1, none⟩ = some (.int .i64 0) := by rw [blk_cell zq]; rfl
               have u2 : w4.cell? ⟨wr.heap.size, 2, none⟩ = some (.int .i64 0) := by rw [blk_cell zq]; rfl
               have uf0 := blk_frozen zq 0
               have uf1 := blk_frozen zq 1
               have uf2 := blk_frozen zq 2
               clear zq
               go_wp2_with fail
               clear u0 u1 u2 uf0 uf1 uf2
               have hch : Chg (fun k => k = wr.heap.size) w4 (((w4.setCell ⟨wr.heap.size, 0, none⟩ (.int .i64 0)).setCell ⟨wr.heap.size, 1, none⟩ (.int .i64 0)).setCell ⟨wr.heap.size, 2, none⟩ (.int .i64 0)) := chg_three (K := fun k => k = wr.heap.size) w4 (wr.heap.size) rfl _ _ _
               have HP5 := Aside0.mk (HP4.out.other hch (fun k e => by subst e; exact HN6.out))
               have HX6 := Aside0.mk (blk_three HY6.out (.int .i64 0) (.int .i64 0) (.int .i64 0))
               have HX7 := Aside0.mk (hch.blk HY7.out (fun e => by omega))
               clear hch
               generalize (((w4.setCell ⟨wr.heap.size, 0, none⟩ (.int .i64 0)).setCell ⟨wr.heap.size, 1, none⟩ (.int .i64 0)).setCell ⟨wr.heap.size, 2, none⟩ (.int .i64 0)) = w5 at HP5 HX6 HX7 ⊢
               refine (rpop_none HP5.out.rf).mono ?_
               rintro e w6 ⟨rfl, hb⟩
               have HP6 := Aside0.mk (HP5.out.below hb)
               have HV6 := Aside0.mk ((Chg.of_below (F := Non) hb).blk HX6.out (fun e => e))
               have HV7 := Aside0.mk ((Chg.of_below (F := Non) hb).blk HX7.out (fun e => e))
               clear hb
               have zq := HV7.out
               have u0 : w6.cell? ⟨wr.heap.size + 1, 0, none⟩ = some (.int .i64 0) := by rw [blk_cell zq]; rfl
               have u1 : w6.cell? ⟨wr.heap.size + 1, 1, none⟩ = some (.int .i64 0) := by rw [blk_cell zq]; rfl
               have u2 : w6.cell? ⟨wr.heap.size + 1, 2, none⟩ = some (.int .i64 0) := by rw [blk_cell zq]; rfl
               have uf0 := blk_frozen zq 0
               have uf1 := blk_frozen zq 1
               have uf2 := blk_frozen zq 2
               clear zq
               go_wp2_with fail
               clear u0 u1 u2 uf0 uf1 uf2
               have hch : Chg (fun k => k = wr.heap.size + 1) w6 (((w6.setCell ⟨wr.heap.size + 1, 0, none⟩ (.int .i64 0)).setCell ⟨wr.heap.size + 1, 1, none⟩ (.int .i64 0)).setCell ⟨wr.heap.size + 1, 2, none⟩ (.int .i64 0)) := chg_three (K := fun k => k = wr.heap.size + 1) w6 (wr.heap.size + 1) rfl _ _ _
               have HP7 := Aside0.mk (HP6.out.other hch (fun k e => by subst e; exact HN7.out))
               have HU7 := Aside0.mk (blk_three HV7.out (.int .i64 0) (.int .i64 0) (.int .i64 0))
               have HU6 := Aside0.mk (hch.blk HV6.out (fun e => by omega))
               clear hch
               generalize (((w6.setCell ⟨wr.heap.size + 1, 0, none⟩ (.int .i64 0)).setCell ⟨wr.heap.size + 1, 1, none⟩ (.int .i64 0)).setCell ⟨wr.heap.size + 1, 2, none⟩ (.int .i64 0)) = w7 at HP7 HU7 HU6 ⊢
               go_wp2_with fail
               go_meet
               exact ⟨F, G, ([] : List Entry), ([] : List Entry), ⟨0, 0, 0⟩, _, rfl, rfl, HP7.out, HPm.out, by simp, HU6.out, HU7.out⟩
             | cons x S' =>
               obtain ⟨q, hq1, hq2, hq3, hq4⟩ := fst_min HPm.out HP.out.ho.srt
               have HQ1 := Aside0.mk hq1
               have HQ3 := Aside0.mk hq3
               have HQ4 := Aside0.mk hq4
               have hLl : L.length ≤ 100000 := by rw [HPm.out.length_eq]; have := HSl.out; omega
               have hSl : S'.length ≤ 100000 := by have := HSl.out; simp at this; omega
               clear hq1 hq3 hq4
               go_wp2_with fail
               refine (pop_S HP3.out.ho hSl).mono ?_
               rintro e w4 ⟨rfl, hA, hC⟩
               have HP4 := Aside0.mk (HP3.out.stepF hA (fun _ e => .inl e) hC)
               have HY6 := Aside0.mk (hC.blk HZ6.out (fun e => HN6.out.1 e))
               have HY7 := Aside0.mk (hC.blk HZ7.out (fun e => HN7.out.1 e))
               clear hA hC a0
               have zq := HY6.out
               have u0 : w4.cell? ⟨wr.heap.size, 0, none⟩ = some (.int .i64 0) := by rw [blk_cell zq]; rfl
               have u1 : w4.cell? ⟨wr.heap.size, 1, none⟩ = some (.int .i64 0) := by rw [blk_cell zq]; rfl
               have u2 : w4.cell? ⟨wr.heap.size, 2, none⟩ = some (.int .i64 0) := by rw [blk_cell zq]; rfl
               have uf0 := blk_frozen zq 0
               have uf1 := blk_frozen zq 1
               have uf2 := blk_frozen zq 2
               clear zq
               go_wp2_with fail
               clear u0 u1 u2 uf0 uf1 uf2
               have hch : Chg (fun k => k = wr.heap.size) w4 (((w4.setCell ⟨wr.heap.size, 0, none⟩ (.int .i64 x.f)).setCell ⟨wr.heap.size, 1, none⟩ (.int .i64 x.g)).setCell ⟨wr.heap.size, 2, none⟩ (.int .i64 x.c)) := chg_three (K := fun k => k = wr.heap.size) w4 (wr.heap.size) rfl _ _ _
               have HP5 := Aside0.mk (HP4.out.other hch (fun k e => by subst e; exact HN6.out))
               have HX6 := Aside0.mk (blk_three HY6.out (.int .i64 x.f) (.int .i64 x.g) (.int .i64 x.c))
               have HX7 := Aside0.mk (hch.blk HY7.out (fun e => by omega))
               clear hch
               generalize (((w4.setCell ⟨wr.heap.size, 0, none⟩ (.int .i64 x.f)).setCell ⟨wr.heap.size, 1, none⟩ (.int .i64 x.g)).setCell ⟨wr.heap.size, 2, none⟩ (.int .i64 x.c)) = w5 at HP5 HX6 HX7 ⊢
               refine (rpop_some HP5.out.rf q HQ1.out hq2 hLl).mono ?_
               rintro e w6 ⟨rfl, G6, hA, hG, hC⟩
               rw [HQ3.out]
               have HP6 := Aside0.mk (HP5.out.stepG hA hG hC)
               have HV6 := Aside0.mk (hC.blk HX6.out (fun e => HN6.out.2.1 e))
               have HV7 := Aside0.mk (hC.blk HX7.out (fun e => HN7.out.2.1 e))
               have HG7 : Aside0 (¬ G6 (wr.heap.size + 1)) := ⟨fun e => (hG _ e).elim (fun e => HN7.out.2.1 e) (fun e => by have := blk_lt HX7.out; omega)⟩
               clear hA hG hC
               have zq := HV7.out
               have u0 : w6.cell? ⟨wr.heap.size + 1, 0, none⟩ = some (.int .i64 0) := by rw [blk_cell zq]; rfl
               have u1 : w6.cell? ⟨wr.heap.size + 1, 1, none⟩ = some (.int .i64 0) := by rw [blk_cell zq]; rfl
               have u2 : w6.cell? ⟨wr.heap.size + 1, 2, none⟩ = some (.int .i64 0) := by rw [blk_cell zq]; rfl
               have uf0 := blk_frozen zq 0
               have uf1 := blk_frozen zq 1
               have uf2 := blk_frozen zq 2
               clear zq
               go_wp2_with fail
               clear u0 u1 u2 uf0 uf1 uf2
               have hch : Chg (fun k => k = wr.heap.size + 1) w6 (((w6.setCell ⟨wr.heap.size + 1, 0, none⟩ (.int .i64 x.f)).setCell ⟨wr.heap.size + 1, 1, none⟩ (.int .i64 x.g)).setCell ⟨wr.heap.size + 1, 2, none⟩ (.int .i64 x.c)) := chg_three (K := fun k => k = wr.heap.size + 1) w6 (wr.heap.size + 1) rfl _ _ _
               have HP7 := Aside0.mk (HP6.out.other hch (fun k e => by subst e; exact ⟨fun e => HN7.out.1 e, fun e => HG7.out e, HN7.out.2.2⟩))
               have HU7 := Aside0.mk (blk_three HV7.out (.int .i64 x.f) (.int .i64 x.g) (.int .i64 x.c))
               have HU6 := Aside0.mk (hch.blk HV6.out (fun e => by omega))
               clear hch
               generalize (((w6.setCell ⟨wr.heap.size + 1, 0, none⟩ (.int .i64 x.f)).setCell ⟨wr.heap.size + 1, 1, none⟩ (.int .i64 x.g)).setCell ⟨wr.heap.size + 1, 2, none⟩ (.int .i64 x.c)) = w7 at HP7 HU7 HU6 ⊢
               have HPn : Aside0 ((L.take q ++ L.drop (q + 1)).Perm S') := HQ4
               go_wp2_with fail
               go_meet
               exact ⟨F, G6, S', L.take q ++ L.drop (q + 1), x, _, rfl, rfl, HP7.out, HPn.out, by have := HSl.out; simp at this; omega, HU6.out, HU7.out⟩
           · have hd1b : (act.d == 1) = false := beq_eq_false_iff_ne.2 hd1
             clear hd0 hd1
             clear a1 a2 a3
             cases S with
             | nil =>
               have hL : L = [] := List.eq_nil_of_length_eq_zero (by rw [HPm.out.length_eq]; rfl)
               subst hL
               go_wp2_with fail
               refine (top_S0 HP3.out.ho).mono ?_
               rintro e w4 ⟨rfl, hb⟩
               have HP4 := Aside0.mk (HP3.out.below hb)
               have HY6 := Aside0.mk ((Chg.of_below (F := Non) hb).blk HZ6.out (fun e => e))
               have HY7 := Aside0.mk ((Chg.of_below (F := Non) hb).blk HZ7.out (fun e => e))
               clear hb a0
               have zq := HY6.out
               have u0 : w4.cell? ⟨wr.heap.size, 0, none⟩ = some (.int .i64 0) := by rw [blk_cell zq]; rfl
               have u1 : w4.cell? ⟨wr.heap.size, 1, none⟩ = some (.int .i64 0) := by rw [blk_cell zq]; rfl
               have u2 : w4.cell? ⟨wr.heap.size, 2, none⟩ = some (.int .i64 0) := by rw [blk_cell zq]; rfl
               have uf0 := blk_frozen zq 0
               have uf1 := blk_frozen zq 1
               have uf2 := blk_frozen zq 2
               clear zq
               go_wp2_with fail
               clear u0 u1 u2 uf0 uf1 uf2
               have hch : Chg (fun k => k = wr.heap.size) w4 (((w4.setCell ⟨wr.heap.size, 0, none⟩ (.int .i64 0)).setCell ⟨wr.heap.size, 1, none⟩ (.int .i64 0)).setCell ⟨wr.heap.size, 2, none⟩ (.int .i64 0)) := chg_three (K := fun k => k = wr.heap.size) w4 (wr.heap.size) rfl _ _ _
               have HP5 := Aside0.mk (HP4.out.other hch (fun k e => by subst e; exact HN6.out))
               have HX6 := Aside0.mk (blk_three HY6.out (.int .i64 0) (.int .i64 0) (.int .i64 0))
               have HX7 := Aside0.mk (hch.blk HY7.out (fun e => by omega))
               clear hch
               generalize (((w4.setCell ⟨wr.heap.size, 0, none⟩ (.int .i64 0)).setCell ⟨wr.heap.size, 1, none⟩ (.int .i64 0)).setCell ⟨wr.heap.size, 2, none⟩ (.int .i64 0)) = w5 at HP5 HX6 HX7 ⊢
               refine (rtop_none HP5.out.rf).mono ?_
               rintro e w6 ⟨rfl, hb⟩
               have HP6 := Aside0.mk (HP5.out.below hb)
               have HV6 := Aside0.mk ((Chg.of_below (F := Non) hb).blk HX6.out (fun e => e))
               have HV7 := Aside0.mk ((Chg.of_below (F := Non) hb).blk HX7.out (fun e => e))
               clear hb
               have zq := HV7.out
               have u0 : w6.cell? ⟨wr.heap.size + 1, 0, none⟩ = some (.int .i64 0) := by rw [blk_cell zq]; rfl
               have u1 : w6.cell? ⟨wr.heap.size + 1, 1, none⟩ = some (.int .i64 0) := by rw [blk_cell zq]; rfl
               have u2 : w6.cell? ⟨wr.heap.size + 1, 2, none⟩ = some (.int .i64 0) := by rw [blk_cell zq]; rfl
               have uf0 := blk_frozen zq 0
               have uf1 := blk_frozen zq 1
               have uf2 := blk_frozen zq 2
               clear zq
               go_wp2_with fail
               clear u0 u1 u2 uf0 uf1 uf2
               have hch : Chg (fun k => k = wr.heap.size + 1) w6 (((w6.setCell ⟨wr.heap.size + 1, 0, none⟩ (.int .i64 0)).setCell ⟨wr.heap.size + 1, 1, none⟩ (.int .i64 0)).setCell ⟨wr.heap.size + 1, 2, none⟩ (.int .i64 0)) := chg_three (K := fun k => k = wr.heap.size + 1) w6 (wr.heap.size + 1) rfl _ _ _
               have HP7 := Aside0.mk (HP6.out.other hch (fun k e => by subst e; exact HN7.out))
               have HU7 := Aside0.mk (blk_three HV7.out (.int .i64 0) (.int .i64 0) (.int .i64 0))
               have HU6 := Aside0.mk (hch.blk HV6.out (fun e => by omega))
               clear hch
               generalize (((w6.setCell ⟨wr.heap.size + 1, 0, none⟩ (.int .i64 0)).setCell ⟨wr.heap.size + 1, 1, none⟩ (.int .i64 0)).setCell ⟨wr.heap.size + 1, 2, none⟩ (.int .i64 0)) = w7 at HP7 HU7 HU6 ⊢
               go_wp2_with fail
               go_meet
               exact ⟨F, G, ([] : List Entry), ([] : List Entry), ⟨0, 0, 0⟩, _, rfl, rfl, HP7.out, HPm.out, by simp, HU6.out, HU7.out⟩
             | cons x S' =>
               obtain ⟨q, hq1, hq2, hq3, hq4⟩ := fst_min HPm.out HP.out.ho.srt
               have HQ1 := Aside0.mk hq1
               have HQ3 := Aside0.mk hq3
               have HQ4 := Aside0.mk hq4
               have hLl : L.length ≤ 100000 := by rw [HPm.out.length_eq]; have := HSl.out; omega
               have hSl : S'.length ≤ 100000 := by have := HSl.out; simp at this; omega
               clear hq1 hq3 hq4
               go_wp2_with fail
               refine (top_S HP3.out.ho).mono ?_
               rintro e w4 ⟨rfl, hb⟩
               have HP4 := Aside0.mk (HP3.out.below hb)
               have HY6 := Aside0.mk ((Chg.of_below (F := Non) hb).blk HZ6.out (fun e => e))
               have HY7 := Aside0.mk ((Chg.of_below (F := Non) hb).blk HZ7.out (fun e => e))
               clear hb a0
               have zq := HY6.out
               have u0 : w4.cell? ⟨wr.heap.size, 0, none⟩ = some (.int .i64 0) := by rw [blk_cell zq]; rfl
               have u1 : w4.cell? ⟨wr.heap.size, 1, none⟩ = some (.int .i64 0) := by rw [blk_cell zq]; rfl
               have u2 : w4.cell? ⟨wr.heap.size, 2, none⟩ = some (.int .i64 0) := by rw [blk_cell zq]; rfl
               have uf0 := blk_frozen zq 0
               have uf1 := blk_frozen zq 1
               have uf2 := blk_frozen zq 2
               clear zq
               go_wp2_with fail
               clear u0 u1 u2 uf0 uf1 uf2
               have hch : Chg (fun k => k = wr.heap.size) w4 (((w4.setCell ⟨wr.heap.size, 0, none⟩ (.int .i64 x.f)).setCell ⟨wr.heap.size, 1, none⟩ (.int .i64 x.g)).setCell ⟨wr.heap.size, 2, none⟩ (.int .i64 x.c)) := chg_three (K := fun k => k = wr.heap.size) w4 (wr.heap.size) rfl _ _ _
               have HP5 := Aside0.mk (HP4.out.other hch (fun k e => by subst e; exact HN6.out))
               have HX6 := Aside0.mk (blk_three HY6.out (.int .i64 x.f) (.int .i64 x.g) (.int .i64 x.c))
               have HX7 := Aside0.mk (hch.blk HY7.out (fun e => by omega))
               clear hch
               generalize (((w4.setCell ⟨wr.heap.size, 0, none⟩ (.int .i64 x.f)).setCell ⟨wr.heap.size, 1, none⟩ (.int .i64 x.g)).setCell ⟨wr.heap.size, 2, none⟩ (.int .i64 x.c)) = w5 at HP5 HX6 HX7 ⊢
               refine (rtop_some HP5.out.rf q HQ1.out hq2 (by omega)).mono ?_
               rintro e w6 ⟨rfl, hb⟩
               rw [HQ3.out]
               have HP6 := Aside0.mk (HP5.out.below hb)
               have HV6 := Aside0.mk ((Chg.of_below (F := Non) hb).blk HX6.out (fun e => e))
               have HV7 := Aside0.mk ((Chg.of_below (F := Non) hb).blk HX7.out (fun e => e))
               clear hb
               have zq := HV7.out
               have u0 : w6.cell? ⟨wr.heap.size + 1, 0, none⟩ = some (.int .i64 0) := by rw [blk_cell zq]; rfl
               have u1 : w6.cell? ⟨wr.heap.size + 1, 1, none⟩ = some (.int .i64 0) := by rw [blk_cell zq]; rfl
               have u2 : w6.cell? ⟨wr.heap.size + 1, 2, none⟩ = some (.int .i64 0) := by rw [blk_cell zq]; rfl
               have uf0 := blk_frozen zq 0
               have uf1 := blk_frozen zq 1
               have uf2 := blk_frozen zq 2
               clear zq
               go_wp2_with fail
               clear u0 u1 u2 uf0 uf1 uf2
               have hch : Chg (fun k => k = wr.heap.size + 1) w6 (((w6.setCell ⟨wr.heap.size + 1, 0, none⟩ (.int .i64 x.f)).setCell ⟨wr.heap.size + 1, 1, none⟩ (.int .i64 x.g)).setCell ⟨wr.heap.size + 1, 2, none⟩ (.int .i64 x.c)) := chg_three (K := fun k => k = wr.heap.size + 1) w6 (wr.heap.size + 1) rfl _ _ _
               have HP7 := Aside0.mk (HP6.out.other hch (fun k e => by subst e; exact HN7.out))
               have HU7 := Aside0.mk (blk_three HV7.out (.int .i64 x.f) (.int .i64 x.g) (.int .i64 x.c))
               have HU6 := Aside0.mk (hch.blk HV6.out (fun e => by omega))
               clear hch
               generalize (((w6.setCell ⟨wr.heap.size + 1, 0, none⟩ (.int .i64 x.f)).setCell ⟨wr.heap.size + 1, 1, none⟩ (.int .i64 x.g)).setCell ⟨wr.heap.size + 1, 2, none⟩ (.int .i64 x.c)) = w7 at HP7 HU7 HU6 ⊢
               go_wp2_with fail
               go_meet
               exact ⟨F, G, (x :: S'), L, x, _, rfl, rfl, HP7.out, HPm.out, by have := HSl.out; omega, HU6.out, HU7.out⟩
end Go.Proofs.Ytplimabdnpepjaa
