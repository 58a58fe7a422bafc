/- Push's contract. Conditions: what lies in memory as told. -/
import Derived.Test.YtplimabdnpepjaaH2
import Derived.Test.YtplimabdnpepjaaStep
import Derived.BigRegion
import Derived.ChangeAlike
import Derived.WalkMore
import Derived.ScopeJumps
import Derived.BigQuiet
import Derived.Deep.QuietTactic
import Derived.StillTailTactics
namespace Go.Proofs.Ytplimabdnpepjaa
open Go.RowKit Go.Proofs.YtplimabdnpepjaaW.PrintWords Lb
theorem push_nil (w : World) (x : Entry) : Calls Try.prog 9 #[.pointer none, .agg #[.int .i64 x.f, .int .i64 x.g, .int .i64 x.c]] w fun e w' => e = .returned (.tuple #[]) ∧ Below w.heap.size w w' := by
  go_enter Try.func9, Try.ntmps9
  go_wp2
  go_step3
  go_wp2
  rw [Exit.noGoto_ret]
  refine bodyPost_ret (results_none rfl _ _ _) rfl ?_
  exact ⟨rfl, below_alloc (Below.refl _ _) _⟩

theorem Hp.alloc {w : World} {F : Nat → Prop} {b : Nat} {l : List Entry} {A : Option Addr} {c : Nat} (h : Hp w F b l A c) (o : Obj) : Hp (w.alloc o) F b l A c :=
  h.keep ((Chg.refl Non w).alloc o) (fun _ _ e => e)
theorem Hp.drew {w : World} {F : Nat → Prop} {b : Nat} {l : List Entry} {A : Option Addr} {c : Nat} (h : Hp w F b l A c) : Hp w.drew F b l A c :=
  h.keep ((Chg.refl Non w).drew) (fun _ _ e => e)
theorem Hp.put {w : World} {F : Nat → Prop} {b g c i : Nat} {l : List Entry} (h : Hp w F b l (some ⟨g, 0, none⟩) c) (hi : i < l.length) (y : Entry) :
    Hp (((w.setCell ⟨g, i * 3, none⟩ (.int .i64 y.f)).setCell ⟨g, i * 3 + 1, none⟩ (.int .i64 y.g)).setCell ⟨g, i * 3 + 2, none⟩ (.int .i64 y.c)) F b (l.set i y) (some ⟨g, 0, none⟩) c := by
  obtain ⟨x, hx⟩ : ∃ x, l[i]? = some x := ⟨_, List.getElem?_eq_getElem hi⟩
  have hne : b ≠ g := fun e => by
    subst e
    obtain ⟨cells, hc⟩ := Kd.R_typed h.row b (by simp [Value.ownBlock])
    rw [h.blk] at hc
    cases hc
  have r1 := F_store h.row i 0 x ⟨y.f, x.g, x.c⟩ (.int .i64 y.f) hx (by omega) rfl
  have r2 := F_store r1 i 1 ⟨y.f, x.g, x.c⟩ ⟨y.f, y.g, x.c⟩ (.int .i64 y.g) (by simp [hi]) (by omega) rfl
  have r3 := F_store r2 i 2 ⟨y.f, y.g, x.c⟩ y (.int .i64 y.c) (by simp [hi]) (by omega) rfl
  simp only [List.set_set] at r3
  refine ⟨fun k hk => by simpa [World.setCell] using h.lt k hk, h.hb, ?_, by rw [List.length_set]; exact r3⟩
  rw [List.length_set]
  exact blk_far (blk_far (blk_far h.blk hne _) hne _) hne _

/-- What is so at each jump back. -/
def PJ (b : Nat) (F1 : Nat → Prop) (l9 : List Entry) (w9 : World) (a' : Act) (w' : World) : Prop := ∃ (i : Nat) (l1 : List Entry) (A1 : Option Addr) (c1 : Nat), Hp w' F1 b l1 A1 c1 ∧ i < l1.length ∧ l1.length ≤ 100001 ∧ riseP (i + 1) l1 i = l9 ∧ Chg F1 w9 w' ∧
  ∃ u1 u2 u3 u5 u6 u7 u8 u9 u10 u11 u12 u13 u14 u15 u16 u17 u18 u19 u20 u21 u22 u23 u24 u25 u26 u27 u28 u29 u30 u31 u32 u33 u34 u35 u36 u37 u38 u39 u40 u41 u42 u43 u44 u45 u46 u47 u48 u49 u50 u51 u52 u53 u54 u55 u56 u57 u58 u59 u60 u61 u62 u63 u64 u65 u66 u67 u68 u69 u70 u71 u72 : Value, a' = { tmps := #[.pointer (some ⟨b, 0, none⟩), u1, u2, u3, .int .i64 (i : Int), u5, u6, u7, u8, u9, u10, u11, u12, u13, u14, u15, u16, u17, u18, u19, u20, u21, u22, u23, u24, u25, u26, u27, u28, u29, u30, u31, u32, u33, u34, u35, u36, u37, u38, u39, u40, u41, u42, u43, u44, u45, u46, u47, u48, u49, u50, u51, u52, u53, u54, u55, u56, u57, u58, u59, u60, u61, u62, u63, u64, u65, u66, u67, u68, u69, u70, u71, u72], defers := [] }
theorem Hp.ne {w : World} {F : Nat → Prop} {b g n : Nat} {l : List Entry} {c : Nat} (h : Hp w F b l (some ⟨g, n, none⟩) c) : ¬ b = g := fun e => by
  subst e
  obtain ⟨cells, hc⟩ := Kd.R_typed h.row b (by simp [Value.ownBlock])
  rw [h.blk] at hc
  cases hc
theorem rise_stop {n : Nat} {l : List Entry} {i : Nat} (h : lessE (entAt l i) (entAt l ((i - 1) / 2)) = false) : riseP n l i = l := by
  cases n with
  | zero => rfl
  | succ n => unfold riseP; rw [if_neg (by rw [h]; simp)]
theorem rise_more : ∀ n m l i, i < n → i < m → riseP n l i = riseP m l i
  | 0, _, _, _, h, _ => by omega
  | _ + 1, 0, _, _, _, h => by omega
  | n + 1, m + 1, l, i, h1, h2 => by
    unfold riseP
    by_cases hc : 0 < i ∧ lessE (entAt l i) (entAt l ((i - 1) / 2)) = true
    · rw [if_pos hc, if_pos hc]
      exact rise_more n m _ _ (by omega) (by omega)
    · rw [if_neg hc, if_neg hc]

theorem rise_go {l : List Entry} {i : Nat} (hi : 0 < i) (h : lessE (entAt l i) (entAt l ((i - 1) / 2)) = true) : riseP (i + 1) l i = riseP ((i - 1) / 2 + 1) (swapE l i ((i - 1) / 2)) ((i - 1) / 2) := by
  rw [riseP, if_pos ⟨hi, h⟩]
  exact rise_more _ _ _ _ (by omega) (by omega)
theorem rise_zero (n : Nat) (l : List Entry) : riseP n l 0 = l := by
  cases n with
  | zero => rfl
  | succ n => unfold riseP; rw [if_neg (by omega)]
set_option maxRecDepth 100000 in
set_option maxHeartbeats 4000000 in
theorem push_some {w : World} {F : Nat → Prop} {b : Nat} {l : List Entry} (h : Heap w F b l) (x : Entry) (hl : l.length ≤ 100000) :
    Calls Try.prog 9 #[.pointer (some ⟨b, 0, none⟩), .agg #[.int .i64 x.f, .int .i64 x.g, .int .i64 x.c]] w fun e w' => e = .returned (.tuple #[]) ∧ ∃ F', Heap w' F' b (pushP l x) ∧ (∀ k, F' k → F k ∨ w.heap.size ≤ k) ∧ Chg F w w' := by
  obtain ⟨A, c, h⟩ := h
  have hbl : ¬ b = w.heap.size := fun e => by have := h.lt b h.hb; omega
  have hwb : ¬ w.heap.size = b := fun e => hbl e.symm
  have h := h.alloc (.cells #[.int .i64 x.f, .int .i64 x.g, .int .i64 x.c] 27)
  have H := Aside0.mk h
  have h0 := h.c0
  have hx0 : (w.alloc (.cells #[.int .i64 x.f, .int .i64 x.g, .int .i64 x.c] 27)).cell? ⟨w.heap.size, 0, none⟩ = some (.int .i64 x.f) := by rw [blk_cell (blk_new w _)]; rfl
  have hx1 : (w.alloc (.cells #[.int .i64 x.f, .int .i64 x.g, .int .i64 x.c] 27)).cell? ⟨w.heap.size, 1, none⟩ = some (.int .i64 x.g) := by rw [blk_cell (blk_new w _)]; rfl
  have hx2 : (w.alloc (.cells #[.int .i64 x.f, .int .i64 x.g, .int .i64 x.c] 27)).cell? ⟨w.heap.size, 2, none⟩ = some (.int .i64 x.c) := by rw [blk_cell (blk_new w _)]; rfl
  have h0a : ((w.alloc (.cells #[.int .i64 x.f, .int .i64 x.g, .int .i64 x.c] 27)).alloc (.cells #[.int .i64 x.f, .int .i64 x.g, .int .i64 x.c] 27)).cell? ⟨b, 0, none⟩ = some (.slice A l.length c) := (h.alloc _).c0
  have hR0 := Kd.R_drew (Kd.R_types h.row h.blk (by simp [flatK]))
  have HR := Aside0.mk hR0
  have HS := Aside0.mk (show w.heap.size + 1 = (w.alloc (.cells #[.int .i64 x.f, .int .i64 x.g, .int .i64 x.c] 27)).drew.heap.size by simp [World.drew])
  have HP := Aside0.mk (show kdE.M (w.alloc (.cells #[.int .i64 x.f, .int .i64 x.g, .int .i64 x.c] 27)).drew 0 (fun _ => False) x [.int .i64 x.f, .int .i64 x.g, .int .i64 x.c] from rfl)
  have HLL := Aside0.mk hl
  clear h hR0
  go_enter Try.func9, Try.ntmps9
  go_wp2
  refine wp_scope_jumps 0 (fun a' w' => ∃ F1 w9, PJ b F1 (pushP l x) w9 a' w' ∧ (∀ k, F1 k → F k ∨ w.heap.size ≤ k) ∧ Chg F w w9) (fun a' _ => (intOf (a'.tmps.getD 4 undef)).toNat) rfl ?_ ?_
  · go_upto_region 2 with fail
    go_cut [] from 8 to 17 (fun wc => ∃ (F1 : Nat → Prop) (A1 : Option Addr) (c1 : Nat), Hp wc F1 b (l ++ [x]) A1 c1 ∧ (∀ k, F1 k → F k ∨ w.heap.size ≤ k) ∧ Chg F w wc)
    case first =>
      go_region_law (refine push_step kdE 0 (fun k => F k ∧ k ≠ b) rfl (.tmp 12) (.tmp 14) 23 27 (.agg #[.int .i64 0, .int .i64 0, .int .i64 0]) 24 rfl Try.underlying23 info27 rfl (by decide) (by omega) (.slice A l.length c) l x [.int .i64 x.f, .int .i64 x.g, .int .i64 x.c] (fun _ => False) (w.heap.size + 1) HS.out.symm (by simp [Act.eval]) (by simp [Act.eval]) HP.out (fun _ h => h.elim) HR.out (Nat.zero_le _) (by omega) ?_; intro v1 w8 F1 hR hlt1 hnew hCh; have hblk := hCh.blk H.out.drew.blk (fun e => e.2 rfl); have hk0 : w8.cell? ⟨b, 0, none⟩ = some (.slice A l.length c) := (by rw [blk_cell hblk]; rfl); have hf0 := blk_frozen hblk 0; obtain ⟨A8, n8, c8, hv, HN8, _, _, HR8⟩ := R_outN hR; have hn8 : n8 = l.length + 1 := (by rw [HN8.out]; simp); subst hn8; subst hv; have HB8 := Aside0.mk hblk; have HL8 := Aside0.mk hlt1; have HW8 := Aside0.mk hnew; have HC8 := Aside0.mk hCh; clear hR hlt1 hnew hCh hblk HN8)
      all_goals
        go_wp2_with fail
        go_meet
        have hsz : (w.alloc (.cells #[.int .i64 x.f, .int .i64 x.g, .int .i64 x.c] 27)).drew.heap.size = w.heap.size + 1 := HS.out.symm
        have hlen : (l ++ [x]).length = l.length + 1 := by simp
        refine ⟨fun k => F1 k ∨ k = b, A8, c8, ⟨fun k hk => ?_, .inr rfl, ?_, ?_⟩, fun k hk => ?_, ?_⟩
        · simp only [World.setCell, Array.size_modify]
          rcases hk with hk | hk
          · exact HL8.out k hk
          · rw [hk]; exact blk_lt HB8.out
        · rw [hlen]
          exact blk_set HB8.out 0 (.slice A8 (l.length + 1) c8)
        · rw [hlen]
          exact Kd.R_mono (Kd.R_set HR8.out HB8.out (by simp [flatK]) 0 _) (fun k hk => .inl hk)
        · rcases hk with hk | hk
          · rcases HW8.out k hk with e | e
            · exact .inl e.1
            · rw [hsz] at e; exact .inr (by omega)
          · rw [hk]; exact .inl H.out.hb
        · exact ((((Chg.refl F w).alloc _).drew.trans HC8.out (fun i h => .inl h.1))).set (p := ⟨b, 0, none⟩) (.inl H.out.hb) _
    case rest =>
      clear h0 hx0 hx1 hx2 h0a HR HS HP
      obtain ⟨F1, A1, c1, hh, hF1, hC⟩ := hcut
      have HC := Aside0.mk hC
      have HF := Aside0.mk hF1
      have HH := Aside0.mk hh
      have hlen : (l ++ [x]).length = l.length + 1 := by simp
      have h0 := hh.c0
      rw [hlen] at h0
      clear hC hF1 hh hlen
      have HI : Aside0 (l.length < (l ++ [x]).length ∧ (l ++ [x]).length ≤ 100001) := ⟨by simp; exact HLL.out⟩
      have HE : Aside0 (riseP (l.length + 1) (l ++ [x]) l.length = pushP l x) := ⟨rfl⟩
      go_wp2
      clear h0
      have HW9 := HC
      obtain ⟨w9, hw9⟩ : ∃ w9, w9 = wc := ⟨_, rfl⟩
      have HC9 : Aside0 (Chg F1 w9 wc) := ⟨by rw [hw9]; exact Chg.refl _ _⟩
      replace HC : Aside0 (Chg F w w9) := ⟨by rw [hw9]; exact HC.out⟩
      clear HW9 hw9
      generalize l ++ [x] = l1 at HH HI HE
      generalize l.length = i at HI HE hl HLL ⊢
      go_step3
      have HHi := HH.out
      have hil := HI.out.1
      have hil2 := HI.out.2
      rcases Nat.eq_zero_or_pos i with hi | hi
      · subst hi
        clear HHi hil hil2
        go_wp2_with fail
        go_quiet (fail)
        go_wp2
        simp only [Exit.jump]
        refine bodyPost_end (results_none rfl _ _ _) rfl ⟨rfl, F1, ?_, HF.out, (HC.out.trans HC9.out (fun k hk => HF.out k hk)).drewN _⟩
        rw [← HE.out, rise_zero]
        exact (Heap.keep ⟨A1, c1, HH.out⟩ ((Chg.refl Non _).drewN _) (fun _ _ e => e))
      · obtain ⟨u, hu⟩ : ∃ u : Nat, ((i : Int) - 1) / 2 = (u : Int) := ⟨(i - 1) / 2, by omega⟩
        have hu2 : u = (i - 1) / 2 := by omega
        have hul : u < l1.length := by omega
        obtain ⟨g, hA1, hF1g, hgl, hcell, hfro⟩ := F_elem HHi.row i (entAt l1 i) (entAt_some hil)
        obtain ⟨g', hg', _, _, hcellu, _⟩ := F_elem HHi.row u (entAt l1 u) (entAt_some hul)
        rw [hA1] at hg'
        injection hg' with hg'
        injection hg' with hg'
        subst hg'
        subst hA1
        have h0 := HHi.c0
        have hc0 : wc.cell? ⟨g, i * 3, none⟩ = some (.int .i64 (entAt l1 i).f) := hcell 0 _ rfl
        have hc1 : wc.cell? ⟨g, i * 3 + 1, none⟩ = some (.int .i64 (entAt l1 i).g) := hcell 1 _ rfl
        have hc2 : wc.cell? ⟨g, i * 3 + 2, none⟩ = some (.int .i64 (entAt l1 i).c) := hcell 2 _ rfl
        have hd0 : wc.cell? ⟨g, u * 3, none⟩ = some (.int .i64 (entAt l1 u).f) := hcellu 0 _ rfl
        have hd1 : wc.cell? ⟨g, u * 3 + 1, none⟩ = some (.int .i64 (entAt l1 u).g) := hcellu 1 _ rfl
        have hd2 : wc.cell? ⟨g, u * 3 + 2, none⟩ = some (.int .i64 (entAt l1 u).c) := hcellu 2 _ rfl
        have hi1 : (1 : Int) ≤ (i : Int) := by omega
        have hi0 : (0 : Int) < (i : Int) := by omega
        have hi2 : (0 : Int) ≤ (i : Int) - 1 := by omega
        have hil3 : (i : Int) < (l1.length : Int) := by omega
        have hul3 : (u : Int) < (l1.length : Int) := by omega
        have HU := Aside0.mk hu2
        clear hcell hcellu HHi hu2
        go_wp2_with fail
        clear hu
        go_region_held3 (fun w' => w'.cell? ⟨b, 0, none⟩ = some (.slice (some ⟨g, 0, none⟩) l1.length c1) ∧ w'.cell? ⟨g, i * 3, none⟩ = some (.int .i64 (entAt l1 i).f) ∧ w'.cell? ⟨g, i * 3 + 1, none⟩ = some (.int .i64 (entAt l1 i).g) ∧ w'.cell? ⟨g, i * 3 + 2, none⟩ = some (.int .i64 (entAt l1 i).c) ∧ w'.cell? ⟨g, u * 3, none⟩ = some (.int .i64 (entAt l1 u).f) ∧ w'.cell? ⟨g, u * 3 + 1, none⟩ = some (.int .i64 (entAt l1 u).g) ∧ w'.cell? ⟨g, u * 3 + 2, none⟩ = some (.int .i64 (entAt l1 u).c)) (first | exact ⟨h0, hc0, hc1, hc2, hd0, hd1, hd2⟩ | exact ⟨bs5 _ _ (by assumption), bs5 _ _ (by assumption), bs5 _ _ (by assumption), bs5 _ _ (by assumption), bs5 _ _ (by assumption), bs5 _ _ (by assumption), bs5 _ _ (by assumption)⟩ | go_keep) (first | (go_at_call 16; refine (less_ok _ (entAt l1 i) (entAt l1 u)).mono ?_; rintro e w5 ⟨rfl, hb5⟩; have bs5 := bsome hb5))
        have hC5 : Chg Non wc w5 := (Chg.refl Non wc).drew.trans (Chg.of_below (F := Non) hb5) (fun _ e => e.elim)
        have HC5 := Aside0.mk hC5
        have HH5 := Aside0.mk (HH.out.keep hC5 (fun _ _ e => e))
        have gfr := HH5.out.row
        have h05 := bs5 _ _ h0
        have hc05 := bs5 _ _ hc0
        have hc15 := bs5 _ _ hc1
        have hc25 := bs5 _ _ hc2
        have hd05 := bs5 _ _ hd0
        have hd15 := bs5 _ _ hd1
        have hd25 := bs5 _ _ hd2
        obtain ⟨g', hg', _, _, _, hfr5⟩ := F_elem HH5.out.row i (entAt l1 i) (entAt_some hil)
        injection hg' with hg'
        injection hg' with hg'
        subst hg'
        have hf0 := hfr5 (i * 3)
        have hf1 := hfr5 (i * 3 + 1)
        have hf2 := hfr5 (i * 3 + 2)
        have hf3 := hfr5 (u * 3)
        have hf4 := hfr5 (u * 3 + 1)
        have hf5 := hfr5 (u * 3 + 2)
        have hbg : ¬ b = g := HH5.out.ne
        have hgb : ¬ g = b := fun e => hbg e.symm
        have HG := Aside0.mk hF1g
        have hui : ¬ u = i := by have := HU.out; omega
        have hiu : ¬ i = u := by have := HU.out; omega
        clear hfr5 hfro gfr hC5 bs5 hb5 h0 hc0 hc1 hc2 hd0 hd1 hd2 hF1g
        cases hL : lessE (entAt l1 i) (entAt l1 u)
        · have HLs := Aside0.mk hL
          clear hL
          go_wp2
          simp only [Exit.jump]
          refine bodyPost_end (results_none rfl _ _ _) rfl ⟨rfl, F1, ?_, HF.out, (HC.out.trans (HC9.out.trans HC5.out (fun _ e => e.elim)) (fun k hk => HF.out k hk))⟩
          rw [← HE.out, rise_stop (by rw [← HU.out]; exact HLs.out)]
          exact ⟨_, _, HH5.out⟩
        · have HLs := Aside0.mk hL
          clear hL
          go_wp2_with fail
          go_region
          go_wp2
          go_step3
          have hSw := (HH5.out.put hil (entAt l1 u)).put (i := u) (by rw [List.length_set]; exact hul) (entAt l1 i)
          have hCh : Chg F1 w5 _ := (((((((Chg.refl F1 w5).set (p := ⟨g, i * 3, none⟩) (.inl HG.out) (.int .i64 (entAt l1 u).f)).set (p := ⟨g, i * 3 + 1, none⟩) (.inl HG.out) (.int .i64 (entAt l1 u).g)).set (p := ⟨g, i * 3 + 2, none⟩) (.inl HG.out) (.int .i64 (entAt l1 u).c)).set (p := ⟨g, u * 3, none⟩) (.inl HG.out) (.int .i64 (entAt l1 i).f)).set (p := ⟨g, u * 3 + 1, none⟩) (.inl HG.out) (.int .i64 (entAt l1 i).g)).set (p := ⟨g, u * 3 + 2, none⟩) (.inl HG.out) (.int .i64 (entAt l1 i).c)).drew
          have key : ∀ a', (∃ u1 u2 u3 u5 u6 u7 u8 u9 u10 u11 u12 u13 u14 u15 u16 u17 u18 u19 u20 u21 u22 u23 u24 u25 u26 u27 u28 u29 u30 u31 u32 u33 u34 u35 u36 u37 u38 u39 u40 u41 u42 u43 u44 u45 u46 u47 u48 u49 u50 u51 u52 u53 u54 u55 u56 u57 u58 u59 u60 u61 u62 u63 u64 u65 u66 u67 u68 u69 u70 u71 u72 : Value, a' = { tmps := #[.pointer (some ⟨b, 0, none⟩), u1, u2, u3, .int .i64 (u : Int), u5, u6, u7, u8, u9, u10, u11, u12, u13, u14, u15, u16, u17, u18, u19, u20, u21, u22, u23, u24, u25, u26, u27, u28, u29, u30, u31, u32, u33, u34, u35, u36, u37, u38, u39, u40, u41, u42, u43, u44, u45, u46, u47, u48, u49, u50, u51, u52, u53, u54, u55, u56, u57, u58, u59, u60, u61, u62, u63, u64, u65, u66, u67, u68, u69, u70, u71, u72], defers := [] }) → PJ b F1 (pushP l x) w9 a' _ := fun a' h => ⟨u, swapE l1 i u, some ⟨g, 0, none⟩, c1, hSw.drew, by rw [swapE_len]; exact hul, by rw [swapE_len]; exact hil2, by rw [← HE.out]; have hg := HLs.out; rw [HU.out] at hg ⊢; exact (rise_go hi hg).symm, (HC9.out.trans HC5.out (fun _ e => e.elim)).trans hCh (fun _ e => .inl e), h⟩
          first
            | exact ⟨rfl, F1, w9, key _ (by (repeat apply Exists.intro); exact rfl), HF.out, HC.out⟩
            | exact ⟨rfl, ⟨F1, w9, key _ (by (repeat apply Exists.intro); exact rfl), HF.out, HC.out⟩, by simp [intOf]; have := HU.out; omega⟩
  · rintro a' wc ⟨F1, w9, ⟨i, l1, A1, c1, hh, hi1, hi2, he, hc9, u1, u2, u3, u5, u6, u7, u8, u9, u10, u11, u12, u13, u14, u15, u16, u17, u18, u19, u20, u21, u22, u23, u24, u25, u26, u27, u28, u29, u30, u31, u32, u33, u34, u35, u36, u37, u38, u39, u40, u41, u42, u43, u44, u45, u46, u47, u48, u49, u50, u51, u52, u53, u54, u55, u56, u57, u58, u59, u60, u61, u62, u63, u64, u65, u66, u67, u68, u69, u70, u71, u72, rfl⟩, hF, hC⟩
    have HI : Aside0 (i < l1.length ∧ l1.length ≤ 100001) := ⟨hi1, hi2⟩
    have HE := Aside0.mk he
    have HH := Aside0.mk hh
    have HC9 := Aside0.mk hc9
    have HC := Aside0.mk hC
    have HF := Aside0.mk hF
    clear he hh hc9 hC hF hi1 hi2 h0 hx0 hx1 hx2 h0a HR HS HP
    have HHi := HH.out
    have hil := HI.out.1
    have hil2 := HI.out.2
    rcases Nat.eq_zero_or_pos i with hi | hi
    · subst hi
      clear HHi hil hil2
      go_wp2_with fail
      go_quiet (fail)
      go_wp2
      simp only [Exit.jump]
      refine bodyPost_end (results_none rfl _ _ _) rfl ⟨rfl, F1, ?_, HF.out, (HC.out.trans HC9.out (fun k hk => HF.out k hk)).drewN _⟩
      rw [← HE.out, rise_zero]
      exact (Heap.keep ⟨A1, c1, HH.out⟩ ((Chg.refl Non _).drewN _) (fun _ _ e => e))
    · obtain ⟨u, hu⟩ : ∃ u : Nat, ((i : Int) - 1) / 2 = (u : Int) := ⟨(i - 1) / 2, by omega⟩
      have hu2 : u = (i - 1) / 2 := by omega
      have hul : u < l1.length := by omega
      obtain ⟨g, hA1, hF1g, hgl, hcell, hfro⟩ := F_elem HHi.row i (entAt l1 i) (entAt_some hil)
      obtain ⟨g', hg', _, _, hcellu, _⟩ := F_elem HHi.row u (entAt l1 u) (entAt_some hul)
      rw [hA1] at hg'
      injection hg' with hg'
      injection hg' with hg'
      subst hg'
      subst hA1
      have h0 := HHi.c0
      have hc0 : wc.cell? ⟨g, i * 3, none⟩ = some (.int .i64 (entAt l1 i).f) := hcell 0 _ rfl
      have hc1 : wc.cell? ⟨g, i * 3 + 1, none⟩ = some (.int .i64 (entAt l1 i).g) := hcell 1 _ rfl
      have hc2 : wc.cell? ⟨g, i * 3 + 2, none⟩ = some (.int .i64 (entAt l1 i).c) := hcell 2 _ rfl
      have hd0 : wc.cell? ⟨g, u * 3, none⟩ = some (.int .i64 (entAt l1 u).f) := hcellu 0 _ rfl
      have hd1 : wc.cell? ⟨g, u * 3 + 1, none⟩ = some (.int .i64 (entAt l1 u).g) := hcellu 1 _ rfl
      have hd2 : wc.cell? ⟨g, u * 3 + 2, none⟩ = some (.int .i64 (entAt l1 u).c) := hcellu 2 _ rfl
      have hi1 : (1 : Int) ≤ (i : Int) := by omega
      have hi0 : (0 : Int) < (i : Int) := by omega
      have hi2 : (0 : Int) ≤ (i : Int) - 1 := by omega
      have hil3 : (i : Int) < (l1.length : Int) := by omega
      have hul3 : (u : Int) < (l1.length : Int) := by omega
      have HU := Aside0.mk hu2
      clear hcell hcellu HHi hu2
      go_wp2_with fail
      clear hu
      go_region_held3 (fun w' => w'.cell? ⟨b, 0, none⟩ = some (.slice (some ⟨g, 0, none⟩) l1.length c1) ∧ w'.cell? ⟨g, i * 3, none⟩ = some (.int .i64 (entAt l1 i).f) ∧ w'.cell? ⟨g, i * 3 + 1, none⟩ = some (.int .i64 (entAt l1 i).g) ∧ w'.cell? ⟨g, i * 3 + 2, none⟩ = some (.int .i64 (entAt l1 i).c) ∧ w'.cell? ⟨g, u * 3, none⟩ = some (.int .i64 (entAt l1 u).f) ∧ w'.cell? ⟨g, u * 3 + 1, none⟩ = some (.int .i64 (entAt l1 u).g) ∧ w'.cell? ⟨g, u * 3 + 2, none⟩ = some (.int .i64 (entAt l1 u).c)) (first | exact ⟨h0, hc0, hc1, hc2, hd0, hd1, hd2⟩ | exact ⟨bs5 _ _ (by assumption), bs5 _ _ (by assumption), bs5 _ _ (by assumption), bs5 _ _ (by assumption), bs5 _ _ (by assumption), bs5 _ _ (by assumption), bs5 _ _ (by assumption)⟩ | go_keep) (first | (go_at_call 16; refine (less_ok _ (entAt l1 i) (entAt l1 u)).mono ?_; rintro e w5 ⟨rfl, hb5⟩; have bs5 := bsome hb5))
      have hC5 : Chg Non wc w5 := (Chg.refl Non wc).drew.trans (Chg.of_below (F := Non) hb5) (fun _ e => e.elim)
      have HC5 := Aside0.mk hC5
      have HH5 := Aside0.mk (HH.out.keep hC5 (fun _ _ e => e))
      have gfr := HH5.out.row
      have h05 := bs5 _ _ h0
      have hc05 := bs5 _ _ hc0
      have hc15 := bs5 _ _ hc1
      have hc25 := bs5 _ _ hc2
      have hd05 := bs5 _ _ hd0
      have hd15 := bs5 _ _ hd1
      have hd25 := bs5 _ _ hd2
      obtain ⟨g', hg', _, _, _, hfr5⟩ := F_elem HH5.out.row i (entAt l1 i) (entAt_some hil)
      injection hg' with hg'
      injection hg' with hg'
      subst hg'
      have hf0 := hfr5 (i * 3)
      have hf1 := hfr5 (i * 3 + 1)
      have hf2 := hfr5 (i * 3 + 2)
      have hf3 := hfr5 (u * 3)
      have hf4 := hfr5 (u * 3 + 1)
      have hf5 := hfr5 (u * 3 + 2)
      have hbg : ¬ b = g := HH5.out.ne
      have hgb : ¬ g = b := fun e => hbg e.symm
      have HG := Aside0.mk hF1g
      have hui : ¬ u = i := by have := HU.out; omega
      have hiu : ¬ i = u := by have := HU.out; omega
      clear hfr5 hfro gfr hC5 bs5 hb5 h0 hc0 hc1 hc2 hd0 hd1 hd2 hF1g
      cases hL : lessE (entAt l1 i) (entAt l1 u)
      · have HLs := Aside0.mk hL
        clear hL
        go_wp2
        simp only [Exit.jump]
        refine bodyPost_end (results_none rfl _ _ _) rfl ⟨rfl, F1, ?_, HF.out, (HC.out.trans (HC9.out.trans HC5.out (fun _ e => e.elim)) (fun k hk => HF.out k hk))⟩
        rw [← HE.out, rise_stop (by rw [← HU.out]; exact HLs.out)]
        exact ⟨_, _, HH5.out⟩
      · have HLs := Aside0.mk hL
        clear hL
        go_wp2_with fail
        go_region
        go_wp2
        go_step3
        have hSw := (HH5.out.put hil (entAt l1 u)).put (i := u) (by rw [List.length_set]; exact hul) (entAt l1 i)
        have hCh : Chg F1 w5 _ := (((((((Chg.refl F1 w5).set (p := ⟨g, i * 3, none⟩) (.inl HG.out) (.int .i64 (entAt l1 u).f)).set (p := ⟨g, i * 3 + 1, none⟩) (.inl HG.out) (.int .i64 (entAt l1 u).g)).set (p := ⟨g, i * 3 + 2, none⟩) (.inl HG.out) (.int .i64 (entAt l1 u).c)).set (p := ⟨g, u * 3, none⟩) (.inl HG.out) (.int .i64 (entAt l1 i).f)).set (p := ⟨g, u * 3 + 1, none⟩) (.inl HG.out) (.int .i64 (entAt l1 i).g)).set (p := ⟨g, u * 3 + 2, none⟩) (.inl HG.out) (.int .i64 (entAt l1 i).c)).drew
        have key : ∀ a', (∃ u1 u2 u3 u5 u6 u7 u8 u9 u10 u11 u12 u13 u14 u15 u16 u17 u18 u19 u20 u21 u22 u23 u24 u25 u26 u27 u28 u29 u30 u31 u32 u33 u34 u35 u36 u37 u38 u39 u40 u41 u42 u43 u44 u45 u46 u47 u48 u49 u50 u51 u52 u53 u54 u55 u56 u57 u58 u59 u60 u61 u62 u63 u64 u65 u66 u67 u68 u69 u70 u71 u72 : Value, a' = { tmps := #[.pointer (some ⟨b, 0, none⟩), u1, u2, u3, .int .i64 (u : Int), u5, u6, u7, u8, u9, u10, u11, u12, u13, u14, u15, u16, u17, u18, u19, u20, u21, u22, u23, u24, u25, u26, u27, u28, u29, u30, u31, u32, u33, u34, u35, u36, u37, u38, u39, u40, u41, u42, u43, u44, u45, u46, u47, u48, u49, u50, u51, u52, u53, u54, u55, u56, u57, u58, u59, u60, u61, u62, u63, u64, u65, u66, u67, u68, u69, u70, u71, u72], defers := [] }) → PJ b F1 (pushP l x) w9 a' _ := fun a' h => ⟨u, swapE l1 i u, some ⟨g, 0, none⟩, c1, hSw.drew, by rw [swapE_len]; exact hul, by rw [swapE_len]; exact hil2, by rw [← HE.out]; have hg := HLs.out; rw [HU.out] at hg ⊢; exact (rise_go hi hg).symm, (HC9.out.trans HC5.out (fun _ e => e.elim)).trans hCh (fun _ e => .inl e), h⟩
        first
          | exact ⟨rfl, F1, w9, key _ (by (repeat apply Exists.intro); exact rfl), HF.out, HC.out⟩
          | exact ⟨rfl, ⟨F1, w9, key _ (by (repeat apply Exists.intro); exact rfl), HF.out, HC.out⟩, by simp [intOf]; have := HU.out; omega⟩
end Go.Proofs.Ytplimabdnpepjaa
