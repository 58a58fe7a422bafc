/- TerrainMore's walk. Conditions: a list of kinds, a kind more, any numbers. -/
import Derived.Test.YtlnchdelcadmoaaT9
import Derived.Deep.RegionLaw
import Derived.Deep.DeepCutAuto
namespace Go.Proofs.Ytlnchdelcadmoaa
open Go.RowKit Go.Proofs.YtlnchdelcadmoaaW.PrintWords Go.Proofs.YtlnchdelcadmoaaW.PrintLast Go.Proofs.YtlnchdelcadmoaaW.PrintMore Lb

/-- A row of others behind one's own, as a step of a region that draws its order. -/
theorem pushs_step {P : Program} {ops : Array Oper} {o : Oper} {a : Go.Act} {Q : Exit → Go.Act → World → Prop} {Kc : Go.Act → World → Prop} {α : Type} (d : Kd α) {Rr : α → List Value → Prop} {W : World} (base : Nat) (F : Nat → Prop) (hw : Region.wanted o (yielded ops a.tmps) = true) (s x : Operand) (t e : TypeId) (z : Value) (bytes : Nat)
    (ho : o.op = .call { callee := .builtin .append, args := #[s, x], argTypes := #[t, t] })
    (ht : P.underlying t = some (.slice e)) (hinfo : (P.info? e).map (fun i => (i.zero, i.size, i.bytes)) = some (some z, d.sz, bytes)) (hz : z.cells.size = d.sz) (hs0 : 0 < d.sz) (hb0 : 0 < bytes)
    (v : Value) (xs ys : List α) (A : Option Addr) (m c : Nat) (okp : Nat → Prop) (hs : a.eval s = v) (hx : a.eval x = .slice A m c)
    (HO : d.R e W base F v xs) (HR : ReadsRow Rr d.sz W A m ys) (hKM : ∀ x cs, Rr x cs → d.M W base okp x cs) (hokp : ∀ k, okp k → F k ∧ some k ≠ v.ownBlock)
    (hbase : base ≤ W.heap.size) (hl : (xs.length + m) * bytes ≤ 140737488355328)
    (h : ∀ v1 w1 F1, d.R e w1 base F1 v1 (xs ++ ys) → (∀ k, F1 k → k < w1.heap.size) → (∀ k, F1 k → F k ∨ W.heap.size ≤ k) → Chg F W w1 → Kc (a.put o.dst v1) w1) :
    if Region.wanted o (yielded ops a.tmps) = true then Oper.wp P o a W Kc Q else Kc (a.put o.dst undef) W := by
  have HO2 : d.R e W base (fun k => F k ∨ W.heap.size ≤ k) v xs := Kd.R_mono HO (fun k hk => .inl hk)
  refine Kd.R_append_rows_step d (w0 := W) base hw s x t e z bytes ho ht hinfo hz hs0 hb0 v xs ys A m c (fun k => F k ∨ W.heap.size ≤ k) okp hs hx HO2 HR hKM (fun k hk => ⟨.inl (hokp k hk).1, (hokp k hk).2⟩) (fun k hk => .inr hk) (Below.refl _ _) hbase hl ?_
  intro v1 w1 hR _ hg _
  exact h v1 w1 (fun k => (F k ∨ W.heap.size ≤ k) ∧ k < w1.heap.size) (R_at hR _ (fun k hk hl => ⟨hk, hl⟩)) (fun k hk => hk.2) (fun k hk => hk.1) (Chg.of_grown hg (fun k hk => HO.1 k hk))

/-- What New answered. -/
def Res (w' : World) (l : List Kind) (cl : Int) (p : Option Addr) (e1 : Int) : Prop := (rightP l cl = true ∧ e1 = 0 ∧ ∃ (b : Nat) (F : Nat → Prop), p = some ⟨b, 0, none⟩ ∧ TabO w' F b l cl) ∨ (rightP l cl = false ∧ e1 = 1 ∧ p = none)
theorem Res.below {w w1 : World} {l : List Kind} {cl : Int} {p : Option Addr} {e1 : Int} (h : Res w l cl p e1) (hb : Below w.heap.size w w1) : Res w1 l cl p e1 := by
  rcases h with ⟨h1, h2, b, F, h3, h4⟩ | h
  · exact .inl ⟨h1, h2, b, F, h3, h4.below hb⟩
  · exact .inr h
theorem new_res {w : World} {A : Option Addr} {n c : Nat} {l : List Kind} {cl : Int} (hC : kdK.C w A n l) (hn : l.length = n) (hm : ∀ k ∈ l, k.mask < 256) : Calls Try.prog 11 #[.slice A n c, .int .i64 cl] w fun e w' => ∃ (p : Option Addr) (e1 : Int), e = .returned (.tuple #[.pointer p, .int .i64 e1]) ∧ Res w' l cl p e1 ∧ Below w.heap.size w w' := by
  refine (new_any w A n c l cl hC hn hm).mono ?_
  rintro e w' (⟨h, b, F, he, ht, _, hb⟩ | ⟨h, he, hb⟩)
  · exact ⟨_, _, he, .inl ⟨h, rfl, b, F, rfl, ht⟩, hb⟩
  · exact ⟨_, _, he, .inr ⟨h, rfl, rfl⟩, hb⟩
theorem right_init {l : List Kind} {x : Kind} {cl : Int} (hl : 1 ≤ l.length) (h : rightP (l ++ [x]) cl = true) : rightP l cl = true := by
  obtain ⟨h1, h2, h3, h4, h5⟩ := right_parts h
  rw [List.length_append] at h2
  simp only [rightP, Bool.and_eq_true, decide_eq_true_eq, List.all_eq_true]
  exact ⟨⟨⟨⟨hl, by omega⟩, h3⟩, h4⟩, fun k hk => h5 k (List.mem_append_left _ hk)⟩
theorem kAt_init {l : List Kind} {x : Kind} {i : Nat} (h : i < l.length) : kAt (l ++ [x]) i = kAt l i := by
  simp [kAt, List.getElem?_append_left h]
theorem may_init {l : List Kind} {x : Kind} {cl c : Int} {i : Nat} (h : i < l.length) : mayP (l ++ [x]) cl c (i : Int) = mayP l cl c (i : Int) := by
  simp [mayP, kAt_init h, h, show (i : Int) < (l.length : Int) + 1 by omega]
theorem cost_init {l : List Kind} {x : Kind} {i : Nat} (h : i < l.length) : costP (l ++ [x]) (i : Int) = costP l (i : Int) := by
  unfold costP
  rw [if_pos ⟨by omega, by rw [List.length_append]; simp; omega⟩, if_pos ⟨by omega, by omega⟩, Int.toNat_natCast, kAt_init h]
theorem least_more {l : List Kind} {x : Kind} {cl c : Int} : leastP (l ++ [x]) cl c = if mayP (l ++ [x]) cl c (l.length : Int) = true ∧ (leastP l cl c = 0 ∨ x.cost < leastP l cl c) then x.cost else leastP l cl c := by
  have := leastQ_next (l := l ++ [x]) (cl := cl) (x := c) (i := l.length) (by simp)
  rw [show l.length + 1 = (l ++ [x]).length by simp, leastQ_all] at this
  have e1 : leastQ (l ++ [x]) cl c l.length = leastP l cl c := by rw [leastQ, leastP]; simp
  have e2 : kAt (l ++ [x]) l.length = x := by simp [kAt]
  rw [this, e1, e2]
theorem least_nonneg {l : List Kind} {cl c : Int} (h : rightP l cl = true) : 0 ≤ leastP l cl c := by
  unfold leastP
  split
  · rcases leastC_is l c.toNat (right_cost h) with ⟨e, _⟩ | ⟨_, ⟨k, hk, _, e⟩, _⟩
    · omega
    · have := right_cost h k hk
      omega
  · omega

set_option maxRecDepth 100000 in
set_option maxHeartbeats 8000000 in
theorem more_walk (w : World) (A : Option Addr) (c : Nat) (l : List Kind) (x : Kind) (cl y : Int) (hC : kdK.C w A l.length l) (hm : ∀ k ∈ l, k.mask < 256) (hx : x.mask < 256) : Calls Try.prog 7 #[.slice A l.length c, .agg #[.int .i64 x.cost, .int .u8 (x.mask : Int)], .int .i64 cl, .int .i64 y] w fun e w' => e = .returned (.bool true) ∧ Below w.heap.size w w' := by
  have hmax : (l.length : Int) ≤ 9223372036854775807 := by have := hC.2.1; unfold maxLen at this; omega
  have HM := Aside0.mk hm
  have HMx : Aside0 (∀ k ∈ l ++ [x], k.mask < 256) := ⟨fun k hk => by
    rcases List.mem_append.1 hk with h | h
    · exact hm k h
    · simp at h; subst h; exact hx⟩
  obtain ⟨n, hn⟩ : ∃ n, l.length = n := ⟨_, rfl⟩
  have HN := Aside0.mk hn
  rw [hn] at hmax ⊢
  have HCn : Aside0 (kdK.C (w.alloc (.cells #[.int .i64 x.cost, .int .u8 (x.mask : Int)] 29)) A n l) := ⟨by rw [← hn]; exact Kd.C_alloc hC _⟩
  clear hC hm hx
  go_enter Try.func7, Try.ntmps7
  go_wp2_with fail
  refine (awake_yes _).mono ?_
  rintro e w1 ⟨rfl, hb⟩
  have HB1 := Aside0.mk (below_next (below_alloc (Below.refl w.heap.size w) (.cells #[.int .i64 x.cost, .int .u8 (x.mask : Int)] 29)) hb)
  have HC1 := Aside0.mk (Kd.C_below HCn.out hb)
  have HZ1 := Aside0.mk ((Chg.of_below (F := Non) hb).blk (blk_new w (.cells #[.int .i64 x.cost, .int .u8 (x.mask : Int)] 29)) (fun e => e))
  clear hb
  by_cases h100 : (100 : Int) < (n : Int)
  · clear hn
    go_wp2
    go_ret
    exact ⟨rfl, HB1.out⟩
  have h100' : (n : Int) ≤ 100 := by omega
  have hn100 : n ≤ 100 := by omega
  clear h100 hn
  go_wp2_with fail
  refine (new_res HC1.out HN.out HM.out).mono ?_
  rintro e w2 ⟨p, e1, rfl, hr, hb⟩
  have HR2 := Aside0.mk hr
  have HB2 := Aside0.mk (below_next HB1.out hb)
  have hC2 := Kd.C_below HC1.out hb
  have HZ5 := Aside0.mk ((Chg.of_below (F := Non) hb).blk HZ1.out (fun e => e))
  have n1 : (w2.alloc (.cells #[] 29)).heap.size = w2.heap.size + 1 := by simp
  have n2 : (w2.alloc (.cells #[.int .i64 x.cost, .int .u8 (x.mask : Int)] 29)).heap.size = w2.heap.size + 1 := by simp
  have HE1 := Aside0.mk (Kd.R_drew (R_empty kdK 29 w2 0 (fun k => k = w2.heap.size) (Nat.zero_le _) rfl))
  have HE2 := Aside0.mk (Kd.R_drew (Kd.R_alloc (R_empty kdK 29 w2 0 (fun k => k = w2.heap.size) (Nat.zero_le _) rfl) (.cells #[.int .i64 x.cost, .int .u8 (x.mask : Int)] 29)))
  have HE3 : Aside0 (kdK.R 29 (((w2.alloc (.cells #[.int .i64 x.cost, .int .u8 (x.mask : Int)] 29)).alloc (.cells #[] 29)).drew) 0 (fun k => k = w2.heap.size + 1) (.slice (some ⟨w2.heap.size + 1, 0, none⟩) 0 0) []) := ⟨by
    have := Kd.R_drew (R_empty kdK 29 (w2.alloc (.cells #[.int .i64 x.cost, .int .u8 (x.mask : Int)] 29)) 0 (fun k => k = w2.heap.size + 1) (Nat.zero_le _) n2)
    rwa [n2] at this⟩
  have HK1 : Aside0 (kdK.C ((w2.alloc (.cells #[] 29)).drew) A n l) := ⟨Kd.C_drew (Kd.C_alloc hC2 _)⟩
  have HK2 : Aside0 (kdK.C (((w2.alloc (.cells #[] 29)).alloc (.cells #[.int .i64 x.cost, .int .u8 (x.mask : Int)] 29)).drew) A n l) := ⟨Kd.C_drew (Kd.C_alloc (Kd.C_alloc hC2 _) _)⟩
  have HK3 : Aside0 (kdK.C (((w2.alloc (.cells #[.int .i64 x.cost, .int .u8 (x.mask : Int)] 29)).alloc (.cells #[] 29)).drew) A n l) := ⟨Kd.C_drew (Kd.C_alloc (Kd.C_alloc hC2 _) _)⟩
  have HL2 : Aside0 ((((w2.alloc (.cells #[] 29)).alloc (.cells #[.int .i64 x.cost, .int .u8 (x.mask : Int)] 29)).drew).heap[w2.heap.size + 1]? = some (.cells #[.int .i64 x.cost, .int .u8 (x.mask : Int)] 29 (0, 0))) := ⟨by
    have := blk_new (w2.alloc (.cells #[] 29)) (.cells #[.int .i64 x.cost, .int .u8 (x.mask : Int)] 29)
    rw [n1] at this
    exact this⟩
  have HL3 : Aside0 ((((w2.alloc (.cells #[.int .i64 x.cost, .int .u8 (x.mask : Int)] 29)).alloc (.cells #[] 29)).drew).heap[w2.heap.size]? = some (.cells #[.int .i64 x.cost, .int .u8 (x.mask : Int)] 29 (0, 0))) := ⟨((Chg.refl Non _).alloc (.cells #[] 29)).blk (blk_new w2 (.cells #[.int .i64 x.cost, .int .u8 (x.mask : Int)] 29)) (fun e => e)⟩
  have a0 : w2.cell? ⟨w.heap.size, 0, none⟩ = some (.int .i64 x.cost) := by rw [blk_cell HZ5.out]; rfl
  have a1 : w2.cell? ⟨w.heap.size, 1, none⟩ = some (.int .u8 (x.mask : Int)) := by rw [blk_cell HZ5.out]; rfl
  have hz5 := ((Chg.refl Non w2).alloc (.cells #[] 29)).blk HZ5.out (fun e => e)
  have b0 : (w2.alloc (.cells #[] 29)).cell? ⟨w.heap.size, 0, none⟩ = some (.int .i64 x.cost) := by rw [blk_cell hz5]; rfl
  have b1 : (w2.alloc (.cells #[] 29)).cell? ⟨w.heap.size, 1, none⟩ = some (.int .u8 (x.mask : Int)) := by rw [blk_cell hz5]; rfl
  have HC2 := Aside0.mk hC2
  clear hb hr hC2 hz5 n1 n2
  go_upto_region 6 with fail
  go_cut [11] from 30 to 35 (fun v11 wc => ∃ (A5 : Option Addr) (c5 : Nat), v11 = .slice A5 (n + 1) c5 ∧ kdK.C wc A5 (n + 1) (l ++ [x]) ∧ Below w2.heap.size w2 wc)
  case first =>
    go_region_law (first | (refine pushs_step (W := (w2.alloc (.cells #[] 29)).drew) kdK 0 (fun k => k = w2.heap.size) rfl (.tmp 30) (.tmp 31) 22 29 (.agg #[.int .i64 0, .int .u8 0]) 16 rfl Try.underlying22 info29 rfl (by decide) (by omega) (.slice (some ⟨w2.heap.size, 0, none⟩) 0 0) [] l A n c (fun _ => False) (by simp [Act.eval]) (by simp [Act.eval]) HE1.out HK1.out (fun _ _ h => h) (fun _ h => h.elim) (Nat.zero_le _) (by (try simp); omega) ?_; intro v1 w4 F4 hR hlt hnew hC; obtain ⟨A4, n4, c4, hv, HN4, _, _, HR4⟩ := R_outN hR; subst hv; have hX4 : Below w2.heap.size w2 w4 := (Chg.below ((((Chg.refl (fun k => w2.heap.size ≤ k) w2).alloc (.cells #[] 29)).drew).trans hC (fun i h => .inl (by show w2.heap.size ≤ i; omega))) (Nat.le_refl _) (fun k e => e)); have HX4 := Aside0.mk hX4; have hq5 := ((Chg.of_below (F := Non) hX4).blk HZ5.out (fun e => e)); have d0 : w4.cell? ⟨w.heap.size, 0, none⟩ = some (.int .i64 x.cost) := (by rw [blk_cell hq5]; rfl); have d1 : w4.cell? ⟨w.heap.size, 1, none⟩ = some (.int .u8 (x.mask : Int)) := (by rw [blk_cell hq5]; rfl); have HW4 : Aside0 (∀ k, F4 k → w2.heap.size ≤ k) := ⟨fun k hk => (hnew k hk).elim (fun e => by omega) (fun e => by (try simp at e); omega)⟩;  clear hR hlt hnew hC hX4 hq5) | (refine pushs_step (W := ((w2.alloc (.cells #[] 29)).alloc (.cells #[.int .i64 x.cost, .int .u8 (x.mask : Int)] 29)).drew) kdK 0 (fun k => k = w2.heap.size) rfl (.tmp 30) (.tmp 31) 22 29 (.agg #[.int .i64 0, .int .u8 0]) 16 rfl Try.underlying22 info29 rfl (by decide) (by omega) (.slice (some ⟨w2.heap.size, 0, none⟩) 0 0) [] l A n c (fun _ => False) (by simp [Act.eval]) (by simp [Act.eval]) HE2.out HK2.out (fun _ _ h => h) (fun _ h => h.elim) (Nat.zero_le _) (by (try simp); omega) ?_; intro v1 w4 F4 hR hlt hnew hC; obtain ⟨A4, n4, c4, hv, HN4, _, _, HR4⟩ := R_outN hR; subst hv; have hX4 : Below w2.heap.size w2 w4 := (Chg.below (((((Chg.refl (fun k => w2.heap.size ≤ k) w2).alloc (.cells #[] 29)).alloc (.cells #[.int .i64 x.cost, .int .u8 (x.mask : Int)] 29)).drew).trans hC (fun i h => .inl (by show w2.heap.size ≤ i; omega))) (Nat.le_refl _) (fun k e => e)); have HX4 := Aside0.mk hX4; have hq5 := ((Chg.of_below (F := Non) hX4).blk HZ5.out (fun e => e)); have d0 : w4.cell? ⟨w.heap.size, 0, none⟩ = some (.int .i64 x.cost) := (by rw [blk_cell hq5]; rfl); have d1 : w4.cell? ⟨w.heap.size, 1, none⟩ = some (.int .u8 (x.mask : Int)) := (by rw [blk_cell hq5]; rfl); have HW4 : Aside0 (∀ k, F4 k → w2.heap.size ≤ k) := ⟨fun k hk => (hnew k hk).elim (fun e => by omega) (fun e => by (try simp at e); omega)⟩; have HLit2 : Aside0 (kdK.C w4 (some ⟨w2.heap.size + 1, 0, none⟩) 1 [x]) := ⟨C_of_blk [x] (by simp) (hC.blk HL2.out (fun e => by omega))⟩; clear hR hlt hnew hC hX4 hq5) | (refine pushs_step (W := ((w2.alloc (.cells #[.int .i64 x.cost, .int .u8 (x.mask : Int)] 29)).alloc (.cells #[] 29)).drew) kdK 0 (fun k => k = (w2.heap.size + 1)) rfl (.tmp 30) (.tmp 31) 22 29 (.agg #[.int .i64 0, .int .u8 0]) 16 rfl Try.underlying22 info29 rfl (by decide) (by omega) (.slice (some ⟨(w2.heap.size + 1), 0, none⟩) 0 0) [] l A n c (fun _ => False) (by simp [Act.eval]) (by simp [Act.eval]) HE3.out HK3.out (fun _ _ h => h) (fun _ h => h.elim) (Nat.zero_le _) (by (try simp); omega) ?_; intro v1 w4 F4 hR hlt hnew hC; obtain ⟨A4, n4, c4, hv, HN4, _, _, HR4⟩ := R_outN hR; subst hv; have hX4 : Below w2.heap.size w2 w4 := (Chg.below (((((Chg.refl (fun k => w2.heap.size ≤ k) w2).alloc (.cells #[.int .i64 x.cost, .int .u8 (x.mask : Int)] 29)).alloc (.cells #[] 29)).drew).trans hC (fun i h => .inl (by show w2.heap.size ≤ i; omega))) (Nat.le_refl _) (fun k e => e)); have HX4 := Aside0.mk hX4; have hq5 := ((Chg.of_below (F := Non) hX4).blk HZ5.out (fun e => e)); have d0 : w4.cell? ⟨w.heap.size, 0, none⟩ = some (.int .i64 x.cost) := (by rw [blk_cell hq5]; rfl); have d1 : w4.cell? ⟨w.heap.size, 1, none⟩ = some (.int .u8 (x.mask : Int)) := (by rw [blk_cell hq5]; rfl); have HW4 : Aside0 (∀ k, F4 k → w2.heap.size ≤ k) := ⟨fun k hk => (hnew k hk).elim (fun e => by omega) (fun e => by (try simp at e); omega)⟩; have HLit3 : Aside0 (kdK.C w4 (some ⟨w2.heap.size, 0, none⟩) 1 [x]) := ⟨C_of_blk [x] (by simp) (hC.blk HL3.out (fun e => by omega))⟩; clear hR hlt hnew hC hX4 hq5) | (refine pushs_step (W := w4) kdK 0 F4 rfl (.tmp 32) (.tmp 34) 22 29 (.agg #[.int .i64 0, .int .u8 0]) 16 rfl Try.underlying22 info29 rfl (by decide) (by omega) (.slice A4 n4 c4) ([] ++ l) [x] (some ⟨w2.heap.size + 1, 0, none⟩) 1 1 (fun _ => False) (by simp [Act.eval]) (by simp [Act.eval]) HR4.out HLit2.out (fun _ _ h => h) (fun _ h => h.elim) (Nat.zero_le _) (by simp; have := HN.out; omega) ?_; intro v1 w5 F5 hR hlt hnew hC; obtain ⟨A5, n5, c5, hv, HN5, _, HC5, _⟩ := R_outN hR; subst hv; have HX5 : Aside0 (Below w2.heap.size w2 w5) := ⟨Chg.below (((Chg.of_below (F := fun k => w2.heap.size ≤ k) HX4.out)).trans hC (fun k e => .inl (HW4.out k e))) (Nat.le_refl _) (fun k e => e)⟩; clear hR hlt hnew hC) | (refine pushs_step (W := w4) kdK 0 F4 rfl (.tmp 32) (.tmp 34) 22 29 (.agg #[.int .i64 0, .int .u8 0]) 16 rfl Try.underlying22 info29 rfl (by decide) (by omega) (.slice A4 n4 c4) ([] ++ l) [x] (some ⟨w2.heap.size, 0, none⟩) 1 1 (fun _ => False) (by simp [Act.eval]) (by simp [Act.eval]) HR4.out HLit3.out (fun _ _ h => h) (fun _ h => h.elim) (Nat.zero_le _) (by simp; have := HN.out; omega) ?_; intro v1 w5 F5 hR hlt hnew hC; obtain ⟨A5, n5, c5, hv, HN5, _, HC5, _⟩ := R_outN hR; subst hv; have HX5 : Aside0 (Below w2.heap.size w2 w5) := ⟨Chg.below (((Chg.of_below (F := fun k => w2.heap.size ≤ k) HX4.out)).trans hC (fun k e => .inl (HW4.out k e))) (Nat.le_refl _) (fun k e => e)⟩; clear hR hlt hnew hC) | (refine pushs_step (W := w4.alloc (.cells #[.int .i64 x.cost, .int .u8 (x.mask : Int)] 29)) kdK 0 F4 rfl (.tmp 32) (.tmp 34) 22 29 (.agg #[.int .i64 0, .int .u8 0]) 16 rfl Try.underlying22 info29 rfl (by decide) (by omega) (.slice A4 n4 c4) ([] ++ l) [x] (some ⟨w4.heap.size, 0, none⟩) 1 1 (fun _ => False) (by simp [Act.eval]) (by simp [Act.eval]) (Kd.R_alloc HR4.out _) (C_of_blk [x] (by simp) (blk_new w4 _)) (fun _ _ h => h) (fun _ h => h.elim) (Nat.zero_le _) (by simp; have := HN.out; omega) ?_; intro v1 w5 F5 hR hlt hnew hC; obtain ⟨A5, n5, c5, hv, HN5, _, HC5, _⟩ := R_outN hR; subst hv; have HX5 : Aside0 (Below w2.heap.size w2 w5) := ⟨Chg.below (((Chg.of_below (F := fun k => w2.heap.size ≤ k) HX4.out).alloc (.cells #[.int .i64 x.cost, .int .u8 (x.mask : Int)] 29)).trans hC (fun k e => .inl (HW4.out k e))) (Nat.le_refl _) (fun k e => e)⟩; clear hR hlt hnew hC))
    all_goals
      go_wp2_with fail
      go_meet
      have e5 : n5 = n + 1 := by rw [HN5.out]; simp; exact HN.out
      exact ⟨A5, c5, by rw [e5], by have := HC5.out; rw [List.nil_append] at this; rwa [List.length_append, HN.out] at this, HX5.out⟩
  case rest =>
    obtain ⟨A5, c5, rfl, hC5, hb5⟩ := hcut
    have HC5 := Aside0.mk hC5
    have HB5 := Aside0.mk (below_next HB2.out hb5)
    have HR5 := Aside0.mk (HR2.out.below hb5)
    have HZ6 := Aside0.mk ((Chg.of_below (F := Non) hb5).blk HZ5.out (fun e => e))
    have HNm : Aside0 ((l ++ [x]).length = n + 1) := ⟨by simp; exact HN.out⟩
    clear hC5 hb5 HE1 HE2 HE3 HK1 HK2 HK3 HL2 HL3 a0 a1 b0 b1
    go_wp2_with fail
    refine (new_res HC5.out HNm.out HMx.out).mono ?_
    rintro e w6 ⟨p2, e2, rfl, hr, hb⟩
    have HB6 := Aside0.mk (below_next HB5.out hb)
    have HZ7 := Aside0.mk ((Chg.of_below (F := Non) hb).blk HZ6.out (fun e => e))
    have hr5 := HR5.out.below hb
    clear hb
    rcases hr5 with ⟨hl, rfl, b, F, rfl, ht⟩ | ⟨hl, rfl, rfl⟩
    · rcases hr with ⟨hm, rfl, b2, F2, rfl, hu⟩ | ⟨hm, rfl, rfl⟩
      · have HT := Aside0.mk ht
        have HU := Aside0.mk hu
        have HRl := Aside0.mk hl
        have HRm := Aside0.mk hm
        clear ht hu hl hm
        go_wp2
        go_loopg [14] n (fun gk v wr => ∃ i : Nat, v = .int .i64 (i : Int) ∧ Aside0 (i + gk = n) ∧ Aside0 (wr = w6))
        case atStart => exact ⟨0, rfl, ⟨by omega⟩, ⟨rfl⟩⟩
        case round =>
          obtain ⟨i, rfl, HI, HW⟩ := hrel
          have hw := HW.out
          subst hw
          have hI := HI.out
          cases gk with
          | succ k1 =>
            have hi : (i : Int) < (n : Int) := by omega
            have HIL : Aside0 (i < l.length) := ⟨by have := HN.out; omega⟩
            clear hI
            go_wp2_with fail
            refine (kinds_T HT.out).mono ?_
            rintro e w7 ⟨rfl, rfl⟩
            rw [HN.out]
            go_wp2_with fail
            refine (may_T HT.out y (i : Int)).mono ?_
            rintro e w7 ⟨rfl, rfl⟩
            go_wp2_with fail
            refine (may_T HU.out y (i : Int)).mono ?_
            rintro e w7 ⟨rfl, rfl⟩
            rw [may_init HIL.out]
            go_wp2_with fail
            refine (cost_T HT.out (i : Int)).mono ?_
            rintro e w7 ⟨rfl, rfl⟩
            go_wp2_with fail
            refine (cost_T HU.out (i : Int)).mono ?_
            rintro e w7 ⟨rfl, rfl⟩
            rw [cost_init HIL.out]
            go_wp2
            go_roundg k1
            case measure => omega
            case rel => exact ⟨i + 1, by go_num, ⟨by have := HI.out; omega⟩, ⟨rfl⟩⟩
          | zero =>
            have hi : (n : Int) ≤ (i : Int) := by omega
            have c0 : wr.cell? ⟨w.heap.size, 0, none⟩ = some (.int .i64 x.cost) := by rw [blk_cell HZ7.out]; rfl
            clear hI
            go_wp2_with fail
            refine (kinds_T HT.out).mono ?_
            rintro e w7 ⟨rfl, rfl⟩
            rw [HN.out]
            go_wp2_with fail
            refine (least_T HT.out y).mono ?_
            rintro e w7 ⟨rfl, hb⟩
            have HB7 := Aside0.mk (below_next HB6.out hb)
            have HT7 := Aside0.mk (HT.out.below hb)
            have HU7 := Aside0.mk (HU.out.below hb)
            have HZ8 := Aside0.mk ((Chg.of_below (F := Non) hb).blk HZ7.out (fun e => e))
            clear hb
            go_wp2_with fail
            refine (least_T HU7.out y).mono ?_
            rintro e w8 ⟨rfl, hb⟩
            have HB8 := Aside0.mk (below_next HB7.out hb)
            have HT8 := Aside0.mk (HT7.out.below hb)
            have HU8 := Aside0.mk (HU7.out.below hb)
            have hz9 := (Chg.of_below (F := Non) hb).blk HZ8.out (fun e => e)
            have d0 : w8.cell? ⟨w.heap.size, 0, none⟩ = some (.int .i64 x.cost) := by rw [blk_cell hz9]; rfl
            clear hb c0 hz9
            have hmore := least_more (l := l) (x := x) (cl := cl) (c := y)
            have hq0 := least_nonneg (c := y) HRl.out
            have hx1 : 1 ≤ x.cost := right_cost HRm.out x (by simp)
            rw [HN.out] at hmore
            generalize leastP (l ++ [x]) cl y = o at hmore ⊢
            generalize leastP l cl y = q at hmore hq0 ⊢
            have HMo := Aside0.mk hmore
            clear hmore
            go_wp2_with fail
            refine (kinds_T HT8.out).mono ?_
            rintro e w9 ⟨rfl, rfl⟩
            rw [HN.out]
            go_wp2_with fail
            refine (may_T HU8.out y (n : Int)).mono ?_
            rintro e w9 ⟨rfl, rfl⟩
            cases hmay : mayP (l ++ [x]) cl y (n : Int)
            · have ho : o = q := by rw [HMo.out, if_neg (by rw [hmay]; simp)]
              subst ho
              clear hmay
              go_wp2
              go_ret
              exact ⟨rfl, HB8.out⟩
            · by_cases hq : q = 0
              · have ho : o = x.cost := by rw [HMo.out, if_pos ⟨hmay, .inl hq⟩]
                subst ho
                subst hq
                have h1 : decide (0 < x.cost) = true := decide_eq_true (by omega)
                clear hmay
                go_wp2
                go_ret
                exact ⟨rfl, HB8.out⟩
              · have h2 : decide (0 < q) = true := decide_eq_true (by omega)
                by_cases hc : x.cost < q
                · have ho : o = x.cost := by rw [HMo.out, if_pos ⟨hmay, .inr hc⟩]
                  subst ho
                  have h1 : decide (0 < x.cost) = true := decide_eq_true (by omega)
                  clear hmay hq
                  go_wp2
                  go_ret
                  exact ⟨rfl, HB8.out⟩
                · have ho : o = q := by rw [HMo.out, if_neg (by rintro ⟨_, h | h⟩; exact hq h; exact hc h)]
                  subst ho
                  have h3 : o ≤ x.cost := by omega
                  clear hmay hq hc
                  go_wp2
                  go_ret
                  exact ⟨rfl, HB8.out⟩
      · have hn1 : ((n : Int) == 0) = false := beq_eq_false_iff_ne.2 (by have := (right_parts hl).1; have := HN.out; omega)
        clear hl hm
        go_wp2
        go_ret
        exact ⟨rfl, HB6.out⟩
    · by_cases hn0 : n = 0
      · subst hn0
        go_wp2
        go_ret
        exact ⟨rfl, HB6.out⟩
      · have hn1 : ((n : Int) == 0) = false := beq_eq_false_iff_ne.2 (by omega)
        rcases hr with ⟨hm, _⟩ | ⟨hm, rfl, rfl⟩
        · rw [right_init (by have := HN.out; omega) hm] at hl
          cases hl
        · clear hn0
          go_wp2
          go_ret
          exact ⟨rfl, HB6.out⟩
end Go.Proofs.Ytlnchdelcadmoaa
