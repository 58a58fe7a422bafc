/- HeapLess's walk. Conditions: none. -/
import Derived.Test.YtplimabdnpepjaaHA
namespace Go.Proofs.Ytplimabdnpepjaa
open Go.RowKit Go.Proofs.YtplimabdnpepjaaW.PrintWords Go.Proofs.YtplimabdnpepjaaW.PrintLast Go.Proofs.YtplimabdnpepjaaW.PrintMore Lb

theorem eq27 (w : World) (a b : Entry) : (Op.equalIn 10000 27 (.agg #[.int .i64 a.f, .int .i64 a.g, .int .i64 a.c]) (.agg #[.int .i64 b.f, .int .i64 b.g, .int .i64 b.c])).run Try.prog w = .ok (decide (a = b)) w := by
  by_cases h : a = b
  · subst h
    rw [decide_eq_true rfl]
    go_simp
  · rw [decide_eq_false h]
    by_cases h1 : a.f = b.f
    · by_cases h2 : a.g = b.g
      · have h3 : (a.c == b.c) = false := beq_eq_false_iff_ne.2 (fun h3 => h (by cases a; cases b; simp_all))
        have h1' : (a.f == b.f) = true := beq_iff_eq.2 h1
        have h2' : (a.g == b.g) = true := beq_iff_eq.2 h2
        clear h h1 h2
        go_simp
      · have h2' : (a.g == b.g) = false := beq_eq_false_iff_ne.2 h2
        have h1' : (a.f == b.f) = true := beq_iff_eq.2 h1
        clear h h1 h2
        go_simp
    · have h1' : (a.f == b.f) = false := beq_eq_false_iff_ne.2 h1
      clear h h1
      go_simp
theorem ne_cases {a b : Entry} (h : a ≠ b) : (a.f == b.f) = false ∨ ((a.f == b.f) = true ∧ (a.g == b.g) = false) ∨ ((a.f == b.f) = true ∧ (a.g == b.g) = true ∧ (a.c == b.c) = false) := by
  cases h1 : (a.f == b.f)
  · exact .inl rfl
  · cases h2 : (a.g == b.g)
    · exact .inr (.inl ⟨rfl, rfl⟩)
    · cases h3 : (a.c == b.c)
      · exact .inr (.inr ⟨rfl, rfl, rfl⟩)
      · exfalso
        simp only [beq_iff_eq] at h1 h2 h3
        exact h (by cases a; cases b; simp_all)
theorem below_next {w w1 w2 : World} (h : Below w.heap.size w w1) (k : Below w1.heap.size w1 w2) : Below w.heap.size w w2 := below_then h h.size k
theorem tri (a b : Entry) : (lessE a b = true ∧ lessE b a = false ∧ a ≠ b) ∨ (lessE a b = false ∧ lessE b a = true ∧ a ≠ b) ∨ (lessE a b = false ∧ lessE b a = false ∧ a = b) := by
  cases h1 : lessE a b <;> cases h2 : lessE b a
  · exact .inr (.inr ⟨rfl, rfl, leE_antisymm h2 h1⟩)
  · refine .inr (.inl ⟨rfl, rfl, fun e => ?_⟩)
    subst e
    rw [lessE_irrefl] at h2
    cases h2
  · refine .inl ⟨rfl, rfl, fun e => ?_⟩
    subst e
    rw [lessE_irrefl] at h1
    cases h1
  · rw [lessE_iff] at h1 h2
    omega
theorem less_trans {a b c : Entry} (h : lessE a b = true) (k : lessE b c = true) : lessE a c = true := by
  rw [lessE_iff] at *; omega

def SL (w : World) (a b c : Entry) (wc : World) : Prop := wc.cell? ⟨w.heap.size, 0, none⟩ = some (.int .i64 a.f) ∧ wc.cell? ⟨w.heap.size, 1, none⟩ = some (.int .i64 a.g) ∧ wc.cell? ⟨w.heap.size, 2, none⟩ = some (.int .i64 a.c) ∧ wc.cell? ⟨w.heap.size + 1, 0, none⟩ = some (.int .i64 b.f) ∧ wc.cell? ⟨w.heap.size + 1, 1, none⟩ = some (.int .i64 b.g) ∧ wc.cell? ⟨w.heap.size + 1, 2, none⟩ = some (.int .i64 b.c) ∧ wc.cell? ⟨w.heap.size + 2, 0, none⟩ = some (.int .i64 c.f) ∧ wc.cell? ⟨w.heap.size + 2, 1, none⟩ = some (.int .i64 c.g) ∧ wc.cell? ⟨w.heap.size + 2, 2, none⟩ = some (.int .i64 c.c) ∧ Below w.heap.size w wc
theorem SL.next {w w1 w2 : World} {a b c : Entry} (h : SL w a b c w1) (k : Below w1.heap.size w1 w2) : SL w a b c w2 := by
  have bs5 := bsome k
  obtain ⟨a0, a1, a2, b0, b1, b2, c0, c1, c2, hB⟩ := h
  exact ⟨bs5 _ _ a0, bs5 _ _ a1, bs5 _ _ a2, bs5 _ _ b0, bs5 _ _ b1, bs5 _ _ b2, bs5 _ _ c0, bs5 _ _ c1, bs5 _ _ c2, below_next hB k⟩
set_option maxRecDepth 100000 in
set_option maxHeartbeats 4000000 in
theorem less_walk (w : World) (a b c : Entry) : Calls Try.prog 5 #[.agg #[.int .i64 a.f, .int .i64 a.g, .int .i64 a.c], .agg #[.int .i64 b.f, .int .i64 b.g, .int .i64 b.c], .agg #[.int .i64 c.f, .int .i64 c.g, .int .i64 c.c]] w fun e w' => e = .returned (.bool true) ∧ Below w.heap.size w w' := by
  go_enter Try.func5, Try.ntmps5
  go_wp2_with fail
  refine (awake_yes _).mono ?_
  rintro e w1 ⟨rfl, hb⟩
  have hc1 := Chg.of_below (F := Non) hb
  have za := hc1.blk (((Chg.refl Non _).alloc (.cells #[.int .i64 c.f, .int .i64 c.g, .int .i64 c.c] 27)).blk (((Chg.refl Non _).alloc (.cells #[.int .i64 b.f, .int .i64 b.g, .int .i64 b.c] 27)).blk (blk_new w (.cells #[.int .i64 a.f, .int .i64 a.g, .int .i64 a.c] 27)) (fun e => e)) (fun e => e)) (fun e => e)
  have zb := hc1.blk (((Chg.refl Non _).alloc (.cells #[.int .i64 c.f, .int .i64 c.g, .int .i64 c.c] 27)).blk (blk_new (w.alloc (.cells #[.int .i64 a.f, .int .i64 a.g, .int .i64 a.c] 27)) (.cells #[.int .i64 b.f, .int .i64 b.g, .int .i64 b.c] 27)) (fun e => e)) (fun e => e)
  have zc := hc1.blk (blk_new ((w.alloc (.cells #[.int .i64 a.f, .int .i64 a.g, .int .i64 a.c] 27)).alloc (.cells #[.int .i64 b.f, .int .i64 b.g, .int .i64 b.c] 27)) (.cells #[.int .i64 c.f, .int .i64 c.g, .int .i64 c.c] 27)) (fun e => e)
  have n1 : (w.alloc (.cells #[.int .i64 a.f, .int .i64 a.g, .int .i64 a.c] 27)).heap.size = w.heap.size + 1 := by simp
  have n2 : ((w.alloc (.cells #[.int .i64 a.f, .int .i64 a.g, .int .i64 a.c] 27)).alloc (.cells #[.int .i64 b.f, .int .i64 b.g, .int .i64 b.c] 27)).heap.size = w.heap.size + 2 := by simp
  rw [n1] at zb
  rw [n2] at zc
  have a0 : w1.cell? ⟨w.heap.size, 0, none⟩ = some (.int .i64 a.f) := by rw [blk_cell za]; rfl
  have a1 : w1.cell? ⟨w.heap.size, 1, none⟩ = some (.int .i64 a.g) := by rw [blk_cell za]; rfl
  have a2 : w1.cell? ⟨w.heap.size, 2, none⟩ = some (.int .i64 a.c) := by rw [blk_cell za]; rfl
  have b0 : w1.cell? ⟨w.heap.size + 1, 0, none⟩ = some (.int .i64 b.f) := by rw [blk_cell zb]; rfl
  have b1 : w1.cell? ⟨w.heap.size + 1, 1, none⟩ = some (.int .i64 b.g) := by rw [blk_cell zb]; rfl
  have b2 : w1.cell? ⟨w.heap.size + 1, 2, none⟩ = some (.int .i64 b.c) := by rw [blk_cell zb]; rfl
  have c0 : w1.cell? ⟨w.heap.size + 2, 0, none⟩ = some (.int .i64 c.f) := by rw [blk_cell zc]; rfl
  have c1 : w1.cell? ⟨w.heap.size + 2, 1, none⟩ = some (.int .i64 c.g) := by rw [blk_cell zc]; rfl
  have c2 : w1.cell? ⟨w.heap.size + 2, 2, none⟩ = some (.int .i64 c.c) := by rw [blk_cell zc]; rfl
  have hB : Below w.heap.size w w1 := below_next (below_alloc (below_alloc (below_alloc (Below.refl w.heap.size w) (.cells #[.int .i64 a.f, .int .i64 a.g, .int .i64 a.c] 27)) (.cells #[.int .i64 b.f, .int .i64 b.g, .int .i64 b.c] 27)) (.cells #[.int .i64 c.f, .int .i64 c.g, .int .i64 c.c] 27)) hb
  clear hb hc1 za zb zc n1 n2
  go_upto_region 3 with fail
  go_cut [7, 8] from 11 to 16 (fun v7 v8 wc => v7 = .bool (lessE a b) ∧ v8 = .bool (lessE b a) ∧ wc.cell? ⟨w.heap.size, 0, none⟩ = some (.int .i64 a.f) ∧ wc.cell? ⟨w.heap.size, 1, none⟩ = some (.int .i64 a.g) ∧ wc.cell? ⟨w.heap.size, 2, none⟩ = some (.int .i64 a.c) ∧ wc.cell? ⟨w.heap.size + 1, 0, none⟩ = some (.int .i64 b.f) ∧ wc.cell? ⟨w.heap.size + 1, 1, none⟩ = some (.int .i64 b.g) ∧ wc.cell? ⟨w.heap.size + 1, 2, none⟩ = some (.int .i64 b.c) ∧ wc.cell? ⟨w.heap.size + 2, 0, none⟩ = some (.int .i64 c.f) ∧ wc.cell? ⟨w.heap.size + 2, 1, none⟩ = some (.int .i64 c.g) ∧ wc.cell? ⟨w.heap.size + 2, 2, none⟩ = some (.int .i64 c.c) ∧ Below w.heap.size w wc)
  case first =>
    go_region_held3 (fun wc => wc.cell? ⟨w.heap.size, 0, none⟩ = some (.int .i64 a.f) ∧ wc.cell? ⟨w.heap.size, 1, none⟩ = some (.int .i64 a.g) ∧ wc.cell? ⟨w.heap.size, 2, none⟩ = some (.int .i64 a.c) ∧ wc.cell? ⟨w.heap.size + 1, 0, none⟩ = some (.int .i64 b.f) ∧ wc.cell? ⟨w.heap.size + 1, 1, none⟩ = some (.int .i64 b.g) ∧ wc.cell? ⟨w.heap.size + 1, 2, none⟩ = some (.int .i64 b.c) ∧ wc.cell? ⟨w.heap.size + 2, 0, none⟩ = some (.int .i64 c.f) ∧ wc.cell? ⟨w.heap.size + 2, 1, none⟩ = some (.int .i64 c.g) ∧ wc.cell? ⟨w.heap.size + 2, 2, none⟩ = some (.int .i64 c.c) ∧ Below w.heap.size w wc)
      (first | exact ⟨a0, a1, a2, b0, b1, b2, c0, c1, c2, below_drew hB⟩ | exact SL.next (w1 := w1.drew) ⟨a0, a1, a2, b0, b1, b2, c0, c1, c2, below_drew hB⟩ hb5 | exact SL.next (by assumption) hb5 | go_keep)
      (first | (go_at_call 16; refine (less_ok _ _ _).mono ?_; rintro e w5 ⟨rfl, hb5⟩; have bs5 := bsome hb5))
    all_goals
      go_wp2_with fail
      go_meet
      exact ⟨rfl, rfl, (by assumption : SL w a b c _)⟩
  case rest =>
    obtain ⟨rfl, rfl, a0, a1, a2, b0, b1, b2, c0, c1, c2, hB⟩ := hcut
    have HW := Aside0.mk (show SL w a b c wc from ⟨a0, a1, a2, b0, b1, b2, c0, c1, c2, hB⟩)
    clear hB
    rcases tri a b with ⟨t1, t2, t3⟩ | ⟨t1, t2, t3⟩ | ⟨t1, t2, t3⟩
    · rw [t1, t2]
      have T1 := Aside0.mk t1
      have hn := ne_cases t3
      clear t1 t2 t3
      go_wp2_with fail
      refine (less2_ok _ a b).mono ?_
      rintro e w2 ⟨rfl, hb⟩
      rw [T1.out]
      have HW2 := Aside0.mk (HW.out.next hb)
      obtain ⟨d0, d1, d2, e0, e1, e2, f0, f1, f2, _⟩ := HW2.out
      clear hb a0 a1 a2 b0 b1 b2 c0 c1 c2
      rcases hn with h1 | ⟨h1, h2⟩ | ⟨h1, h2, h3⟩
      all_goals
        go_wp2_with fail
        refine (less_ok _ b c).mono ?_
        rintro e w3 ⟨rfl, hb⟩
        have HW3 := Aside0.mk (HW2.out.next hb)
        try clear h1
        try clear h2
        try clear h3
        obtain ⟨a0, a1, a2, b0, b1, b2, c0, c1, c2, _⟩ := HW3.out
        clear hb d0 d1 d2 e0 e1 e2 f0 f1 f2
        cases t4 : lessE b c
        · go_wp2
          go_ret
          exact ⟨rfl, HW3.out.2.2.2.2.2.2.2.2.2⟩
        · have T4 := Aside0.mk (less_trans T1.out t4)
          clear t4
          go_wp2_with fail
          refine (less_ok _ a c).mono ?_
          rintro e w4 ⟨rfl, hb⟩
          rw [T4.out]
          have HW4 := Aside0.mk (HW3.out.next hb)
          clear hb
          go_wp2
          go_ret
          exact ⟨rfl, HW4.out.2.2.2.2.2.2.2.2.2⟩
    · rw [t1, t2]
      have T1 := Aside0.mk t1
      have hn := ne_cases t3
      clear t1 t2 t3
      go_wp2_with fail
      refine (less2_ok _ a b).mono ?_
      rintro e w2 ⟨rfl, hb⟩
      rw [T1.out]
      have HW2 := Aside0.mk (HW.out.next hb)
      obtain ⟨d0, d1, d2, e0, e1, e2, f0, f1, f2, _⟩ := HW2.out
      clear hb a0 a1 a2 b0 b1 b2 c0 c1 c2
      rcases hn with h1 | ⟨h1, h2⟩ | ⟨h1, h2, h3⟩
      all_goals
        go_wp2
        go_ret
        exact ⟨rfl, HW2.out.2.2.2.2.2.2.2.2.2⟩
    · rw [t1, t2]
      have T1 := Aside0.mk t1
      clear t1 t2
      subst t3
      go_wp2_with fail
      refine (less2_ok _ a a).mono ?_
      rintro e w2 ⟨rfl, hb⟩
      rw [T1.out]
      have HW2 := Aside0.mk (HW.out.next hb)
      obtain ⟨d0, d1, d2, e0, e1, e2, f0, f1, f2, _⟩ := HW2.out
      clear hb a0 a1 a2 b0 b1 b2 c0 c1 c2
      go_wp2
      go_ret
      exact ⟨rfl, HW2.out.2.2.2.2.2.2.2.2.2⟩
end Go.Proofs.Ytplimabdnpepjaa
