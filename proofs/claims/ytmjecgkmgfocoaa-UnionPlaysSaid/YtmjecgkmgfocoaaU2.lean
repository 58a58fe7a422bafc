/- The union in memory; Len, Sets. Conditions: what lies in memory as told. -/
import Derived.Test.YtmjecgkmgfocoaaProg
import Derived.Test.YtmjecgkmgfocoaaFlat
import Derived.Test.YtmjecgkmgfocoaaU1
namespace Go.Proofs.Ytmjecgkmgfocoaa
open Go.RowKit Go.Proofs.YtmjecgkmgfocoaaW.PrintWords Lb

abbrev kdN : Kd Nat := Kd.scalar (fun x : Nat => .int .i32 (x : Int)) (fun _ => rfl)
/-- A union: block b, its rows in g1, g2, g3. -/
structure Un (w : World) (b g1 g2 g3 n : Nat) (A1 A2 A3 : Option Addr) (c1 c2 c3 : Nat) (up sz le : List Nat) (sets : Int) : Prop where
  l0 : b < w.heap.size
  l1 : g1 < w.heap.size
  l2 : g2 < w.heap.size
  l3 : g3 < w.heap.size
  ne : 0 < n → b ≠ g1 ∧ b ≠ g2 ∧ b ≠ g3 ∧ g1 ≠ g2 ∧ g1 ≠ g3 ∧ g2 ≠ g3
  blk : w.heap[b]? = some (.cells #[.slice A1 n c1, .slice A2 n c2, .slice A3 n c3, .int .i64 sets] 38 (0, 0))
  r1 : kdN.R 21 w 0 (fun k => k = g1) (.slice A1 n c1) up
  r2 : kdN.R 21 w 0 (fun k => k = g2) (.slice A2 n c2) sz
  r3 : kdN.R 21 w 0 (fun k => k = g3) (.slice A3 n c3) le
section
variable {w w1 : World} {b g1 g2 g3 n : Nat} {A1 A2 A3 : Option Addr} {c1 c2 c3 : Nat} {up sz le : List Nat} {sets : Int}
theorem Un.keep {G : Nat → Prop} (h : Un w b g1 g2 g3 n A1 A2 A3 c1 c2 c3 up sz le sets) (hc : Chg G w w1) (d0 : ¬ G b) (d1 : ¬ G g1) (d2 : ¬ G g2) (d3 : ¬ G g3) : Un w1 b g1 g2 g3 n A1 A2 A3 c1 c2 c3 up sz le sets :=
  ⟨Nat.lt_of_lt_of_le h.l0 hc.size, Nat.lt_of_lt_of_le h.l1 hc.size, Nat.lt_of_lt_of_le h.l2 hc.size, Nat.lt_of_lt_of_le h.l3 hc.size, h.ne, hc.blk h.blk d0, R_chg h.r1 hc (by rintro k rfl; exact d1), R_chg h.r2 hc (by rintro k rfl; exact d2), R_chg h.r3 hc (by rintro k rfl; exact d3)⟩
theorem Un.len (h : Un w b g1 g2 g3 n A1 A2 A3 c1 c2 c3 up sz le sets) : up.length = n ∧ sz.length = n ∧ le.length = n ∧ n ≤ c1 ∧ n ≤ c2 ∧ n ≤ c3 :=
  ⟨(Kd.R_reads' h.r1).1.symm, (Kd.R_reads' h.r2).1.symm, (Kd.R_reads' h.r3).1.symm, (Kd.R_reads' h.r1).2.1, (Kd.R_reads' h.r2).2.1, (Kd.R_reads' h.r3).2.1⟩
theorem Un.c0 (h : Un w b g1 g2 g3 n A1 A2 A3 c1 c2 c3 up sz le sets) : w.cell? ⟨b, 0, none⟩ = some (.slice A1 n c1) := by rw [blk_cell h.blk]; rfl
theorem Un.c1' (h : Un w b g1 g2 g3 n A1 A2 A3 c1 c2 c3 up sz le sets) : w.cell? ⟨b, 1, none⟩ = some (.slice A2 n c2) := by rw [blk_cell h.blk]; rfl
theorem Un.c2' (h : Un w b g1 g2 g3 n A1 A2 A3 c1 c2 c3 up sz le sets) : w.cell? ⟨b, 2, none⟩ = some (.slice A3 n c3) := by rw [blk_cell h.blk]; rfl
theorem Un.c3' (h : Un w b g1 g2 g3 n A1 A2 A3 c1 c2 c3 up sz le sets) : w.cell? ⟨b, 3, none⟩ = some (.int .i64 sets) := by rw [blk_cell h.blk]; rfl
theorem Un.at1 (h : Un w b g1 g2 g3 n A1 A2 A3 c1 c2 c3 up sz le sets) {i : Nat} (hi : i < n) : A1 = some ⟨g1, 0, none⟩ ∧ w.cell? ⟨g1, i, none⟩ = some (.int .i32 (at0 up i : Nat)) ∧ w.frozen? ⟨g1, i, none⟩ = false := by
  obtain ⟨g, e, hg, a1, a2, _⟩ := R_elem 0 h.r1 i (by rw [h.len.1]; exact hi)
  obtain rfl : g = g1 := hg
  exact ⟨e, a1, a2⟩
theorem Un.at2 (h : Un w b g1 g2 g3 n A1 A2 A3 c1 c2 c3 up sz le sets) {i : Nat} (hi : i < n) : A2 = some ⟨g2, 0, none⟩ ∧ w.cell? ⟨g2, i, none⟩ = some (.int .i32 (at0 sz i : Nat)) ∧ w.frozen? ⟨g2, i, none⟩ = false := by
  obtain ⟨g, e, hg, a1, a2, _⟩ := R_elem 0 h.r2 i (by rw [h.len.2.1]; exact hi)
  obtain rfl : g = g2 := hg
  exact ⟨e, a1, a2⟩
theorem Un.at3 (h : Un w b g1 g2 g3 n A1 A2 A3 c1 c2 c3 up sz le sets) {i : Nat} (hi : i < n) : A3 = some ⟨g3, 0, none⟩ ∧ w.cell? ⟨g3, i, none⟩ = some (.int .i32 (at0 le i : Nat)) ∧ w.frozen? ⟨g3, i, none⟩ = false := by
  obtain ⟨g, e, hg, a1, a2, _⟩ := R_elem 0 h.r3 i (by rw [h.len.2.2.1]; exact hi)
  obtain rfl : g = g3 := hg
  exact ⟨e, a1, a2⟩
theorem chg_one (w : World) (p : Addr) (u : Value) : Chg (fun k => k = p.block) w (w.setCell p u) := (Chg.refl (fun k => k = p.block) w).set (.inl rfl) u
theorem Un.put1 (h : Un w b g1 g2 g3 n A1 A2 A3 c1 c2 c3 up sz le sets) {i : Nat} (hi : i < n) (u : Nat) : Un (w.setCell ⟨g1, i, none⟩ (.int .i32 (u : Int))) b g1 g2 g3 n A1 A2 A3 c1 c2 c3 (up.set i u) sz le sets := by
  obtain ⟨g, e, hg, _, _, a3⟩ := R_elem 0 h.r1 i (by rw [h.len.1]; exact hi)
  obtain rfl : g = g1 := hg
  have hc := chg_one w ⟨g, i, none⟩ (.int .i32 (u : Int))
  obtain ⟨n1, n2, n3, n4, n5, n6⟩ := h.ne (by omega)
  exact ⟨Nat.lt_of_lt_of_le h.l0 hc.size, Nat.lt_of_lt_of_le h.l1 hc.size, Nat.lt_of_lt_of_le h.l2 hc.size, Nat.lt_of_lt_of_le h.l3 hc.size, h.ne, hc.blk h.blk n1, a3 u, R_chg h.r2 hc (by rintro k rfl; exact Ne.symm n4), R_chg h.r3 hc (by rintro k rfl; exact Ne.symm n5)⟩
theorem Un.put2 (h : Un w b g1 g2 g3 n A1 A2 A3 c1 c2 c3 up sz le sets) {i : Nat} (hi : i < n) (u : Nat) : Un (w.setCell ⟨g2, i, none⟩ (.int .i32 (u : Int))) b g1 g2 g3 n A1 A2 A3 c1 c2 c3 up (sz.set i u) le sets := by
  obtain ⟨g, e, hg, _, _, a3⟩ := R_elem 0 h.r2 i (by rw [h.len.2.1]; exact hi)
  obtain rfl : g = g2 := hg
  have hc := chg_one w ⟨g, i, none⟩ (.int .i32 (u : Int))
  obtain ⟨n1, n2, n3, n4, n5, n6⟩ := h.ne (by omega)
  exact ⟨Nat.lt_of_lt_of_le h.l0 hc.size, Nat.lt_of_lt_of_le h.l1 hc.size, Nat.lt_of_lt_of_le h.l2 hc.size, Nat.lt_of_lt_of_le h.l3 hc.size, h.ne, hc.blk h.blk n2, R_chg h.r1 hc (by rintro k rfl; exact n4), a3 u, R_chg h.r3 hc (by rintro k rfl; exact Ne.symm n6)⟩
theorem Un.put3 (h : Un w b g1 g2 g3 n A1 A2 A3 c1 c2 c3 up sz le sets) {i : Nat} (hi : i < n) (u : Nat) : Un (w.setCell ⟨g3, i, none⟩ (.int .i32 (u : Int))) b g1 g2 g3 n A1 A2 A3 c1 c2 c3 up sz (le.set i u) sets := by
  obtain ⟨g, e, hg, _, _, a3⟩ := R_elem 0 h.r3 i (by rw [h.len.2.2.1]; exact hi)
  obtain rfl : g = g3 := hg
  have hc := chg_one w ⟨g, i, none⟩ (.int .i32 (u : Int))
  obtain ⟨n1, n2, n3, n4, n5, n6⟩ := h.ne (by omega)
  exact ⟨Nat.lt_of_lt_of_le h.l0 hc.size, Nat.lt_of_lt_of_le h.l1 hc.size, Nat.lt_of_lt_of_le h.l2 hc.size, Nat.lt_of_lt_of_le h.l3 hc.size, h.ne, hc.blk h.blk n3, R_chg h.r1 hc (by rintro k rfl; exact n5), R_chg h.r2 hc (by rintro k rfl; exact n6), a3 u⟩
theorem Un.putS (h : Un w b g1 g2 g3 n A1 A2 A3 c1 c2 c3 up sz le sets) (hn : 0 < n) (u : Int) : Un (w.setCell ⟨b, 3, none⟩ (.int .i64 u)) b g1 g2 g3 n A1 A2 A3 c1 c2 c3 up sz le u := by
  have hc := chg_one w ⟨b, 3, none⟩ (.int .i64 u)
  obtain ⟨n1, n2, n3, n4, n5, n6⟩ := h.ne hn
  exact ⟨Nat.lt_of_lt_of_le h.l0 hc.size, Nat.lt_of_lt_of_le h.l1 hc.size, Nat.lt_of_lt_of_le h.l2 hc.size, Nat.lt_of_lt_of_le h.l3 hc.size, h.ne, blk_set h.blk 3 (.int .i64 u), R_chg h.r1 hc (by rintro k rfl; exact Ne.symm n1), R_chg h.r2 hc (by rintro k rfl; exact Ne.symm n2), R_chg h.r3 hc (by rintro k rfl; exact Ne.symm n3)⟩
theorem Un.drew (h : Un w b g1 g2 g3 n A1 A2 A3 c1 c2 c3 up sz le sets) : Un w.drew b g1 g2 g3 n A1 A2 A3 c1 c2 c3 up sz le sets :=
  h.keep ((Chg.refl Non w).drew) (fun e => e) (fun e => e) (fun e => e) (fun e => e)
theorem Un.below (h : Un w b g1 g2 g3 n A1 A2 A3 c1 c2 c3 up sz le sets) (hb : Below w.heap.size w w1) : Un w1 b g1 g2 g3 n A1 A2 A3 c1 c2 c3 up sz le sets :=
  h.keep (Chg.of_below (F := Non) hb) (fun e => e) (fun e => e) (fun e => e) (fun e => e)

theorem len_in (h : Un w b g1 g2 g3 n A1 A2 A3 c1 c2 c3 up sz le sets) : Calls Try.prog 21 #[.pointer (some ⟨b, 0, none⟩)] w fun e w' => e = .returned (.int .i64 n) ∧ w = w' := by
  have h0 := h.c0
  clear h
  go_enter Try.func21, Try.ntmps21
  go_wp2
  go_ret
  exact ⟨rfl, rfl⟩
theorem len_nil (w : World) : Calls Try.prog 21 #[.pointer none] w fun e w' => e = .returned (.int .i64 0) ∧ w = w' := by
  go_enter Try.func21, Try.ntmps21
  go_wp2
  go_ret
  exact ⟨rfl, rfl⟩
theorem sets_in (h : Un w b g1 g2 g3 n A1 A2 A3 c1 c2 c3 up sz le sets) : Calls Try.prog 11 #[.pointer (some ⟨b, 0, none⟩)] w fun e w' => e = .returned (.int .i64 sets) ∧ w = w' := by
  have h0 := h.c3'
  clear h
  go_enter Try.func11, Try.ntmps11
  go_wp2
  go_ret
  exact ⟨rfl, rfl⟩
theorem sets_nil (w : World) : Calls Try.prog 11 #[.pointer none] w fun e w' => e = .returned (.int .i64 0) ∧ w = w' := by
  go_enter Try.func11, Try.ntmps11
  go_wp2
  go_ret
  exact ⟨rfl, rfl⟩
theorem top_nil (w : World) (a : Int) : Calls Try.prog 23 #[.pointer none, .int .i64 a] w fun e w' => e = .returned (.int .i64 (-1)) ∧ w = w' := by
  by_cases ha : a < 0
  · go_enter Try.func23, Try.ntmps23
    go_wp2
    go_ret
    exact ⟨rfl, rfl⟩
  · have ha' : 0 ≤ a := by omega
    clear ha
    go_enter Try.func23, Try.ntmps23
    go_wp2_with fail
    refine (len_nil _).mono ?_
    rintro e w1 ⟨rfl, rfl⟩
    go_wp2
    go_ret
    exact ⟨rfl, rfl⟩
theorem top_out (h : Un w b g1 g2 g3 n A1 A2 A3 c1 c2 c3 up sz le sets) (a : Int) (ha : ¬ (0 ≤ a ∧ a < (n : Int))) : Calls Try.prog 23 #[.pointer (some ⟨b, 0, none⟩), .int .i64 a] w fun e w' => e = .returned (.int .i64 (-1)) ∧ w = w' := by
  have H := Aside0.mk h
  clear h
  by_cases h0 : a < 0
  · clear ha
    go_enter Try.func23, Try.ntmps23
    go_wp2
    go_ret
    exact ⟨rfl, rfl⟩
  · have ha' : 0 ≤ a := by omega
    have hn : (n : Int) ≤ a := by omega
    clear ha h0
    go_enter Try.func23, Try.ntmps23
    go_wp2_with fail
    refine (len_in H.out).mono ?_
    rintro e w1 ⟨rfl, rfl⟩
    go_wp2
    go_ret
    exact ⟨rfl, rfl⟩
end
end Go.Proofs.Ytmjecgkmgfocoaa
