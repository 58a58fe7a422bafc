/- The contracts of an arena of pairs: New, Take, Free, At, Len, Slots. Conditions: what lies in memory as told. -/
import Derived.Test.YtckimhfbbfpddaaProg
import Derived.Test.YtckimhfbbfpddaaA0
import Derived.Deep.DeepMust
import Derived.Deep.RegionLaw
import Derived.BigRegion
import Derived.ChangeAlike
namespace Go.Proofs.Ytckimhfbbfpddaa
open Go.RowKit Go.Proofs.YtckimhfbbfpddaaW.PrintWords Lb

theorem info65 : (Try.prog.info? 65).map (fun i => (i.zero, i.size, i.bytes)) = some (some (.agg #[.int .i64 0, .int .i64 0, .bool false, .int .i32 0]), 4, 24) := by kernel_rfl
def encK (s : Slot (Int × Int)) : List Value := [.int .i64 s.x.1, .int .i64 s.x.2, .bool s.taken, .int .i32 s.next]
theorem encK_len (s : Slot (Int × Int)) : (encK s).length = 4 := rfl
theorem encK_one (s : Slot (Int × Int)) : ∀ u ∈ encK s, u.oneCell' = true := by
  intro u hu
  simp [encK] at hu
  rcases hu with rfl | rfl | rfl | rfl <;> rfl
abbrev kdK : Kd (Slot (Int × Int)) := flatK 4 encK encK_len encK_one

/-- An arena: block b, in the blocks F, its slots' slice v. -/
structure ArK (w : World) (F : Nat → Prop) (b : Nat) (s : Ar (Int × Int)) (A : Option Addr) (c : Nat) : Prop where
  lt : ∀ k, F k → k < w.heap.size
  hb : F b
  blk : w.heap[b]? = some (.cells #[.slice A s.slots.length c, .int .i32 s.free, .int .i64 s.n] 63 (0, 0))
  row : kdK.R 65 w 0 F (.slice A s.slots.length c) s.slots
def ArenaK (w : World) (F : Nat → Prop) (b : Nat) (s : Ar (Int × Int)) : Prop := ∃ A c, ArK w F b s A c

theorem ArenaK.keep {w w1 : World} {F G : Nat → Prop} {b : Nat} {s : Ar (Int × Int)} (h : ArenaK w F b s) (hc : Chg G w w1) (hd : ∀ k, F k → ¬ G k) : ArenaK w1 F b s := by
  obtain ⟨A, c, h⟩ := h
  exact ⟨A, c, fun k hk => Nat.lt_of_lt_of_le (h.lt k hk) hc.size, h.hb, hc.blk h.blk (hd b h.hb), R_chg h.row hc hd⟩

section
variable {w : World} {F : Nat → Prop} {b : Nat} {s : Ar (Int × Int)} {A : Option Addr} {c g k : Nat} {x : Slot (Int × Int)}
theorem ArK.ne (h : ArK w F b s (some ⟨g, 0, none⟩) c) (hx : s.slots[k]? = some x) : ¬ g = b := by
  intro e
  subst e
  have hk := (List.getElem?_eq_some_iff.1 hx).1
  obtain ⟨cells, hc⟩ := Kd.R_typed h.row g (by simp [Value.ownBlock])
  rw [h.blk] at hc
  cases hc
theorem ArK.set_free (h : ArK w F b s A c) (f : Int) : ArK (w.setCell ⟨b, 1, none⟩ (.int .i32 f)) F b { s with free := f } A c :=
  ⟨fun k hk => by simpa [World.setCell] using h.lt k hk, h.hb, blk_set h.blk 1 _, Kd.R_set h.row h.blk (by simp [flatK]) 1 _⟩
theorem ArK.set_n (h : ArK w F b s A c) (n : Int) : ArK (w.setCell ⟨b, 2, none⟩ (.int .i64 n)) F b { s with n := n } A c :=
  ⟨fun k hk => by simpa [World.setCell] using h.lt k hk, h.hb, blk_set h.blk 2 _, Kd.R_set h.row h.blk (by simp [flatK]) 2 _⟩
theorem ArK.set_cell (h : ArK w F b s (some ⟨g, 0, none⟩) c) (hx : s.slots[k]? = some x) (j : Nat) (u : Value) (y : Slot (Int × Int)) (hj : j < 4) (he : encK y = (encK x).set j u) :
    ArK (w.setCell ⟨g, k * 4 + j, none⟩ u) F b { s with slots := s.slots.set k y } (some ⟨g, 0, none⟩) c :=
  ⟨fun k hk => by simpa [World.setCell] using h.lt k hk, h.hb, by rw [List.length_set]; exact blk_far h.blk (fun e => h.ne hx e.symm) _, by rw [List.length_set]; exact F_store h.row k j x y u hx hj he⟩
theorem ArK.set_slot (h : ArK w F b s (some ⟨g, 0, none⟩) c) (hx : s.slots[k]? = some x) (y : (Int × Int)) (t : Bool) (n : Int) :
    ArK ((((w.setCell ⟨g, k * 4, none⟩ (.int .i64 y.1)).setCell ⟨g, k * 4 + 1, none⟩ (.int .i64 y.2)).setCell ⟨g, k * 4 + 2, none⟩ (.bool t)).setCell ⟨g, k * 4 + 3, none⟩ (.int .i32 n)) F b { s with slots := s.slots.set k ⟨y, t, n⟩ } (some ⟨g, 0, none⟩) c := by
  have hk := (List.getElem?_eq_some_iff.1 hx).1
  have h1 := h.set_cell hx 0 (.int .i64 y.1) ⟨(y.1, x.x.2), x.taken, x.next⟩ (by omega) rfl
  have h2 := h1.set_cell (k := k) (x := ⟨(y.1, x.x.2), x.taken, x.next⟩) (by simp [hk]) 1 (.int .i64 y.2) ⟨y, x.taken, x.next⟩ (by omega) rfl
  have h3 := h2.set_cell (k := k) (x := ⟨y, x.taken, x.next⟩) (by simp [hk]) 2 (.bool t) ⟨y, t, x.next⟩ (by omega) rfl
  have h4 := h3.set_cell (k := k) (x := ⟨y, t, x.next⟩) (by simp [hk]) 3 (.int .i32 n) ⟨y, t, n⟩ (by omega) rfl
  simpa [List.set_set] using h4
theorem ArK.drew (h : ArK w F b s A c) : ArK w.drew F b s A c := ⟨h.lt, h.hb, h.blk, Kd.R_drew h.row⟩
theorem ArK.drewN (h : ArK w F b s A c) (n : Nat) : ArK (w.drewN n) F b s A c := ⟨h.lt, h.hb, h.blk, Kd.R_drewN h.row n⟩
end

theorem newK (w : World) : Calls Try.prog 8 #[] w fun e w' => e = .returned (.pointer (some ⟨w.heap.size, 0, none⟩)) ∧ w' = w.alloc (.cells #[.slice none 0 0, .int .i32 0, .int .i64 0] 63) := by
  go_enter Try.func8, Try.ntmps8
  go_wp2
  go_ret
  exact ⟨rfl, rfl⟩
theorem newK_at (w : World) : ArenaK (w.alloc (.cells #[.slice none 0 0, .int .i32 0, .int .i64 0] 63)) (fun k => k = w.heap.size) w.heap.size ⟨[], 0, 0⟩ :=
  ⟨none, 0, fun k hk => by subst hk; simp, rfl, blk_new _ _, Kd.R_nil _ _ _ _ _⟩

theorem slotsK {w : World} {F : Nat → Prop} {b : Nat} {s : Ar (Int × Int)} (h : ArenaK w F b s) : Calls Try.prog 13 #[.pointer (some ⟨b, 0, none⟩)] w fun e w' => e = .returned (.int .i64 s.slots.length) ∧ w = w' := by
  obtain ⟨A, c, h⟩ := h
  have h0 : w.cell? ⟨b, 0, none⟩ = some (.slice A s.slots.length c) := by rw [blk_cell h.blk]; rfl
  go_enter Try.func13, Try.ntmps13
  go_wp2
  go_ret
  exact ⟨rfl, rfl⟩

set_option maxHeartbeats 1000000 in
theorem atK_no {w : World} {F : Nat → Prop} {b : Nat} {s : Ar (Int × Int)} (h : ArenaK w F b s) (i : Int) (hi0 : -2147483648 ≤ i) (hi1 : i ≤ 2147483647) (_hL : s.slots.length ≤ 1000000) (hn : isS s i = false) :
    Calls Try.prog 11 #[.pointer (some ⟨b, 0, none⟩), .int .i32 i] w fun e w' => e = .returned (.pointer none) ∧ w = w' := by
  obtain ⟨A, c, h⟩ := h
  have h0 : w.cell? ⟨b, 0, none⟩ = some (.slice A s.slots.length c) := by rw [blk_cell h.blk]; rfl
  have HN := Aside0.mk hn
  clear hn
  by_cases h1 : i < 1
  · go_enter Try.func11, Try.ntmps11
    go_wp2
    go_ret
    exact ⟨rfl, rfl⟩
  · by_cases h2 : (s.slots.length : Int) < i
    · go_enter Try.func11, Try.ntmps11
      go_wp2
      go_ret
      exact ⟨rfl, rfl⟩
    · obtain ⟨k, rfl⟩ : ∃ k : Nat, i = (k : Int) + 1 := ⟨(i - 1).toNat, by omega⟩
      obtain ⟨x, hx⟩ : ∃ x, s.slots[k]? = some x := ⟨_, List.getElem?_eq_getElem (by omega)⟩
      obtain ⟨g, rfl, hg, _, hcell, hfro⟩ := F_elem h.row k x hx
      have ht : x.taken = false := is_out HN.out hx
      have hc1 : w.cell? ⟨g, k * 4 + 2, none⟩ = some (.bool false) := by rw [← ht]; exact hcell 2 _ rfl
      have hk : (k : Int) < (s.slots.length : Int) := by omega
      clear hcell hx h hfro ht HN
      go_enter Try.func11, Try.ntmps11
      go_wp2
      go_ret
      exact ⟨rfl, rfl⟩

set_option maxHeartbeats 1000000 in
theorem atK_yes {w : World} {F : Nat → Prop} {b : Nat} {s : Ar (Int × Int)} {A : Option Addr} {c g : Nat} (h : ArK w F b s A c) (hA : A = some ⟨g, 0, none⟩) (k : Nat) (x : Slot (Int × Int)) (hx : s.slots[k]? = some x) (ht : x.taken = true) (_hL : s.slots.length ≤ 1000000) :
    Calls Try.prog 11 #[.pointer (some ⟨b, 0, none⟩), .int .i32 ((k : Int) + 1)] w fun e w' => e = .returned (.pointer (some ⟨g, k * 4, none⟩)) ∧ w = w' := by
  subst hA
  have hk := (List.getElem?_eq_some_iff.1 hx).1
  have h0 : w.cell? ⟨b, 0, none⟩ = some (.slice (some ⟨g, 0, none⟩) s.slots.length c) := by rw [blk_cell h.blk]; rfl
  obtain ⟨g', hg', _, _, hcell, _⟩ := F_elem h.row k x hx
  injection hg' with hg'
  injection hg' with hg'
  subst hg'
  have hc1 : w.cell? ⟨g, k * 4 + 2, none⟩ = some (.bool true) := by rw [← ht]; exact hcell 2 _ rfl
  have hk2 : (k : Int) < (s.slots.length : Int) := by omega
  clear hcell hx h ht
  go_enter Try.func11, Try.ntmps11
  go_wp2
  go_ret
  exact ⟨rfl, rfl⟩

theorem atK_nil (w : World) (i : Int) : Calls Try.prog 11 #[.pointer none, .int .i32 i] w fun e w' => e = .returned (.pointer none) ∧ w = w' := by
  go_enter Try.func11, Try.ntmps11
  go_wp2
  go_ret
  exact ⟨rfl, rfl⟩
theorem slotsK_nil (w : World) : Calls Try.prog 13 #[.pointer none] w fun e w' => e = .returned (.int .i64 0) ∧ w = w' := by
  go_enter Try.func13, Try.ntmps13
  go_wp2
  go_ret
  exact ⟨rfl, rfl⟩
theorem freeK_nil (w : World) (i : Int) : Calls Try.prog 10 #[.pointer none, .int .i32 i] w fun e w' => e = .returned (.bool false) ∧ w = w' := by
  go_enter Try.func10, Try.ntmps10
  go_wp2_with fail
  refine (atK_nil _ _).mono ?_
  rintro e w1 ⟨rfl, rfl⟩
  go_wp2
  go_ret
  exact ⟨rfl, rfl⟩
theorem freeK_no {w : World} {F : Nat → Prop} {b : Nat} {s : Ar (Int × Int)} (h : ArenaK w F b s) (i : Int) (hi0 : -2147483648 ≤ i) (hi1 : i ≤ 2147483647) (hL : s.slots.length ≤ 1000000) (hn : isS s i = false) :
    Calls Try.prog 10 #[.pointer (some ⟨b, 0, none⟩), .int .i32 i] w fun e w' => e = .returned (.bool false) ∧ w = w' := by
  have HN := Aside0.mk hn
  have H := Aside0.mk h
  clear hn h
  go_enter Try.func10, Try.ntmps10
  go_wp2_with fail
  refine (atK_no H.out i hi0 hi1 hL HN.out).mono ?_
  rintro e w1 ⟨rfl, rfl⟩
  go_wp2
  go_ret
  exact ⟨rfl, rfl⟩

set_option maxHeartbeats 1000000 in
theorem freeK_yes {w : World} {F : Nat → Prop} {b : Nat} {s : Ar (Int × Int)} (h : ArenaK w F b s) (k : Nat) (x : Slot (Int × Int)) (hx : s.slots[k]? = some x) (ht : x.taken = true) (hL : s.slots.length ≤ 1000000) (hn0 : -1000000 ≤ s.n) (hn1 : s.n ≤ 1000000) :
    Calls Try.prog 10 #[.pointer (some ⟨b, 0, none⟩), .int .i32 ((k : Int) + 1)] w fun e w' => e = .returned (.bool true) ∧ ArenaK w' F b ⟨s.slots.set k ⟨(0, 0), false, s.free⟩, (k : Int) + 1, s.n - 1⟩ ∧ Chg F w w' := by
  obtain ⟨A, c, h⟩ := h
  have hk := (List.getElem?_eq_some_iff.1 hx).1
  obtain ⟨g, rfl, hFg, hgl, hcell, hfro⟩ := F_elem h.row k x hx
  have H := Aside0.mk h
  have HX := Aside0.mk hx
  have h0 : w.cell? ⟨b, 0, none⟩ = some (.slice (some ⟨g, 0, none⟩) s.slots.length c) := by rw [blk_cell h.blk]; rfl
  have h1 : w.cell? ⟨b, 1, none⟩ = some (.int .i32 s.free) := by rw [blk_cell h.blk]; rfl
  have h2 : w.cell? ⟨b, 2, none⟩ = some (.int .i64 s.n) := by rw [blk_cell h.blk]; rfl
  have hb1 := blk_frozen h.blk 1
  have hb2 := blk_frozen h.blk 2
  have hc0 : w.cell? ⟨g, k * 4, none⟩ = some (.int .i64 x.x.1) := hcell 0 _ rfl
  have hc01 : w.cell? ⟨g, k * 4 + 1, none⟩ = some (.int .i64 x.x.2) := hcell 1 _ rfl
  have hc1 : w.cell? ⟨g, k * 4 + 2, none⟩ = some (.bool true) := by rw [← ht]; exact hcell 2 _ rfl
  have hc2 : w.cell? ⟨g, k * 4 + 3, none⟩ = some (.int .i32 x.next) := hcell 3 _ rfl
  have hf0 := hfro (k * 4)
  have hf01 := hfro (k * 4 + 1)
  have hf1 := hfro (k * 4 + 2)
  have hf2 := hfro (k * 4 + 3)
  have hgb := h.ne hx
  have hbg : ¬ b = g := fun e => hgb e.symm
  have HA := Aside0.mk (atK_yes h rfl k x hx ht hL)
  have hk2 : (k : Int) < (s.slots.length : Int) := by omega
  clear hcell hx h ht hfro
  go_enter Try.func10, Try.ntmps10
  go_wp2_with fail
  refine HA.out.mono ?_
  rintro e w1 ⟨rfl, rfl⟩
  clear HA
  go_wp2
  go_region
  go_wp2
  go_ret
  refine ⟨rfl, ⟨_, _, (((H.out.set_slot HX.out (0, 0) false s.free).set_free ((k : Int) + 1)).set_n (s.n - 1)).drew⟩, ?_⟩
  have hg := hFg
  have hb := H.out.hb
  exact ((((((((Chg.refl F w).set (p := ⟨g, k * 4, none⟩) (.inl hg) _).set (p := ⟨g, k * 4 + 1, none⟩) (.inl hg) _).set (p := ⟨g, k * 4 + 2, none⟩) (.inl hg) _).set (p := ⟨g, k * 4 + 3, none⟩) (.inl hg) _).set (p := ⟨b, 1, none⟩) (.inl hb) _).set (p := ⟨b, 2, none⟩) (.inl hb) _).drew)

theorem ArenaK.alloc {w : World} {F : Nat → Prop} {b : Nat} {s : Ar (Int × Int)} {A : Option Addr} {c : Nat} (h : ArK w F b s A c) (o : Obj) : ArK (w.alloc o) F b s A c := by
  have hc := (Chg.refl Non w).alloc o
  exact ⟨fun k hk => Nat.lt_of_lt_of_le (h.lt k hk) hc.size, h.hb, hc.blk h.blk (fun e => e), R_chg h.row hc (fun _ _ e => e)⟩
/-- One element more, as a step of a region that draws its order. -/
theorem push_step {P : Program} {ops : Array Oper} {o : Oper} {a : Act} {Q : Exit → Act → World → Prop} {Kc : Act → World → Prop} {α : Type} (d : Kd α) {W : World} (base : Nat) (F : Nat → Prop) (hw : Region.wanted o (yielded ops a.tmps) = true) (s x : Operand) (t e : TypeId) (z : Value) (bytes : Nat)
    (ho : o.op = .call { callee := .builtin .append, args := #[s, x], argTypes := #[t, t] })
    (ht : P.underlying t = some (.slice e)) (hinfo : (P.info? e).map (fun i => (i.zero, i.size, i.bytes)) = some (some z, d.sz, bytes)) (hz : z.cells.size = d.sz) (hs0 : 0 < d.sz) (hb0 : 0 < bytes)
    (v : Value) (xs : List α) (p : α) (cs : List Value) (okp : Nat → Prop) (N : Nat) (hN : W.heap.size = N) (hs : a.eval s = v) (hx : a.eval x = .slice (some ⟨N, 0, none⟩) 1 1) (hp : d.M W base okp p cs) (hokp : ∀ k, okp k → F k ∧ some k ≠ v.ownBlock)
    (HO : d.R e W base F v xs) (hbase : base ≤ W.heap.size) (hl : (xs.length + 1) * bytes ≤ 140737488355328)
    (h : ∀ v1 w1 F1, d.R e w1 base F1 v1 (xs ++ [p]) → (∀ k, F1 k → k < w1.heap.size) → (∀ k, F1 k → F k ∨ W.heap.size ≤ k) → Chg F W w1 → Kc (a.put o.dst v1) w1) :
    if Region.wanted o (yielded ops a.tmps) = true then Oper.wp P o a (W.alloc (.cells cs.toArray e)) Kc Q else Kc (a.put o.dst undef) (W.alloc (.cells cs.toArray e)) := by
  subst hN
  have HO2 : d.R e W base (fun k => F k ∨ W.heap.size ≤ k) v xs := Kd.R_mono HO (fun k hk => .inl hk)
  refine Kd.R_append_step d (w0 := W) base hw s x t e z bytes ho ht hinfo hz hs0 hb0 v xs p cs (fun k => F k ∨ W.heap.size ≤ k) okp hs hx hp (fun k hk => ⟨.inl (hokp k hk).1, (hokp k hk).2⟩) (fun k hk => .inr hk) HO2 (Below.refl _ _) hbase hl ?_
  intro v1 w1 hR _ hg _
  exact h v1 w1 (fun k => (F k ∨ W.heap.size ≤ k) ∧ k < w1.heap.size) (R_at hR _ (fun k hk hl => ⟨hk, hl⟩)) (fun k hk => hk.2) (fun k hk => hk.1) (Chg.of_grown hg (fun k hk => HO.1 k hk))

set_option maxHeartbeats 2000000 in
theorem takeK_old {w : World} {F : Nat → Prop} {b : Nat} {s : Ar (Int × Int)} (h : ArenaK w F b s) (k : Nat) (x : Slot (Int × Int)) (y : (Int × Int)) (hx : s.slots[k]? = some x) (hf : s.free = (k : Int) + 1) (hL : s.slots.length ≤ 1000000) (hn0 : -1000000 ≤ s.n) (hn1 : s.n ≤ 1000000) :
    Calls Try.prog 9 #[.pointer (some ⟨b, 0, none⟩), .agg #[.int .i64 y.1, .int .i64 y.2]] w fun e w' => e = .returned (.int .i32 ((k : Int) + 1)) ∧ ArenaK w' F b ⟨s.slots.set k ⟨y, true, 0⟩, x.next, s.n + 1⟩ ∧ Chg F w w' := by
  obtain ⟨A, c, h⟩ := h
  have hbl : ¬ b = w.heap.size := fun e => by have := h.lt b h.hb; omega
  have h := ArenaK.alloc h (.cells #[.int .i64 y.1, .int .i64 y.2] 24)
  have hk := (List.getElem?_eq_some_iff.1 hx).1
  obtain ⟨g, rfl, hFg, hgl, hcell, hfro⟩ := F_elem h.row k x hx
  have H := Aside0.mk h
  have HX := Aside0.mk hx
  have h0 : (w.alloc (.cells #[.int .i64 y.1, .int .i64 y.2] 24)).cell? ⟨b, 0, none⟩ = some (.slice (some ⟨g, 0, none⟩) s.slots.length c) := by rw [blk_cell h.blk]; rfl
  have h1 : (w.alloc (.cells #[.int .i64 y.1, .int .i64 y.2] 24)).cell? ⟨b, 1, none⟩ = some (.int .i32 ((k : Int) + 1)) := by rw [← hf, blk_cell h.blk]; rfl
  have h2 : (w.alloc (.cells #[.int .i64 y.1, .int .i64 y.2] 24)).cell? ⟨b, 2, none⟩ = some (.int .i64 s.n) := by rw [blk_cell h.blk]; rfl
  have hb1 := blk_frozen h.blk 1
  have hb2 := blk_frozen h.blk 2
  have hx0 : (w.alloc (.cells #[.int .i64 y.1, .int .i64 y.2] 24)).cell? ⟨w.heap.size, 0, none⟩ = some (.int .i64 y.1) := by rw [blk_cell (blk_new w _)]; rfl
  have hx1 : (w.alloc (.cells #[.int .i64 y.1, .int .i64 y.2] 24)).cell? ⟨w.heap.size, 1, none⟩ = some (.int .i64 y.2) := by rw [blk_cell (blk_new w _)]; rfl
  have hc0 : (w.alloc (.cells #[.int .i64 y.1, .int .i64 y.2] 24)).cell? ⟨g, k * 4, none⟩ = some (.int .i64 x.x.1) := hcell 0 _ rfl
  have hc01 : (w.alloc (.cells #[.int .i64 y.1, .int .i64 y.2] 24)).cell? ⟨g, k * 4 + 1, none⟩ = some (.int .i64 x.x.2) := hcell 1 _ rfl
  have hc1 : (w.alloc (.cells #[.int .i64 y.1, .int .i64 y.2] 24)).cell? ⟨g, k * 4 + 2, none⟩ = some (.bool x.taken) := hcell 2 _ rfl
  have hc2 : (w.alloc (.cells #[.int .i64 y.1, .int .i64 y.2] 24)).cell? ⟨g, k * 4 + 3, none⟩ = some (.int .i32 x.next) := hcell 3 _ rfl
  have hf0 := hfro (k * 4)
  have hf01 := hfro (k * 4 + 1)
  have hf1 := hfro (k * 4 + 2)
  have hf2 := hfro (k * 4 + 3)
  have hgb := h.ne hx
  have hbg : ¬ b = g := fun e => hgb e.symm
  have hk2 : (k : Int) < (s.slots.length : Int) := by omega
  have hnz : ((k : Int) + 1 == 0) = false := beq_eq_false_iff_ne.2 (by omega)
  have hwb : ¬ w.heap.size = b := fun e => hbl e.symm
  clear hcell hx h hf hfro
  go_enter Try.func9, Try.ntmps9
  go_wp2
  go_ret
  refine ⟨rfl, ⟨_, _, (((H.out.set_n (s.n + 1)).set_free x.next).set_slot HX.out y true 0)⟩, ?_⟩
  have hg := hFg
  have hb := H.out.hb
  exact ((((((((Chg.refl F w).alloc _).set (p := ⟨b, 2, none⟩) (.inl hb) _).set (p := ⟨b, 1, none⟩) (.inl hb) _).set (p := ⟨g, k * 4, none⟩) (.inl hg) _).set (p := ⟨g, k * 4 + 1, none⟩) (.inl hg) _).set (p := ⟨g, k * 4 + 2, none⟩) (.inl hg) _).set (p := ⟨g, k * 4 + 3, none⟩) (.inl hg) _)

set_option maxHeartbeats 2000000 in
theorem takeK_new {w : World} {F : Nat → Prop} {b : Nat} {s : Ar (Int × Int)} (h : ArenaK w F b s) (y : (Int × Int)) (hf : s.free = 0) (hL : s.slots.length ≤ 1000000) (hn0 : -1000000 ≤ s.n) (hn1 : s.n ≤ 1000000) :
    Calls Try.prog 9 #[.pointer (some ⟨b, 0, none⟩), .agg #[.int .i64 y.1, .int .i64 y.2]] w fun e w' => e = .returned (.int .i32 ((s.slots.length : Int) + 1)) ∧ ∃ F', ArenaK w' F' b ⟨s.slots ++ [⟨y, true, 0⟩], 0, s.n + 1⟩ ∧ (∀ k, F' k → F k ∨ w.heap.size ≤ k) ∧ Chg F w w' := by
  obtain ⟨A, c, h⟩ := h
  have hbl : ¬ b = w.heap.size := fun e => by have := h.lt b h.hb; omega
  have hwb : ¬ w.heap.size = b := fun e => hbl e.symm
  have h := ArenaK.alloc h (.cells #[.int .i64 y.1, .int .i64 y.2] 24)
  have h3 := h.set_n (s.n + 1)
  have H := Aside0.mk h3
  have h0 : (w.alloc (.cells #[.int .i64 y.1, .int .i64 y.2] 24)).cell? ⟨b, 0, none⟩ = some (.slice A s.slots.length c) := by rw [blk_cell h.blk]; rfl
  have h1 : (w.alloc (.cells #[.int .i64 y.1, .int .i64 y.2] 24)).cell? ⟨b, 1, none⟩ = some (.int .i32 0) := by rw [← hf, blk_cell h.blk]; rfl
  have h2 : (w.alloc (.cells #[.int .i64 y.1, .int .i64 y.2] 24)).cell? ⟨b, 2, none⟩ = some (.int .i64 s.n) := by rw [blk_cell h.blk]; rfl
  have hx0 : (w.alloc (.cells #[.int .i64 y.1, .int .i64 y.2] 24)).cell? ⟨w.heap.size, 0, none⟩ = some (.int .i64 y.1) := by rw [blk_cell (blk_new w _)]; rfl
  have hx1 : (w.alloc (.cells #[.int .i64 y.1, .int .i64 y.2] 24)).cell? ⟨w.heap.size, 1, none⟩ = some (.int .i64 y.2) := by rw [blk_cell (blk_new w _)]; rfl
  have hb1 := blk_frozen h.blk 1
  have hb2 := blk_frozen h.blk 2
  have h0a : (((w.alloc (.cells #[.int .i64 y.1, .int .i64 y.2] 24)).setCell ⟨b, 2, none⟩ (.int .i64 (s.n + 1))).alloc (.cells #[.int .i64 y.1, .int .i64 y.2, .bool true, .int .i32 0] 65)).cell? ⟨b, 0, none⟩ = some (.slice A s.slots.length c) := by
    have hbk := ((Chg.refl Non ((w.alloc (.cells #[.int .i64 y.1, .int .i64 y.2] 24)).setCell ⟨b, 2, none⟩ (.int .i64 (s.n + 1)))).alloc (.cells #[.int .i64 y.1, .int .i64 y.2, .bool true, .int .i32 0] 65)).blk h3.blk (fun e => e)
    rw [blk_cell hbk]; rfl
  have HF := Aside0.mk hf
  have hR0 := Kd.R_drew (Kd.R_types h3.row h3.blk (by simp [flatK]))
  have HR := Aside0.mk hR0
  have HS := Aside0.mk (show w.heap.size + 1 = ((w.alloc (.cells #[.int .i64 y.1, .int .i64 y.2] 24)).setCell ⟨b, 2, none⟩ (.int .i64 (s.n + 1))).drew.heap.size by simp [World.setCell, World.drew])
  have HP := Aside0.mk (show kdK.M ((w.alloc (.cells #[.int .i64 y.1, .int .i64 y.2] 24)).setCell ⟨b, 2, none⟩ (.int .i64 (s.n + 1))).drew 0 (fun _ => False) ⟨y, true, 0⟩ [.int .i64 y.1, .int .i64 y.2, .bool true, .int .i32 0] from rfl)
  clear h hf h3 hR0
  go_enter Try.func9, Try.ntmps9
  go_wp2
  go_region_law (refine push_step kdK 0 (fun k => F k ∧ k ≠ b) rfl (.tmp 26) (.tmp 29) 61 65 (.agg #[.int .i64 0, .int .i64 0, .bool false, .int .i32 0]) 24 rfl Try.underlying61 info65 rfl (by decide) (by omega) (.slice A s.slots.length c) s.slots ⟨y, true, 0⟩ [.int .i64 y.1, .int .i64 y.2, .bool true, .int .i32 0] (fun _ => False) (w.heap.size + 1) HS.out.symm rfl rfl HP.out (fun _ h => h.elim) HR.out (Nat.zero_le _) (by omega) ?_; intro v1 w8 F1 hR hlt1 hnew hCh; have hblk := hCh.blk H.out.drew.blk (fun e => e.2 rfl); have hk0 : w8.cell? ⟨b, 0, none⟩ = some (.slice A s.slots.length c) := (by rw [blk_cell hblk]; rfl); have hf0 := blk_frozen hblk 0; obtain ⟨A8, n8, c8, hv, HN8, _, _, HR8⟩ := R_outN hR; have hn8 : n8 = s.slots.length + 1 := (by rw [HN8.out]; simp); subst hn8; subst hv; have HB8 := Aside0.mk hblk; have HL8 := Aside0.mk hlt1; have HW8 := Aside0.mk hnew; have HC8 := Aside0.mk hCh; clear hR hlt1 hnew hCh hblk HN8)
  all_goals
    go_wp2
    go_ret
    have hbl := H.out.lt b H.out.hb
    have hsz : ((w.alloc (.cells #[.int .i64 y.1, .int .i64 y.2] 24)).setCell ⟨b, 2, none⟩ (.int .i64 (s.n + 1))).drew.heap.size = w.heap.size + 1 := HS.out.symm
    have hq := HC8.out.size
    have hbl2 : b < w8.heap.size := Nat.lt_of_lt_of_le hbl hq
    have hC0 : Chg F w ((w.alloc (.cells #[.int .i64 y.1, .int .i64 y.2] 24)).setCell ⟨b, 2, none⟩ (.int .i64 (s.n + 1))).drew := (((Chg.refl F w).alloc _).set (p := ⟨b, 2, none⟩) (.inl H.out.hb) _).drew
    refine ⟨rfl, fun k => F1 k ∨ k = b, ⟨A8, c8, fun k hk => ?_, .inr rfl, ?_, ?_⟩, fun k hk => ?_, ?_⟩
    · simp only [World.setCell, Array.size_modify]
      rcases hk with hk | hk
      · exact HL8.out k hk
      · rw [hk]; exact hbl2
    · have := blk_set HB8.out 0 (.slice A8 (s.slots.length + 1) c8)
      rw [show (s.slots ++ [(⟨y, true, 0⟩ : Slot (Int × Int))]).length = s.slots.length + 1 by simp]
      rw [HF.out] at this
      exact this
    · rw [show (s.slots ++ [(⟨y, true, 0⟩ : Slot (Int × Int))]).length = s.slots.length + 1 by simp]
      exact Kd.R_mono (Kd.R_set HR8.out HB8.out (by simp [flatK]) 0 _) (fun k hk => .inl hk)
    · rcases hk with hk | hk
      · rcases HW8.out k hk with e | e
        · exact .inl e.1
        · rw [hsz] at e; exact .inr (by omega)
      · rw [hk]; exact .inl H.out.hb
    · exact (hC0.trans HC8.out (fun i h => .inl h.1)).set (p := ⟨b, 0, none⟩) (.inl H.out.hb) _
end Go.Proofs.Ytckimhfbbfpddaa
