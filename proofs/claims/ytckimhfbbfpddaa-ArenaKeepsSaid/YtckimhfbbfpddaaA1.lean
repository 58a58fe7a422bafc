/- The contracts of an arena of texts: New, Take, Free, At, Len, Slots. Conditions: what lies in memory as told. -/
import Derived.Test.YtckimhfbbfpddaaProg
import Derived.Test.YtckimhfbbfpddaaA0
import Derived.Deep.DeepMust
import Derived.BigRegion
import Derived.ChangeAlike
namespace Go.Proofs.Ytckimhfbbfpddaa
open Go.RowKit Go.Proofs.YtckimhfbbfpddaaW.PrintWords Lb

theorem info71 : (Try.prog.info? 71).map (fun i => (i.zero, i.size, i.bytes)) = some (some (.agg #[.string ⟨#[]⟩, .bool false, .int .i32 0]), 3, 24) := by kernel_rfl
def encS (s : Slot ByteArray) : List Value := [.string s.x, .bool s.taken, .int .i32 s.next]
theorem encS_len (s : Slot ByteArray) : (encS s).length = 3 := rfl
theorem encS_one (s : Slot ByteArray) : ∀ u ∈ encS s, u.oneCell' = true := by
  intro u hu
  simp [encS] at hu
  rcases hu with rfl | rfl | rfl <;> rfl
abbrev kdS : Kd (Slot ByteArray) := flatK 3 encS encS_len encS_one

/-- An arena: block b, in the blocks F, its slots' slice v. -/
structure ArS (w : World) (F : Nat → Prop) (b : Nat) (s : Ar ByteArray) (A : Option Addr) (c : Nat) : Prop where
  lt : ∀ k, F k → k < w.heap.size
  hb : F b
  blk : w.heap[b]? = some (.cells #[.slice A s.slots.length c, .int .i32 s.free, .int .i64 s.n] 69 (0, 0))
  row : kdS.R 71 w 0 F (.slice A s.slots.length c) s.slots
def ArenaS (w : World) (F : Nat → Prop) (b : Nat) (s : Ar ByteArray) : Prop := ∃ A c, ArS w F b s A c

theorem ArenaS.keep {w w1 : World} {F G : Nat → Prop} {b : Nat} {s : Ar ByteArray} (h : ArenaS w F b s) (hc : Chg G w w1) (hd : ∀ k, F k → ¬ G k) : ArenaS w1 F b s := by
  obtain ⟨A, c, h⟩ := h
  exact ⟨A, c, fun k hk => Nat.lt_of_lt_of_le (h.lt k hk) hc.size, h.hb, hc.blk h.blk (hd b h.hb), R_chg h.row hc hd⟩

section
variable {w : World} {F : Nat → Prop} {b : Nat} {s : Ar ByteArray} {A : Option Addr} {c g k : Nat} {x : Slot ByteArray}
theorem ArS.ne (h : ArS w F b s (some ⟨g, 0, none⟩) c) (hx : s.slots[k]? = some x) : ¬ g = b := by
  intro e
  subst e
  have hk := (List.getElem?_eq_some_iff.1 hx).1
  obtain ⟨cells, hc⟩ := Kd.R_typed h.row g (by simp [Value.ownBlock])
  rw [h.blk] at hc
  cases hc
theorem ArS.set_free (h : ArS w F b s A c) (f : Int) : ArS (w.setCell ⟨b, 1, none⟩ (.int .i32 f)) F b { s with free := f } A c :=
  ⟨fun k hk => by simpa [World.setCell] using h.lt k hk, h.hb, blk_set h.blk 1 _, Kd.R_set h.row h.blk (by simp [flatK]) 1 _⟩
theorem ArS.set_n (h : ArS w F b s A c) (n : Int) : ArS (w.setCell ⟨b, 2, none⟩ (.int .i64 n)) F b { s with n := n } A c :=
  ⟨fun k hk => by simpa [World.setCell] using h.lt k hk, h.hb, blk_set h.blk 2 _, Kd.R_set h.row h.blk (by simp [flatK]) 2 _⟩
theorem ArS.set_cell (h : ArS w F b s (some ⟨g, 0, none⟩) c) (hx : s.slots[k]? = some x) (j : Nat) (u : Value) (y : Slot ByteArray) (hj : j < 3) (he : encS y = (encS x).set j u) :
    ArS (w.setCell ⟨g, k * 3 + j, none⟩ u) F b { s with slots := s.slots.set k y } (some ⟨g, 0, none⟩) c :=
  ⟨fun k hk => by simpa [World.setCell] using h.lt k hk, h.hb, by rw [List.length_set]; exact blk_far h.blk (fun e => h.ne hx e.symm) _, by rw [List.length_set]; exact F_store h.row k j x y u hx hj he⟩
theorem ArS.set_slot (h : ArS w F b s (some ⟨g, 0, none⟩) c) (hx : s.slots[k]? = some x) (y : ByteArray) (t : Bool) (n : Int) :
    ArS (((w.setCell ⟨g, k * 3, none⟩ (.string y)).setCell ⟨g, k * 3 + 1, none⟩ (.bool t)).setCell ⟨g, k * 3 + 2, none⟩ (.int .i32 n)) F b { s with slots := s.slots.set k ⟨y, t, n⟩ } (some ⟨g, 0, none⟩) c := by
  have hk := (List.getElem?_eq_some_iff.1 hx).1
  have h1 := h.set_cell hx 0 (.string y) ⟨y, x.taken, x.next⟩ (by omega) rfl
  have h2 := h1.set_cell (k := k) (x := ⟨y, x.taken, x.next⟩) (by simp [hk]) 1 (.bool t) ⟨y, t, x.next⟩ (by omega) rfl
  have h3 := h2.set_cell (k := k) (x := ⟨y, t, x.next⟩) (by simp [hk]) 2 (.int .i32 n) ⟨y, t, n⟩ (by omega) rfl
  simpa [List.set_set] using h3
theorem ArS.drew (h : ArS w F b s A c) : ArS w.drew F b s A c := ⟨h.lt, h.hb, h.blk, Kd.R_drew h.row⟩
theorem ArS.drewN (h : ArS w F b s A c) (n : Nat) : ArS (w.drewN n) F b s A c := ⟨h.lt, h.hb, h.blk, Kd.R_drewN h.row n⟩
end

theorem newS (w : World) : Calls Try.prog 15 #[] w fun e w' => e = .returned (.pointer (some ⟨w.heap.size, 0, none⟩)) ∧ w' = w.alloc (.cells #[.slice none 0 0, .int .i32 0, .int .i64 0] 69) := by
  go_enter Try.func15, Try.ntmps15
  go_wp2
  go_ret
  exact ⟨rfl, rfl⟩
theorem newS_at (w : World) : ArenaS (w.alloc (.cells #[.slice none 0 0, .int .i32 0, .int .i64 0] 69)) (fun k => k = w.heap.size) w.heap.size ⟨[], 0, 0⟩ :=
  ⟨none, 0, fun k hk => by subst hk; simp, rfl, blk_new _ _, Kd.R_nil _ _ _ _ _⟩

theorem lenS {w : World} {F : Nat → Prop} {b : Nat} {s : Ar ByteArray} (h : ArenaS w F b s) : Calls Try.prog 22 #[.pointer (some ⟨b, 0, none⟩)] w fun e w' => e = .returned (.int .i64 s.n) ∧ w = w' := by
  obtain ⟨A, c, h⟩ := h
  have h2 : w.cell? ⟨b, 2, none⟩ = some (.int .i64 s.n) := by rw [blk_cell h.blk]; rfl
  go_enter Try.func22, Try.ntmps22
  go_wp2
  go_ret
  exact ⟨rfl, rfl⟩
theorem slotsS {w : World} {F : Nat → Prop} {b : Nat} {s : Ar ByteArray} (h : ArenaS w F b s) : Calls Try.prog 23 #[.pointer (some ⟨b, 0, none⟩)] w fun e w' => e = .returned (.int .i64 s.slots.length) ∧ w = w' := by
  obtain ⟨A, c, h⟩ := h
  have h0 : w.cell? ⟨b, 0, none⟩ = some (.slice A s.slots.length c) := by rw [blk_cell h.blk]; rfl
  go_enter Try.func23, Try.ntmps23
  go_wp2
  go_ret
  exact ⟨rfl, rfl⟩

set_option maxHeartbeats 1000000 in
theorem atS_no {w : World} {F : Nat → Prop} {b : Nat} {s : Ar ByteArray} (h : ArenaS w F b s) (i : Int) (hi0 : -2147483648 ≤ i) (hi1 : i ≤ 2147483647) (_hL : s.slots.length ≤ 1000000) (hn : isS s i = false) :
    Calls Try.prog 20 #[.pointer (some ⟨b, 0, none⟩), .int .i32 i] w fun e w' => e = .returned (.pointer none) ∧ w = w' := by
  obtain ⟨A, c, h⟩ := h
  have h0 : w.cell? ⟨b, 0, none⟩ = some (.slice A s.slots.length c) := by rw [blk_cell h.blk]; rfl
  have HN := Aside0.mk hn
  clear hn
  by_cases h1 : i < 1
  · go_enter Try.func20, Try.ntmps20
    go_wp2
    go_ret
    exact ⟨rfl, rfl⟩
  · by_cases h2 : (s.slots.length : Int) < i
    · go_enter Try.func20, Try.ntmps20
      go_wp2
      go_ret
      exact ⟨rfl, rfl⟩
    · obtain ⟨k, rfl⟩ : ∃ k : Nat, i = (k : Int) + 1 := ⟨(i - 1).toNat, by omega⟩
      obtain ⟨x, hx⟩ : ∃ x, s.slots[k]? = some x := ⟨_, List.getElem?_eq_getElem (by omega)⟩
      obtain ⟨g, rfl, hg, _, hcell, hfro⟩ := F_elem h.row k x hx
      have ht : x.taken = false := is_out HN.out hx
      have hc1 : w.cell? ⟨g, k * 3 + 1, none⟩ = some (.bool false) := by rw [← ht]; exact hcell 1 _ rfl
      have hk : (k : Int) < (s.slots.length : Int) := by omega
      clear hcell hx h hfro ht HN
      go_enter Try.func20, Try.ntmps20
      go_wp2
      go_ret
      exact ⟨rfl, rfl⟩

set_option maxHeartbeats 1000000 in
theorem atS_yes {w : World} {F : Nat → Prop} {b : Nat} {s : Ar ByteArray} {A : Option Addr} {c g : Nat} (h : ArS w F b s A c) (hA : A = some ⟨g, 0, none⟩) (k : Nat) (x : Slot ByteArray) (hx : s.slots[k]? = some x) (ht : x.taken = true) (_hL : s.slots.length ≤ 1000000) :
    Calls Try.prog 20 #[.pointer (some ⟨b, 0, none⟩), .int .i32 ((k : Int) + 1)] w fun e w' => e = .returned (.pointer (some ⟨g, k * 3, none⟩)) ∧ w = w' := by
  subst hA
  have hk := (List.getElem?_eq_some_iff.1 hx).1
  have h0 : w.cell? ⟨b, 0, none⟩ = some (.slice (some ⟨g, 0, none⟩) s.slots.length c) := by rw [blk_cell h.blk]; rfl
  obtain ⟨g', hg', _, _, hcell, _⟩ := F_elem h.row k x hx
  injection hg' with hg'
  injection hg' with hg'
  subst hg'
  have hc1 : w.cell? ⟨g, k * 3 + 1, none⟩ = some (.bool true) := by rw [← ht]; exact hcell 1 _ rfl
  have hk2 : (k : Int) < (s.slots.length : Int) := by omega
  clear hcell hx h ht
  go_enter Try.func20, Try.ntmps20
  go_wp2
  go_ret
  exact ⟨rfl, rfl⟩

theorem atS_nil (w : World) (i : Int) : Calls Try.prog 20 #[.pointer none, .int .i32 i] w fun e w' => e = .returned (.pointer none) ∧ w = w' := by
  go_enter Try.func20, Try.ntmps20
  go_wp2
  go_ret
  exact ⟨rfl, rfl⟩
theorem lenS_nil (w : World) : Calls Try.prog 22 #[.pointer none] w fun e w' => e = .returned (.int .i64 0) ∧ w = w' := by
  go_enter Try.func22, Try.ntmps22
  go_wp2
  go_ret
  exact ⟨rfl, rfl⟩
theorem slotsS_nil (w : World) : Calls Try.prog 23 #[.pointer none] w fun e w' => e = .returned (.int .i64 0) ∧ w = w' := by
  go_enter Try.func23, Try.ntmps23
  go_wp2
  go_ret
  exact ⟨rfl, rfl⟩
theorem takeS_nil (w : World) (x : ByteArray) : Calls Try.prog 16 #[.pointer none, .string x] w fun e w' => e = .returned (.int .i32 0) ∧ w = w' := by
  go_enter Try.func16, Try.ntmps16
  go_wp2
  go_ret
  exact ⟨rfl, rfl⟩
theorem freeS_nil (w : World) (i : Int) : Calls Try.prog 19 #[.pointer none, .int .i32 i] w fun e w' => e = .returned (.bool false) ∧ w = w' := by
  go_enter Try.func19, Try.ntmps19
  go_wp2_with fail
  refine (atS_nil _ _).mono ?_
  rintro e w1 ⟨rfl, rfl⟩
  go_wp2
  go_ret
  exact ⟨rfl, rfl⟩
theorem freeS_no {w : World} {F : Nat → Prop} {b : Nat} {s : Ar ByteArray} (h : ArenaS w F b s) (i : Int) (hi0 : -2147483648 ≤ i) (hi1 : i ≤ 2147483647) (hL : s.slots.length ≤ 1000000) (hn : isS s i = false) :
    Calls Try.prog 19 #[.pointer (some ⟨b, 0, none⟩), .int .i32 i] w fun e w' => e = .returned (.bool false) ∧ w = w' := by
  have HN := Aside0.mk hn
  have H := Aside0.mk h
  clear hn h
  go_enter Try.func19, Try.ntmps19
  go_wp2_with fail
  refine (atS_no H.out i hi0 hi1 hL HN.out).mono ?_
  rintro e w1 ⟨rfl, rfl⟩
  go_wp2
  go_ret
  exact ⟨rfl, rfl⟩

set_option maxHeartbeats 1000000 in
theorem freeS_yes {w : World} {F : Nat → Prop} {b : Nat} {s : Ar ByteArray} (h : ArenaS w F b s) (k : Nat) (x : Slot ByteArray) (hx : s.slots[k]? = some x) (ht : x.taken = true) (hL : s.slots.length ≤ 1000000) (hn0 : -1000000 ≤ s.n) (hn1 : s.n ≤ 1000000) :
    Calls Try.prog 19 #[.pointer (some ⟨b, 0, none⟩), .int .i32 ((k : Int) + 1)] w fun e w' => e = .returned (.bool true) ∧ ArenaS w' F b ⟨s.slots.set k ⟨ByteArray.empty, false, s.free⟩, (k : Int) + 1, s.n - 1⟩ ∧ Chg F w w' := by
  obtain ⟨A, c, h⟩ := h
  have hk := (List.getElem?_eq_some_iff.1 hx).1
  obtain ⟨g, rfl, hFg, hgl, hcell, hfro⟩ := F_elem h.row k x hx
  have H := Aside0.mk h
  have HX := Aside0.mk hx
  have h0 : w.cell? ⟨b, 0, none⟩ = some (.slice (some ⟨g, 0, none⟩) s.slots.length c) := by rw [blk_cell h.blk]; rfl
  have h1 : w.cell? ⟨b, 1, none⟩ = some (.int .i32 s.free) := by rw [blk_cell h.blk]; rfl
  have h2 : w.cell? ⟨b, 2, none⟩ = some (.int .i64 s.n) := by rw [blk_cell h.blk]; rfl
  have hb1 := blk_frozen h.blk 1
  have hb2 := blk_frozen h.blk 2
  have hc0 : w.cell? ⟨g, k * 3, none⟩ = some (.string x.x) := hcell 0 _ rfl
  have hc1 : w.cell? ⟨g, k * 3 + 1, none⟩ = some (.bool true) := by rw [← ht]; exact hcell 1 _ rfl
  have hc2 : w.cell? ⟨g, k * 3 + 2, none⟩ = some (.int .i32 x.next) := hcell 2 _ rfl
  have hf0 := hfro (k * 3)
  have hf1 := hfro (k * 3 + 1)
  have hf2 := hfro (k * 3 + 2)
  have hgb := h.ne hx
  have hbg : ¬ b = g := fun e => hgb e.symm
  have HA := Aside0.mk (atS_yes h rfl k x hx ht hL)
  have hk2 : (k : Int) < (s.slots.length : Int) := by omega
  clear hcell hx h ht hfro
  go_enter Try.func19, Try.ntmps19
  go_wp2_with fail
  refine HA.out.mono ?_
  rintro e w1 ⟨rfl, rfl⟩
  clear HA
  go_wp2
  go_region
  go_wp2
  go_ret
  refine ⟨rfl, ⟨_, _, (((H.out.set_slot HX.out ByteArray.empty false s.free).set_free ((k : Int) + 1)).set_n (s.n - 1)).drew⟩, ?_⟩
  have hg := hFg
  have hb := H.out.hb
  exact (((((((Chg.refl F w).set (p := ⟨g, k * 3, none⟩) (.inl hg) _).set (p := ⟨g, k * 3 + 1, none⟩) (.inl hg) _).set (p := ⟨g, k * 3 + 2, none⟩) (.inl hg) _).set (p := ⟨b, 1, none⟩) (.inl hb) _).set (p := ⟨b, 2, none⟩) (.inl hb) _).drew)

set_option maxHeartbeats 2000000 in
theorem takeS_old {w : World} {F : Nat → Prop} {b : Nat} {s : Ar ByteArray} (h : ArenaS w F b s) (k : Nat) (x : Slot ByteArray) (y : ByteArray) (hx : s.slots[k]? = some x) (hf : s.free = (k : Int) + 1) (hL : s.slots.length ≤ 1000000) (hn0 : -1000000 ≤ s.n) (hn1 : s.n ≤ 1000000) :
    Calls Try.prog 16 #[.pointer (some ⟨b, 0, none⟩), .string y] w fun e w' => e = .returned (.int .i32 ((k : Int) + 1)) ∧ ArenaS w' F b ⟨s.slots.set k ⟨y, true, 0⟩, x.next, s.n + 1⟩ ∧ Chg F w w' := by
  obtain ⟨A, c, h⟩ := h
  have hk := (List.getElem?_eq_some_iff.1 hx).1
  obtain ⟨g, rfl, hFg, hgl, hcell, hfro⟩ := F_elem h.row k x hx
  have H := Aside0.mk h
  have HX := Aside0.mk hx
  have h0 : w.cell? ⟨b, 0, none⟩ = some (.slice (some ⟨g, 0, none⟩) s.slots.length c) := by rw [blk_cell h.blk]; rfl
  have h1 : w.cell? ⟨b, 1, none⟩ = some (.int .i32 ((k : Int) + 1)) := by rw [← hf, blk_cell h.blk]; rfl
  have h2 : w.cell? ⟨b, 2, none⟩ = some (.int .i64 s.n) := by rw [blk_cell h.blk]; rfl
  have hb1 := blk_frozen h.blk 1
  have hb2 := blk_frozen h.blk 2
  have hc0 : w.cell? ⟨g, k * 3, none⟩ = some (.string x.x) := hcell 0 _ rfl
  have hc1 : w.cell? ⟨g, k * 3 + 1, none⟩ = some (.bool x.taken) := hcell 1 _ rfl
  have hc2 : w.cell? ⟨g, k * 3 + 2, none⟩ = some (.int .i32 x.next) := hcell 2 _ rfl
  have hf0 := hfro (k * 3)
  have hf1 := hfro (k * 3 + 1)
  have hf2 := hfro (k * 3 + 2)
  have hgb := h.ne hx
  have hbg : ¬ b = g := fun e => hgb e.symm
  have hk2 : (k : Int) < (s.slots.length : Int) := by omega
  have hnz : ((k : Int) + 1 == 0) = false := beq_eq_false_iff_ne.2 (by omega)
  clear hcell hx h hf hfro
  go_enter Try.func16, Try.ntmps16
  go_wp2
  go_ret
  refine ⟨rfl, ⟨_, _, (((H.out.set_n (s.n + 1)).set_free x.next).set_slot HX.out y true 0)⟩, ?_⟩
  have hg := hFg
  have hb := H.out.hb
  exact (((((((Chg.refl F w).set (p := ⟨b, 2, none⟩) (.inl hb) _).set (p := ⟨b, 1, none⟩) (.inl hb) _).set (p := ⟨g, k * 3, none⟩) (.inl hg) _).set (p := ⟨g, k * 3 + 1, none⟩) (.inl hg) _).set (p := ⟨g, k * 3 + 2, none⟩) (.inl hg) _))

set_option maxHeartbeats 2000000 in
theorem takeS_new {w : World} {F : Nat → Prop} {b : Nat} {s : Ar ByteArray} (h : ArenaS w F b s) (y : ByteArray) (hf : s.free = 0) (hL : s.slots.length ≤ 1000000) (hn0 : -1000000 ≤ s.n) (hn1 : s.n ≤ 1000000) :
    Calls Try.prog 16 #[.pointer (some ⟨b, 0, none⟩), .string y] w fun e w' => e = .returned (.int .i32 ((s.slots.length : Int) + 1)) ∧ ∃ F', ArenaS w' F' b ⟨s.slots ++ [⟨y, true, 0⟩], 0, s.n + 1⟩ ∧ (∀ k, F' k → F k ∨ w.heap.size ≤ k) ∧ Chg F w w' := by
  obtain ⟨A, c, h⟩ := h
  have h3 := h.set_n (s.n + 1)
  have H := Aside0.mk h3
  have h0 : w.cell? ⟨b, 0, none⟩ = some (.slice A s.slots.length c) := by rw [blk_cell h.blk]; rfl
  have h1 : w.cell? ⟨b, 1, none⟩ = some (.int .i32 0) := by rw [← hf, blk_cell h.blk]; rfl
  have h2 : w.cell? ⟨b, 2, none⟩ = some (.int .i64 s.n) := by rw [blk_cell h.blk]; rfl
  have hb1 := blk_frozen h.blk 1
  have hb2 := blk_frozen h.blk 2
  have HF := Aside0.mk hf
  have HS := Aside0.mk (show w.heap.size = (w.setCell ⟨b, 2, none⟩ (.int .i64 (s.n + 1))).heap.size by simp [World.setCell])
  have HR := Aside0.mk (Kd.R_types h3.row h3.blk (by simp [flatK]))
  have HP := Aside0.mk (show kdS.M (w.setCell ⟨b, 2, none⟩ (.int .i64 (s.n + 1))) 0 (fun _ => False) ⟨y, true, 0⟩ [.string y, .bool true, .int .i32 0] from rfl)
  clear h hf h3
  go_enter Try.func16, Try.ntmps16
  go_wp2_with (first | ((with_reducible refine gate_builtin (b := .append) (xs := #[.tmp 26, .tmp 29]) rfl ?_); at_builtin; go_must (refine R_pushN kdS 0 (fun k => F k ∧ k ≠ b) rfl (.tmp 26) (.tmp 29) 67 71 (.agg #[.string ⟨#[]⟩, .bool false, .int .i32 0]) 24 rfl Try.underlying67 info71 rfl (by decide) (by omega) (.slice A s.slots.length c) s.slots ⟨y, true, 0⟩ [.string y, .bool true, .int .i32 0] (fun _ => False) w.heap.size HS.out.symm rfl rfl HP.out (fun _ h => h.elim) HR.out (Nat.zero_le _) (by omega) ?_; intro v1 w8 F1 hR hlt1 hnew hCh; have hblk := hCh.blk H.out.blk (fun e => e.2 rfl); have hk0 : w8.cell? ⟨b, 0, none⟩ = some (.slice A s.slots.length c) := (by rw [blk_cell hblk]; rfl); have hf0 := blk_frozen hblk 0; obtain ⟨A8, n8, c8, hv, HN8, _, _, HR8⟩ := R_outN hR; have hn8 : n8 = s.slots.length + 1 := (by rw [HN8.out]; simp); subst hn8; subst hv; have HB8 := Aside0.mk hblk; have HL8 := Aside0.mk hlt1; have HW8 := Aside0.mk hnew; have HC8 := Aside0.mk hCh; clear hR hlt1 hnew hCh hblk HN8)))
  go_ret
  have hbl := H.out.lt b H.out.hb
  refine ⟨rfl, fun k => F1 k ∨ k = b, ⟨A8, c8, fun k hk => ?_, .inr rfl, ?_, ?_⟩, fun k hk => ?_, ?_⟩
  · simp only [World.setCell, Array.size_modify]
    rcases hk with hk | hk
    · exact HL8.out k hk
    · rw [hk]; exact Nat.lt_of_lt_of_le hbl HC8.out.size
  · have := blk_set HB8.out 0 (.slice A8 (s.slots.length + 1) c8)
    rw [show (s.slots ++ [(⟨y, true, 0⟩ : Slot ByteArray)]).length = s.slots.length + 1 by simp]
    rw [HF.out] at this
    exact this
  · rw [show (s.slots ++ [(⟨y, true, 0⟩ : Slot ByteArray)]).length = s.slots.length + 1 by simp]
    exact Kd.R_mono (Kd.R_set HR8.out HB8.out (by simp [flatK]) 0 _) (fun k hk => .inl hk)
  · rcases hk with hk | hk
    · rcases HW8.out k hk with e | e
      · exact .inl e.1
      · rw [← HS.out] at e; exact .inr e
    · rw [hk]; exact .inl H.out.hb
  · have hb := H.out.hb
    exact (((Chg.refl F w).set (p := ⟨b, 2, none⟩) (.inl hb) _).trans HC8.out (fun i h => .inl h.1)).set (p := ⟨b, 0, none⟩) (.inl hb) _
end Go.Proofs.Ytckimhfbbfpddaa
