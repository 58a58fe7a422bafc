/- The heap: how it lies in memory; Len and Top. Conditions: what lies in memory as told. -/
import Derived.Test.YtplimabdnpepjaaH0
import Derived.Deep.DeepMust
namespace Go.Proofs.Ytplimabdnpepjaa
open Go.RowKit Go.Proofs.YtplimabdnpepjaaW.PrintWords Lb

theorem info27 : (Try.prog.info? 27).map (fun i => (i.zero, i.size, i.bytes)) = some (some (.agg #[.int .i64 0, .int .i64 0, .int .i64 0]), 3, 24) := by kernel_rfl
def encE (a : Entry) : List Value := [.int .i64 a.f, .int .i64 a.g, .int .i64 a.c]
theorem encE_len (a : Entry) : (encE a).length = 3 := rfl
theorem encE_one (a : Entry) : ∀ u ∈ encE a, u.oneCell' = true := by
  intro u hu
  simp [encE] at hu
  rcases hu with rfl | rfl | rfl <;> rfl
abbrev kdE : Kd Entry := flatK 3 encE encE_len encE_one
/-- A heap: block b, in the blocks F. -/
structure Hp (w : World) (F : Nat → Prop) (b : Nat) (l : List Entry) (A : Option Addr) (c : Nat) : Prop where
  lt : ∀ k, F k → k < w.heap.size
  hb : F b
  blk : w.heap[b]? = some (.cells #[.slice A l.length c] 25 (0, 0))
  row : kdE.R 27 w 0 F (.slice A l.length c) l
def Heap (w : World) (F : Nat → Prop) (b : Nat) (l : List Entry) : Prop := ∃ A c, Hp w F b l A c
theorem Hp.keep {w w1 : World} {F G : Nat → Prop} {b : Nat} {l : List Entry} {A : Option Addr} {c : Nat} (h : Hp w F b l A c) (hc : Chg G w w1) (hd : ∀ k, F k → ¬ G k) : Hp w1 F b l A c :=
  ⟨fun k hk => Nat.lt_of_lt_of_le (h.lt k hk) hc.size, h.hb, hc.blk h.blk (hd b h.hb), R_chg h.row hc hd⟩
theorem Heap.keep {w w1 : World} {F G : Nat → Prop} {b : Nat} {l : List Entry} (h : Heap w F b l) (hc : Chg G w w1) (hd : ∀ k, F k → ¬ G k) : Heap w1 F b l := by
  obtain ⟨A, c, h⟩ := h
  exact ⟨A, c, h.keep hc hd⟩
theorem new_at (w : World) : Heap (w.alloc (.cells #[.slice none 0 0] 25)) (fun k => k = w.heap.size) w.heap.size [] :=
  ⟨none, 0, fun k hk => by subst hk; simp, rfl, blk_new _ _, Kd.R_nil _ _ _ _ _⟩
theorem Hp.c0 {w : World} {F : Nat → Prop} {b : Nat} {l : List Entry} {A : Option Addr} {c : Nat} (h : Hp w F b l A c) : w.cell? ⟨b, 0, none⟩ = some (.slice A l.length c) := by
  rw [blk_cell h.blk]; rfl

theorem len_ok {w : World} {F : Nat → Prop} {b : Nat} {l : List Entry} (h : Heap w F b l) : Calls Try.prog 15 #[.pointer (some ⟨b, 0, none⟩)] w fun e w' => e = .returned (.int .i64 l.length) ∧ w = w' := by
  obtain ⟨A, c, h⟩ := h
  have h0 := h.c0
  go_enter Try.func15, Try.ntmps15
  go_wp2
  go_ret
  exact ⟨rfl, rfl⟩
theorem len_nil (w : World) : Calls Try.prog 15 #[.pointer none] w fun e w' => e = .returned (.int .i64 0) ∧ w = w' := by
  go_enter Try.func15, Try.ntmps15
  go_wp2
  go_ret
  exact ⟨rfl, rfl⟩
end Go.Proofs.Ytplimabdnpepjaa
