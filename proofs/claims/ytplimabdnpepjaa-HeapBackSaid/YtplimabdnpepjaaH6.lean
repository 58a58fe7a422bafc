/- A heap as what it holds in order: New, Push, Pop, Top, Len. Conditions: what lies in memory as told. -/
import Derived.Test.YtplimabdnpepjaaH5
namespace Go.Proofs.Ytplimabdnpepjaa
open Go.RowKit Go.Proofs.YtplimabdnpepjaaW.PrintWords Lb

/-- A heap at block b, in the blocks F, that holds S (in order). -/
def HO (w : World) (F : Nat → Prop) (b : Nat) (S : List Entry) : Prop := ∃ l, Heap w F b l ∧ HS l S
theorem HO.keep {w w1 : World} {F G : Nat → Prop} {b : Nat} {S : List Entry} (h : HO w F b S) (hc : Chg G w w1) (hd : ∀ k, F k → ¬ G k) : HO w1 F b S := by
  obtain ⟨l, h, hs⟩ := h
  exact ⟨l, h.keep hc hd, hs⟩
theorem HO.below {w w1 : World} {F : Nat → Prop} {b : Nat} {S : List Entry} (h : HO w F b S) (hb : Below w.heap.size w w1) : HO w1 F b S :=
  h.keep (Chg.of_below (F := Non) hb) (fun _ _ e => e)
theorem HO.lt {w : World} {F : Nat → Prop} {b : Nat} {S : List Entry} (h : HO w F b S) : ∀ k, F k → k < w.heap.size := by
  obtain ⟨l, ⟨A, c, h⟩, _⟩ := h
  exact h.lt
theorem HO.hb {w : World} {F : Nat → Prop} {b : Nat} {S : List Entry} (h : HO w F b S) : F b := by
  obtain ⟨l, ⟨A, c, h⟩, _⟩ := h
  exact h.hb
theorem HO.srt {w : World} {F : Nat → Prop} {b : Nat} {S : List Entry} (h : HO w F b S) : Srt S := by
  obtain ⟨l, _, h⟩ := h
  exact h.srt
theorem HO.new (w : World) : HO (w.alloc (.cells #[.slice none 0 0] 25)) (fun k => k = w.heap.size) w.heap.size [] := ⟨[], new_at w, HS.nil⟩

abbrev EV (x : Entry) : Value := .agg #[.int .i64 x.f, .int .i64 x.g, .int .i64 x.c]
theorem push_S {w : World} {F : Nat → Prop} {b : Nat} {S : List Entry} (h : HO w F b S) (x : Entry) (hl : S.length ≤ 100000) :
    Calls Try.prog 9 #[.pointer (some ⟨b, 0, none⟩), .agg #[.int .i64 x.f, .int .i64 x.g, .int .i64 x.c]] w fun e w' => e = .returned (.tuple #[]) ∧ ∃ F', HO w' F' b (ins x S) ∧ (∀ k, F' k → F k ∨ w.heap.size ≤ k) ∧ Chg F w w' := by
  obtain ⟨l, h, hs⟩ := h
  refine (push_some h x (by rw [hs.len]; exact hl)).mono ?_
  rintro e w' ⟨he, F', h', hF, hC⟩
  exact ⟨he, F', ⟨_, h', hs.push x⟩, hF, hC⟩
theorem len_S {w : World} {F : Nat → Prop} {b : Nat} {S : List Entry} (h : HO w F b S) : Calls Try.prog 15 #[.pointer (some ⟨b, 0, none⟩)] w fun e w' => e = .returned (.int .i64 S.length) ∧ w = w' := by
  obtain ⟨l, h, hs⟩ := h
  rw [← hs.len]
  exact len_ok h
theorem HO.cons {w : World} {F : Nat → Prop} {b : Nat} {x : Entry} {S : List Entry} (h : HO w F b (x :: S)) : ∃ l, Heap w F b (x :: l) ∧ HS (x :: l) (x :: S) := by
  obtain ⟨l, h, hs⟩ := h
  cases l with
  | nil => exact absurd hs.len (by simp)
  | cons y l =>
    obtain ⟨S', e, _⟩ := hs.pop
    injection e with e1 e2
    subst e1
    exact ⟨l, h, hs⟩
theorem HO.nil {w : World} {F : Nat → Prop} {b : Nat} (h : HO w F b []) : Heap w F b [] := by
  obtain ⟨l, h, hs⟩ := h
  have : l = [] := List.eq_nil_of_length_eq_zero (by rw [hs.len]; rfl)
  rwa [this] at h
theorem top_S {w : World} {F : Nat → Prop} {b : Nat} {x : Entry} {S : List Entry} (h : HO w F b (x :: S)) : Calls Try.prog 13 #[.pointer (some ⟨b, 0, none⟩)] w fun e w' => e = .returned (.tuple #[.agg #[.int .i64 x.f, .int .i64 x.g, .int .i64 x.c], .bool true]) ∧ Below w.heap.size w w' := by
  obtain ⟨l, h, _⟩ := h.cons
  exact top_some h
theorem top_S0 {w : World} {F : Nat → Prop} {b : Nat} (h : HO w F b []) : Calls Try.prog 13 #[.pointer (some ⟨b, 0, none⟩)] w fun e w' => e = .returned (.tuple #[.agg #[.int .i64 0, .int .i64 0, .int .i64 0], .bool false]) ∧ Below w.heap.size w w' := top_none h.nil
theorem pop_S {w : World} {F : Nat → Prop} {b : Nat} {x : Entry} {S : List Entry} (h : HO w F b (x :: S)) (hl : S.length ≤ 100000) : Calls Try.prog 10 #[.pointer (some ⟨b, 0, none⟩)] w fun e w' => e = .returned (.tuple #[.agg #[.int .i64 x.f, .int .i64 x.g, .int .i64 x.c], .bool true]) ∧ HO w' F b S ∧ Chg F w w' := by
  obtain ⟨l, h, hs⟩ := h.cons
  have hlen := hs.len
  refine (pop_some h (by simp at hlen; omega)).mono ?_
  rintro e w' ⟨he, h', hC⟩
  obtain ⟨S', e2, hp⟩ := hs.pop
  injection e2 with _ e2
  subst e2
  exact ⟨he, ⟨_, h', hp⟩, hC⟩
theorem pop_S0 {w : World} {F : Nat → Prop} {b : Nat} (h : HO w F b []) : Calls Try.prog 10 #[.pointer (some ⟨b, 0, none⟩)] w fun e w' => e = .returned (.tuple #[.agg #[.int .i64 0, .int .i64 0, .int .i64 0], .bool false]) ∧ Below w.heap.size w w' := pop_none h.nil

/-- Blocks that all lie from B on; what lies below B is as in w0. -/
structure Mine (B : Nat) (w0 w : World) (F : Nat → Prop) : Prop where
  ge : ∀ k, F k → B ≤ k
  bel : Below B w0 w
theorem Mine.step {B : Nat} {w0 w w' : World} {F F' : Nat → Prop} (h : Mine B w0 w F) (hB : B ≤ w.heap.size) (hc : Chg F w w') (hF : ∀ k, F' k → F k ∨ w.heap.size ≤ k) : Mine B w0 w' F' :=
  ⟨fun k hk => by rcases hF k hk with e | e; exact h.ge k e; omega, h.bel.trans (hc.below hB h.ge)⟩
theorem Mine.alloc (w : World) (o : Obj) : Mine w.heap.size w (w.alloc o) (fun k => k = w.heap.size) :=
  ⟨fun k hk => by omega, below_alloc (Below.refl _ _) o⟩
theorem Mine.size {B : Nat} {w0 w : World} {F : Nat → Prop} (h : Mine B w0 w F) (h0 : B ≤ w0.heap.size) : B ≤ w.heap.size := Nat.le_trans h0 h.bel.size
theorem Mine.below {B : Nat} {w0 w w' : World} {F : Nat → Prop} (h : Mine B w0 w F) (h0 : B ≤ w0.heap.size) (hb : Below w.heap.size w w') : Mine B w0 w' F :=
  ⟨h.ge, h.bel.trans (hb.mono (h.size h0))⟩

set_option maxHeartbeats 1000000 in
set_option maxRecDepth 100000 in
theorem awake_yes (w : World) : Calls Try.prog 11 #[] w fun e w' => e = .returned (.bool true) ∧ Below w.heap.size w w' := by
  have HN := Aside0.mk (Nat.le_refl w.heap.size)
  have H1 := Aside0.mk (HO.new w)
  have M1 := Aside0.mk (Mine.alloc w (.cells #[.slice none 0 0] 25))
  go_enter Try.func11, Try.ntmps11
  go_wp2_with fail
  refine (push_S H1.out ⟨5, 1, 9⟩ (by simp)).mono ?_
  rintro e w2 ⟨rfl, F2, hA, hF, hC⟩
  have H2 := Aside0.mk hA
  have M2 := Aside0.mk (M1.out.step (M1.out.size HN.out) hC hF)
  clear hA hF hC
  go_wp2_with fail
  refine (push_S H2.out ⟨5, 2, 3⟩ (by simp [ins])).mono ?_
  rintro e w3 ⟨rfl, F3, hA, hF, hC⟩
  have H3 := Aside0.mk hA
  have M3 := Aside0.mk (M2.out.step (M2.out.size HN.out) hC hF)
  clear hA hF hC
  go_wp2_with fail
  refine (push_S H3.out ⟨4, 0, 7⟩ (by rw [(ins_perm _ _).length_eq]; simp [ins])).mono ?_
  rintro e w4 ⟨rfl, F4, hA, hF, hC⟩
  have H4 := Aside0.mk (show HO w4 F4 w.heap.size [⟨4, 0, 7⟩, ⟨5, 2, 3⟩, ⟨5, 1, 9⟩] from hA)
  have M4 := Aside0.mk (M3.out.step (M3.out.size HN.out) hC hF)
  clear hA hF hC
  go_wp2_with fail
  refine (top_S H4.out).mono ?_
  rintro e w5 ⟨rfl, hb⟩
  have H5 := Aside0.mk ((H4.out.below hb).below (below_alloc (Below.refl _ _) (.cells #[.int .i64 4, .int .i64 0, .int .i64 7] 27)))
  have M5 := Aside0.mk ((M4.out.below HN.out hb).below HN.out (below_alloc (Below.refl _ _) (.cells #[.int .i64 4, .int .i64 0, .int .i64 7] 27)))
  have hlt : ∀ k, F4 k → k ≠ w5.heap.size := fun k hk e => by have := H4.out.lt k hk; have := hb.size; omega
  have HL := Aside0.mk hlt
  clear hb hlt
  go_wp2_with fail
  refine (pop_S H5.out (by simp)).mono ?_
  rintro e w6 ⟨rfl, hA, hC⟩
  have z := hC.blk (blk_new w5 (.cells #[.int .i64 4, .int .i64 0, .int .i64 7] 27)) (fun e => HL.out _ e rfl)
  have k0 : w6.cell? ⟨w5.heap.size, 0, none⟩ = some (.int .i64 4) := by rw [blk_cell z]; rfl
  have k1 : w6.cell? ⟨w5.heap.size, 1, none⟩ = some (.int .i64 0) := by rw [blk_cell z]; rfl
  have k2 : w6.cell? ⟨w5.heap.size, 2, none⟩ = some (.int .i64 7) := by rw [blk_cell z]; rfl
  have hl6 : w5.heap.size < w6.heap.size := blk_lt z
  have hne : ¬ w5.heap.size = w6.heap.size := by omega
  have H6 := Aside0.mk (hA.below (below_alloc (Below.refl _ _) (.cells #[.int .i64 4, .int .i64 0, .int .i64 7] 27)))
  have M6 := Aside0.mk ((M5.out.step (M5.out.size HN.out) hC (fun k hk => .inl hk)).below HN.out (below_alloc (Below.refl _ _) (.cells #[.int .i64 4, .int .i64 0, .int .i64 7] 27)))
  clear hA hC z
  have hl2 : lessE ⟨4, 0, 7⟩ ⟨5, 0, 0⟩ = true := by decide
  have HL2 := Aside0.mk hl2
  clear hl2
  go_wp2_with fail
  refine (len_S H6.out).mono ?_
  rintro e w7 ⟨rfl, rfl⟩
  go_wp2_with fail
  refine (less_ok _ ⟨4, 0, 7⟩ ⟨5, 0, 0⟩).mono ?_
  rintro e w7 ⟨rfl, hb⟩
  rw [HL2.out]
  have M7 := Aside0.mk (M6.out.below HN.out hb)
  clear hb
  go_wp2
  go_ret
  exact ⟨rfl, M7.out.bel⟩
end Go.Proofs.Ytplimabdnpepjaa
