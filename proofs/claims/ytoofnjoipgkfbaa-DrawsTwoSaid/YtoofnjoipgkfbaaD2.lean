/- The contracts of the draws as objects: a list's copy, New, Next, Len, the document's Draw. Conditions: what lies in memory as told. -/
import Derived.Test.YtoofnjoipgkfbaaD1
namespace Go.Proofs.Ytoofnjoipgkfbaa
open Go.RowKit Go.Proofs.YtoofnjoipgkfbaaW.PrintWords Lb

set_option maxHeartbeats 1000000 in
theorem clone_some (w : World) (ad : Addr) (c : Nat) (l : List Int) (hL : l.length ≤ 1000000) (hC : (Kd.int .u32).C w (some ad) l.length l) :
    Calls Try.prog 13 #[.slice (some ad) l.length c] w fun e w' => ∃ v, e = .returned v ∧ (Kd.int .u32).R 30 w' w.heap.size (fun _ => True) v l ∧ Below w.heap.size w w' := by
  have HC := Aside0.mk hC
  have HR := Aside0.mk (R_empty (Kd.int .u32) 30 w w.heap.size (fun _ => True) (Nat.le_refl _) trivial)
  clear hC
  have hnil := @Lib.run_eql_slice_nil Try.prog
  go_enter Try.func13, Try.ntmps13
  go_wp2_with (first | ((with_reducible refine gate_builtin (b := .append) (xs := #[.tmp 5, .tmp 6]) rfl ?_); at_builtin; refine Kd.R_append_rows (Kd.int .u32) (w0 := w) w.heap.size rfl (.tmp 5) (.tmp 6) 26 30 (.int .u32 0) 4 rfl Try.underlying26 info30 rfl (by decide) (by omega) (.slice (some ⟨w.heap.size, 0, none⟩) 0 0) [] l _ _ _ (fun _ => True) (fun _ => False) rfl rfl HR.out (Kd.C_alloc HC.out _) (fun _ _ h => h) (fun _ h => h.elim) (fun _ _ => trivial) (below_alloc (Below.refl _ _) _) (by simp) (by simp; omega) ?_; intro v1 w1 hR hB _ _; have HO := Aside0.mk hR; have HB := Aside0.mk hB; clear hR hB))
  go_ret
  exact ⟨_, rfl, HO.out, HB.out⟩

set_option maxHeartbeats 1000000 in
theorem clone_none (w : World) (c : Nat) (n : Nat) :
    Calls Try.prog 13 #[.slice none n c] w fun e w' => e = .returned (.slice none 0 0) ∧ w = w' := by
  have hnil := @Lib.run_eql_slice_nil Try.prog
  go_enter Try.func13, Try.ntmps13
  go_wp2
  go_ret
  exact ⟨rfl, rfl⟩

theorem C_none {α : Type} {d : Kd α} {w : World} {l : List α} (h : d.C w none l.length l) : l = [] := by
  rcases Nat.eq_zero_or_pos l.length with h0 | h0
  · exact List.eq_nil_of_length_eq_zero h0
  · obtain ⟨ad, he, _⟩ := h.2.2 h0
    cases he

theorem clone_any (w : World) (A : Option Addr) (c : Nat) (l : List Int) (hL : l.length ≤ 1000000) (hC : (Kd.int .u32).C w A l.length l) :
    Calls Try.prog 13 #[.slice A l.length c] w fun e w' => ∃ v, e = .returned v ∧ (Kd.int .u32).R 30 w' w.heap.size (fun _ => True) v l ∧ Below w.heap.size w w' := by
  rcases A with _ | ad
  · obtain rfl := C_none hC
    exact (clone_none w c 0).mono fun e w' ⟨he, hw⟩ => ⟨_, he, Kd.R_nil _ _ _ _ _, hw ▸ Below.refl _ _⟩
  · exact clone_some w ad c l hL hC

/-- Draws: block b, in the blocks F: their list, how many were drawn. -/
structure DrawsAt (w : World) (F : Nat → Prop) (b : Nat) (l : List Int) (n : Int) : Prop where
  lt : ∀ k, F k → k < w.heap.size
  hb : F b
  blk : ∃ v, w.heap[b]? = some (.cells #[v, .int .i64 n] 35 (0, 0)) ∧ (Kd.int .u32).R 30 w 0 F v l

theorem DrawsAt.keep {w w1 : World} {F G : Nat → Prop} {b : Nat} {l : List Int} {n : Int} (h : DrawsAt w F b l n) (hc : Chg G w w1) (hd : ∀ k, F k → ¬ G k) : DrawsAt w1 F b l n := by
  obtain ⟨hl, hb, v, hv, hR⟩ := h
  exact ⟨fun k hk => Nat.lt_of_lt_of_le (hl k hk) hc.size, hb, v, hc.blk hv (hd b hb), R_chg hR hc hd⟩

def U32s (l : List Int) : Prop := ∀ x ∈ l, 0 ≤ x ∧ x < 4294967296

theorem rd_u32 {l : List Int} (h : U32s l) (i : Int) : 0 ≤ rd l i ∧ rd l i < 4294967296 := by
  unfold rd
  rw [List.getD_eq_getElem?_getD]
  rcases hx : l[i.toNat]? with _ | x
  · simp
  · exact h x (List.mem_iff_getElem?.2 ⟨_, hx⟩)

theorem next_at {w : World} {F : Nat → Prop} {b : Nat} {l : List Int} {n : Int} (h : DrawsAt w F b l n) (hn0 : 0 ≤ n) (hn1 : n < 1000000000) (hu : U32s l) (hL : l.length ≤ 100000) :
    Calls Try.prog 11 #[.pointer (some ⟨b, 0, none⟩)] w fun e w' => e = .returned (.int .u32 (drawN l n)) ∧ DrawsAt w' F b l (n + 1) ∧ Chg (fun k => k = b) w w' := by
  obtain ⟨hl, hb, v, hv, hR⟩ := h
  obtain ⟨A, c, rfl, hlc, hC⟩ := Kd.R_reads hR
  have h0 : w.cell? ⟨b, 0, none⟩ = some (.slice A l.length c) := by rw [blk_cell hv]; rfl
  have h1 : w.cell? ⟨b, 1, none⟩ = some (.int .i64 n) := by rw [blk_cell hv]; rfl
  have fin : ∀ k, DrawsAt ((w.drewN k).setCell ⟨b, 1, none⟩ (.int .i64 (n + 1))) F b l (n + 1) ∧ Chg (fun k => k = b) w ((w.drewN k).setCell ⟨b, 1, none⟩ (.int .i64 (n + 1))) := by
    intro k
    have hv1 := blk_drewN hv k
    refine ⟨⟨fun j hj => by simpa [World.setCell] using hl j hj, hb, _, blk_set hv1 1 (.int .i64 (n + 1)), Kd.R_set (Kd.R_drewN hR k) hv1 (by simp [Kd.int, Kd.scalar]) 1 _⟩, ?_⟩
    exact Chg.set (F := fun k => k = b) (p := ⟨b, 1, none⟩) ((Chg.refl _ w).drewN k) (.inl rfl) _
  by_cases hlt : n < (l.length : Int)
  · obtain ⟨ad, rfl, hx⟩ := Kd.at_int hC n hn0 hlt
    obtain ⟨r0, r1⟩ := rd_u32 hu n
    exact (next_in w b ad l.length c n (rd l n) hn0 hn1 hL h0 h1 (blk_frozen hv 1) hlt hx r0 r1).mono fun e w' ⟨he, k, hw⟩ => ⟨he, hw ▸ (fin k).1, hw ▸ (fin k).2⟩
  · have := rd_out l n hn0 hlt
    exact (next_out w b A l.length c n hn0 hn1 hL h0 h1 (blk_frozen hv 1) hlt).mono fun e w' ⟨he, k, hw⟩ => ⟨by rw [he, drawN, this], hw ▸ (fin k).1, hw ▸ (fin k).2⟩

theorem len_obj {w : World} {F : Nat → Prop} {b : Nat} {l : List Int} {n : Int} (h : DrawsAt w F b l n) :
    Calls Try.prog 10 #[.pointer (some ⟨b, 0, none⟩)] w fun e w' => e = .returned (.int .i64 n) ∧ w = w' := by
  obtain ⟨hl, hb, v, hv, hR⟩ := h
  exact len_at w b n (by rw [blk_cell hv]; rfl)

theorem draw_any (w : World) (A : Option Addr) (c : Nat) (l : List Int) (n : Int) (hC : (Kd.int .u32).C w A l.length l) (hn0 : 0 ≤ n) (hn1 : n < 1000000000) (hu : U32s l) (hL : l.length ≤ 100000) :
    Calls Try.prog 12 #[.slice A l.length c, .int .i64 n] w fun e w' => e = .returned (.int .u32 (drawN l n)) ∧ w = w' := by
  by_cases hlt : n < (l.length : Int)
  · obtain ⟨ad, rfl, hx⟩ := Kd.at_int hC n hn0 hlt
    obtain ⟨r0, r1⟩ := rd_u32 hu n
    exact draw_in w ad l.length c n (rd l n) hn0 hn1 hL hlt hx r0 r1
  · have := rd_out l n hn0 hlt
    exact (draw_out w A l.length c n hn0 hn1 hL hlt).mono fun e w' ⟨he, hw⟩ => ⟨by rw [he, drawN, this], hw⟩

set_option maxHeartbeats 1000000 in
theorem new_great (w : World) (A : Option Addr) (L c : Nat) (h : 4096 < L) :
    Calls Try.prog 8 #[.slice A L c] w fun e w' => e = .returned (.tuple #[.pointer none, .int .i64 1]) ∧ w = w' := by
  go_enter Try.func8, Try.ntmps8
  go_wp2
  go_ret2
  exact ⟨rfl, rfl⟩

set_option maxHeartbeats 1000000 in
theorem new_ok (w : World) (A : Option Addr) (c : Nat) (l : List Int) (hC : (Kd.int .u32).C w A l.length l) (hL : l.length ≤ 4096) :
    Calls Try.prog 8 #[.slice A l.length c] w fun e w' => ∃ b F, e = .returned (.tuple #[.pointer (some ⟨b, 0, none⟩), .int .i64 0]) ∧ DrawsAt w' F b l 0 ∧ (∀ k, F k → w.heap.size ≤ k) ∧ Below w.heap.size w w' := by
  have HC := Aside0.mk hC
  clear hC
  go_enter Try.func8, Try.ntmps8
  go_wp2_with (first | (go_at_call 13; refine (clone_any w A c l (by omega) HC.out).mono ?_; rintro e w1 ⟨v, rfl, hR, hB⟩; obtain ⟨A1, c1, hv⟩ := Kd.R_slice hR; subst hv; have HR := Aside0.mk hR; have HB := Aside0.mk hB; clear hR hB))
  go_ret2
  refine ⟨_, fun k => w.heap.size ≤ k ∧ k < w1.heap.size + 1, rfl, ⟨fun k hk => by simpa using hk.2, ⟨HB.out.size, by omega⟩, _, blk_new _ _, ?_⟩, fun k hk => hk.1, below_alloc HB.out _⟩
  exact Kd.R_mono (Kd.R_bound (Kd.R_alloc (Kd.R_lower (Kd.R_bound HR.out) (Nat.zero_le _)) _)) (fun k hk => ⟨hk.1.2.1, by have := hk.1.2.2.1; omega⟩)
theorem new_okL (w : World) (A : Option Addr) (c : Nat) (l : List Int) (L : Nat) (hl : l.length = L) (hC : (Kd.int .u32).C w A l.length l) (hL : L ≤ 4096) :
    Calls Try.prog 8 #[.slice A L c] w fun e w' => ∃ b F, e = .returned (.tuple #[.pointer (some ⟨b, 0, none⟩), .int .i64 0]) ∧ DrawsAt w' F b l 0 ∧ (∀ k, F k → w.heap.size ≤ k) ∧ Below w.heap.size w w' := by
  subst hl
  exact new_ok w A c l hC hL
end Go.Proofs.Ytoofnjoipgkfbaa
