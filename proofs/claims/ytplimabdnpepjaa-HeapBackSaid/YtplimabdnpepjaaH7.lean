/- The document's heap: Less, first, Top, Pop. Conditions: what lies in memory as told. -/
import Derived.Test.YtplimabdnpepjaaH6
namespace Go.Proofs.Ytplimabdnpepjaa
open Go.RowKit Go.Proofs.YtplimabdnpepjaaW.PrintWords Lb

theorem less2_ok (w : World) (a b : Entry) : Calls Try.prog 17 #[.agg #[.int .i64 a.f, .int .i64 a.g, .int .i64 a.c], .agg #[.int .i64 b.f, .int .i64 b.g, .int .i64 b.c]] w fun e w' => e = .returned (.bool (lessE a b)) ∧ Below w.heap.size w w' := by
  rcases Int.lt_trichotomy a.f b.f with h1 | h1 | h1
  · have HL : Aside0 (lessE a b = true) := ⟨by rw [lessE_iff]; omega⟩
    go_enter Try.func17, Try.ntmps17
    go_wp2
    go_ret
    exact ⟨ret_bool HL.out.symm, below_alloc (below_alloc (Below.refl _ _) _) _⟩
  · have e1 : (a.f == b.f) = true := beq_iff_eq.2 h1
    have n1 : ¬ a.f < b.f := by omega
    rcases Int.lt_trichotomy b.g a.g with h2 | h2 | h2
    · have HL : Aside0 (lessE a b = true) := ⟨by rw [lessE_iff]; omega⟩
      clear h1
      go_enter Try.func17, Try.ntmps17
      go_wp2
      go_ret
      exact ⟨ret_bool HL.out.symm, below_alloc (below_alloc (Below.refl _ _) _) _⟩
    · have HL : Aside0 (lessE a b = decide (a.c < b.c)) := ⟨by simp [lessE, h1, h2]⟩
      have e2 : (a.g == b.g) = true := beq_iff_eq.2 h2.symm
      have n2 : ¬ b.g < a.g := by omega
      clear h1 h2
      go_enter Try.func17, Try.ntmps17
      go_wp2
      go_ret
      exact ⟨ret_bool HL.out.symm, below_alloc (below_alloc (Below.refl _ _) _) _⟩
    · have HL : Aside0 (lessE a b = false) := ⟨by rw [lessE_not]; omega⟩
      have e2 : (a.g == b.g) = false := beq_eq_false_iff_ne.2 (by omega)
      have n2 : ¬ b.g < a.g := by omega
      clear h1
      go_enter Try.func17, Try.ntmps17
      go_wp2
      go_ret
      exact ⟨ret_bool HL.out.symm, below_alloc (below_alloc (Below.refl _ _) _) _⟩
  · have HL : Aside0 (lessE a b = false) := ⟨by rw [lessE_not]; omega⟩
    have e1 : (a.f == b.f) = false := beq_eq_false_iff_ne.2 (by omega)
    have n1 : ¬ a.f < b.f := by omega
    go_enter Try.func17, Try.ntmps17
    go_wp2
    go_ret
    exact ⟨ret_bool HL.out.symm, below_alloc (below_alloc (Below.refl _ _) _) _⟩

theorem info38 : (Try.prog.info? 38).map (fun i => (i.zero, i.size, i.bytes)) = some (some (.agg #[.int .i64 0, .int .i64 0, .int .i64 0]), 3, 24) := by kernel_rfl
/-- The document's heap: block b, in the blocks F. -/
structure Rp (w : World) (F : Nat → Prop) (b : Nat) (l : List Entry) (A : Option Addr) (c : Nat) : Prop where
  lt : ∀ k, F k → k < w.heap.size
  hb : F b
  blk : w.heap[b]? = some (.cells #[.slice A l.length c] 37 (0, 0))
  row : kdE.R 38 w 0 F (.slice A l.length c) l
def Rf (w : World) (F : Nat → Prop) (b : Nat) (l : List Entry) : Prop := ∃ A c, Rp w F b l A c
theorem Rp.keep {w w1 : World} {F G : Nat → Prop} {b : Nat} {l : List Entry} {A : Option Addr} {c : Nat} (h : Rp w F b l A c) (hc : Chg G w w1) (hd : ∀ k, F k → ¬ G k) : Rp w1 F b l A c :=
  ⟨fun k hk => Nat.lt_of_lt_of_le (h.lt k hk) hc.size, h.hb, hc.blk h.blk (hd b h.hb), R_chg h.row hc hd⟩
theorem Rf.keep {w w1 : World} {F G : Nat → Prop} {b : Nat} {l : List Entry} (h : Rf w F b l) (hc : Chg G w w1) (hd : ∀ k, F k → ¬ G k) : Rf w1 F b l := by
  obtain ⟨A, c, h⟩ := h
  exact ⟨A, c, h.keep hc hd⟩
theorem Rf.below {w w1 : World} {F : Nat → Prop} {b : Nat} {l : List Entry} (h : Rf w F b l) (hb : Below w.heap.size w w1) : Rf w1 F b l :=
  h.keep (Chg.of_below (F := Non) hb) (fun _ _ e => e)
theorem Rf.lt {w : World} {F : Nat → Prop} {b : Nat} {l : List Entry} (h : Rf w F b l) : ∀ k, F k → k < w.heap.size := by
  obtain ⟨A, c, h⟩ := h
  exact h.lt
theorem Rf.hb {w : World} {F : Nat → Prop} {b : Nat} {l : List Entry} (h : Rf w F b l) : F b := by
  obtain ⟨A, c, h⟩ := h
  exact h.hb
theorem Rf.new (w : World) : Rf (w.alloc (.cells #[.slice none 0 0] 37)) (fun k => k = w.heap.size) w.heap.size [] :=
  ⟨none, 0, fun k hk => by subst hk; simp, rfl, blk_new _ _, Kd.R_nil _ _ _ _ _⟩
theorem Rp.c0 {w : World} {F : Nat → Prop} {b : Nat} {l : List Entry} {A : Option Addr} {c : Nat} (h : Rp w F b l A c) : w.cell? ⟨b, 0, none⟩ = some (.slice A l.length c) := by
  rw [blk_cell h.blk]; rfl

/-- The place of the first one of the first n; below 0: none. -/
def fstI (l : List Entry) : Nat → Int
  | 0 => -1
  | n + 1 => if fstI l n < 0 then (n : Int) else if lessE (entAt l n) (entAt l (fstI l n).toNat) = true then (n : Int) else fstI l n
theorem fst_spec (l : List Entry) : ∀ n, 0 < n → ∃ q : Nat, fstI l n = (q : Int) ∧ q < n ∧ ∀ j, j < n → leE (entAt l q) (entAt l j)
  | 0, h => by omega
  | n + 1, _ => by
    rcases Nat.eq_zero_or_pos n with h | h
    · subst h
      refine ⟨0, rfl, by omega, fun j hj => ?_⟩
      have : j = 0 := by omega
      subst this
      exact leE_refl _
    · obtain ⟨q, h1, h2, h3⟩ := fst_spec l n h
      unfold fstI
      rw [h1, if_neg (by omega), Int.toNat_natCast]
      split
      · rename_i hl
        refine ⟨n, rfl, by omega, fun j hj => ?_⟩
        by_cases e : j = n
        · subst e; exact leE_refl _
        · exact leE_trans (leE_of_less hl) (h3 j (by omega))
      · rename_i hl
        refine ⟨q, rfl, by omega, fun j hj => ?_⟩
        by_cases e : j = n
        · subst e; unfold leE; simpa using hl
        · exact h3 j (by omega)
theorem fst_yes {l : List Entry} {n q : Nat} (h : fstI l n = (q : Int)) (hl : lessE (entAt l n) (entAt l q) = true) : fstI l (n + 1) = (n : Int) := by
  unfold fstI; rw [h, if_neg (by omega), Int.toNat_natCast, if_pos hl]
theorem fst_no {l : List Entry} {n q : Nat} (h : fstI l n = (q : Int)) (hl : lessE (entAt l n) (entAt l q) = false) : fstI l (n + 1) = (q : Int) := by
  unfold fstI; rw [h, if_neg (by omega), Int.toNat_natCast, if_neg (by rw [hl]; simp)]

set_option maxRecDepth 100000 in
set_option maxHeartbeats 2000000 in
theorem first_ok {w : World} {F : Nat → Prop} {b : Nat} {l : List Entry} (h : Rf w F b l) (hl : l.length ≤ 1000000) :
    Calls Try.prog 18 #[.pointer (some ⟨b, 0, none⟩)] w fun e w' => e = .returned (.int .i64 (fstI l l.length)) ∧ Below w.heap.size w w' := by
  obtain ⟨A, c, h⟩ := h
  have H := Aside0.mk h
  clear h
  go_enter Try.func18, Try.ntmps18
  go_wp2
  go_loopg [3, 4] l.length (fun gk v3 v4 wr => ∃ i : Nat, v4 = .int .i64 (i : Int) ∧ v3 = .int .i64 (fstI l i) ∧ Aside0 (i + gk = l.length) ∧ Aside0 (Below w.heap.size w wr))
  case atStart => exact ⟨0, rfl, rfl, ⟨by omega⟩, ⟨Below.refl _ _⟩⟩
  case round =>
    obtain ⟨i, rfl, rfl, HI, HB⟩ := hrel
    have HC : Aside0 (Rp wr F b l A c) := ⟨H.out.keep (Chg.of_below (F := Non) HB.out) (fun _ _ e => e)⟩
    have h0 := HC.out.c0
    have hI := HI.out
    cases gk with
    | zero =>
      have hi : (l.length : Int) ≤ (i : Int) := by omega
      have HE : Aside0 (i = l.length) := ⟨by omega⟩
      clear hI
      go_wp2
      go_ret
      exact ⟨ret_int (by rw [HE.out]), HB.out⟩
    | succ k1 =>
      have hi : (i : Int) < (l.length : Int) := by omega
      have hil : i < l.length := by omega
      clear hI
      rcases Nat.eq_zero_or_pos i with hz | hz
      · subst hz
        have hneg : fstI l 0 = -1 := rfl
        rw [hneg]
        clear hneg
        go_wp2_with fail
        go_quiet (fail)
        go_wp2
        go_roundg k1
        case measure => omega
        case rel => exact ⟨1, by go_num, rfl, ⟨by have := HI.out; omega⟩, ⟨HB.out.trans (pw_below_drewN (Below.refl _ _) _)⟩⟩
      · obtain ⟨q, hq, hqi, _⟩ := fst_spec l i hz
        rw [hq]
        have HQ := Aside0.mk hq
        have hql : q < l.length := by omega
        have hq1 : (q : Int) < (l.length : Int) := by omega
        have hq0 : (0 : Int) ≤ (q : Int) := by omega
        have hq3 : decide ((q : Int) < 0) = false := decide_eq_false (by omega)
        obtain ⟨g, hA, _, _, hcell, _⟩ := F_elem HC.out.row i (entAt l i) (entAt_some hil)
        obtain ⟨g', hg', _, _, hcellq, _⟩ := F_elem HC.out.row q (entAt l q) (entAt_some hql)
        rw [hA] at hg'
        injection hg' with hg'
        injection hg' with hg'
        subst hg'
        subst hA
        have hc0 : wr.cell? ⟨g, i * 3, none⟩ = some (.int .i64 (entAt l i).f) := hcell 0 _ rfl
        have hc1 : wr.cell? ⟨g, i * 3 + 1, none⟩ = some (.int .i64 (entAt l i).g) := hcell 1 _ rfl
        have hc2 : wr.cell? ⟨g, i * 3 + 2, none⟩ = some (.int .i64 (entAt l i).c) := hcell 2 _ rfl
        have hd0 : wr.cell? ⟨g, q * 3, none⟩ = some (.int .i64 (entAt l q).f) := hcellq 0 _ rfl
        have hd1 : wr.cell? ⟨g, q * 3 + 1, none⟩ = some (.int .i64 (entAt l q).g) := hcellq 1 _ rfl
        have hd2 : wr.cell? ⟨g, q * 3 + 2, none⟩ = some (.int .i64 (entAt l q).c) := hcellq 2 _ rfl
        clear hcell hcellq hq hqi hz
        go_wp2_with fail
        go_region_held3 (fun w' => w'.cell? ⟨b, 0, none⟩ = some (.slice (some ⟨g, 0, none⟩) l.length c) ∧ w'.cell? ⟨g, i * 3, none⟩ = some (.int .i64 (entAt l i).f) ∧ w'.cell? ⟨g, i * 3 + 1, none⟩ = some (.int .i64 (entAt l i).g) ∧ w'.cell? ⟨g, i * 3 + 2, none⟩ = some (.int .i64 (entAt l i).c) ∧ w'.cell? ⟨g, q * 3, none⟩ = some (.int .i64 (entAt l q).f) ∧ w'.cell? ⟨g, q * 3 + 1, none⟩ = some (.int .i64 (entAt l q).g) ∧ w'.cell? ⟨g, q * 3 + 2, none⟩ = some (.int .i64 (entAt l q).c)) (first | exact ⟨h0, hc0, hc1, hc2, hd0, hd1, hd2⟩ | exact ⟨bs5 _ _ (by assumption), bs5 _ _ (by assumption), bs5 _ _ (by assumption), bs5 _ _ (by assumption), bs5 _ _ (by assumption), bs5 _ _ (by assumption), bs5 _ _ (by assumption)⟩ | go_keep) (first | (go_at_call 17; refine (less2_ok _ (entAt l i) (entAt l q)).mono ?_; rintro e w5 ⟨rfl, hb5⟩; have bs5 := bsome hb5))
        have HB5 := Aside0.mk (HB.out.trans ((below_drew (Below.refl _ _)).trans (hb5.mono (Nat.le_refl _)) |>.mono HB.out.size))
        clear bs5 hb5 h0 hc0 hc1 hc2 hd0 hd1 hd2
        cases hL : lessE (entAt l i) (entAt l q)
        · have HLs := Aside0.mk hL
          clear hL
          go_wp2
          go_roundg k1
          case measure => omega
          case rel => exact ⟨i + 1, by go_num, by rw [fst_no HQ.out HLs.out], ⟨by have := HI.out; omega⟩, HB5⟩
        · have HLs := Aside0.mk hL
          clear hL
          go_wp2
          go_roundg k1
          case measure => omega
          case rel => exact ⟨i + 1, by go_num, by rw [fst_yes HQ.out HLs.out], ⟨by have := HI.out; omega⟩, HB5⟩
end Go.Proofs.Ytplimabdnpepjaa
