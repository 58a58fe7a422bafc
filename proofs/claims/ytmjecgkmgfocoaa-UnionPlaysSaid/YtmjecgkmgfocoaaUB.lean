/- Pairs as arguments; a union beside the document's. Conditions: what lies in memory as told. -/
import Derived.Test.YtmjecgkmgfocoaaUA
import Derived.Test.YtmjecgkmgfocoaaOpen
namespace Go.Proofs.Ytmjecgkmgfocoaa
open Go.RowKit Go.Proofs.YtmjecgkmgfocoaaW.PrintWords Go.Proofs.YtmjecgkmgfocoaaW.PrintLast Go.Proofs.YtmjecgkmgfocoaaW.PrintMore Lb

structure Pr where
  a : Int
  b : Int
def encP (p : Pr) : List Value := [.int .i64 p.a, .int .i64 p.b]
theorem encP_len (p : Pr) : (encP p).length = 2 := rfl
theorem encP_one (p : Pr) : ∀ u ∈ encP p, u.oneCell' = true := by
  intro u hu
  simp [encP] at hu
  rcases hu with rfl | rfl <;> rfl
abbrev kdP : Kd Pr := flatK 2 encP encP_len encP_one
theorem opens_pr : Opn.Opens Try.prog kdP 32 (fun _ => True) := by
  intro H enc w base spare held fuel cs y h hz
  obtain ⟨xs, n, _, rfl, hl, hlen, hf⟩ := DataW.trod_struct Try.underlying32 h
  have hl3 : cs.length = 2 := hl.trans (by kernel_rfl)
  match cs, hl3, xs, hlen with
  | [c0, c1], _, [y0, y1], _ =>
    have h0 := hf 0 _ rfl
    have h1 := hf 1 _ rfl
    simp only [List.map_cons, List.map_nil, DataW.weights, Try.underlying32, List.mem_append, DataW.weightsEach] at hz
    obtain ⟨a, e0, w0⟩ := Opn.opens_int Try.underlying3 H enc w base spare held n _ _ h0 (fun z hz' => hz z (by simp; exact .inl hz'))
    obtain ⟨b, e1, w1⟩ := Opn.opens_int Try.underlying3 H enc w base spare held n _ _ h1 (fun z hz' => hz z (by simp; exact .inr hz'))
    have e0' : [c0] = [Value.int .i64 a] := e0
    have e1' : [c1] = [Value.int .i64 b] := e1
    injection e0' with e0'
    injection e1' with e1'
    subst e0' e1'
    exact ⟨⟨a, b⟩, rfl, trivial⟩
def prAt (l : List Pr) (i : Nat) : Pr := l.getD i ⟨0, 0⟩
theorem add_flat (g o k : Nat) : (Addr.mk g o none).add k = ⟨g, o + k, none⟩ := by
  unfold Addr.add
  split
  · next h => subst h; rfl
  · rfl
/-- Pair i of a list. -/
theorem pr_at {w : World} {A : Option Addr} {n : Nat} {l : List Pr} (h : kdP.C w A n l) (i : Nat) (hi : i < n) :
    ∃ g o, A = some ⟨g, o, none⟩ ∧ w.cell? ⟨g, o + i * 2, none⟩ = some (.int .i64 (prAt l i).a) ∧ w.cell? ⟨g, o + i * 2 + 1, none⟩ = some (.int .i64 (prAt l i).b) := by
  obtain ⟨ad, c, e, _, hK, hc⟩ := Kd.C_get h ⟨0, 0⟩ (i : Int) (by omega) (by omega)
  simp only [Int.toNat_natCast] at hK hc
  have hk : c = encP (prAt l i) := hK
  subst hk
  have hc' : ∀ j u, (encP (prAt l i))[j]? = some u → w.cell? (ad.add (i * 2 + j)) = some u := hc
  obtain ⟨g, o, sp⟩ := ad
  have hsp : sp = none := by
    obtain ⟨ad0, c0, e0, _, hK0, hc0⟩ := Kd.C_get h ⟨0, 0⟩ (0 : Int) (by omega) (by omega)
    have hk0 : c0 = encP (prAt l 0) := hK0
    subst hk0
    rw [e] at e0
    injection e0 with e0
    subst e0
    have h1 : w.cell? ⟨g, o, sp⟩ = some (.int .i64 (prAt l 0).a) := hc0 0 _ rfl
    unfold World.cell? at h1
    split at h1
    · cases sp with
      | none => rfl
      | some x => simp at h1
    · cases h1
  subst hsp
  refine ⟨g, o, e, ?_, ?_⟩
  · have := hc' 0 _ rfl; rwa [add_flat] at this
  · have := hc' 1 _ rfl; rwa [add_flat, ← Nat.add_assoc] at this

/-- All joins of a list, in its order. -/
def joins : List Nat → List Pr → List Nat
  | L, [] => L
  | L, p :: l => joins (joinP L p.a p.b) l
theorem joins_len : ∀ (l : List Pr) (L : List Nat), (joins L l).length = L.length
  | [], _ => rfl
  | p :: l, L => by rw [joins, joins_len l, joinP_len]
theorem joins_app : ∀ (l m : List Pr) (L : List Nat), joins L (l ++ m) = joins (joins L l) m
  | [], _, _ => rfl
  | p :: l, m, L => by rw [List.cons_append, joins, joins, joins_app l m]
theorem take_pr {l : List Pr} {i : Nat} (h : i < l.length) : l.take (i + 1) = l.take i ++ [prAt l i] := by
  rw [List.take_succ_eq_append_getElem h]
  simp [prAt, h]
theorem joins_next {l : List Pr} {i : Nat} (h : i < l.length) (L : List Nat) : joins L (l.take (i + 1)) = joinP (joins L (l.take i)) (prAt l i).a (prAt l i).b := by
  rw [take_pr h, joins_app]; rfl

/-- A union and the document's. -/
structure Pl (w0 w : World) (b g1 g2 g3 : Nat) (L : List Nat) (F : Nat → Prop) (b2 : Nat) (M : List Nat) : Prop where
  u : Us w0 w b g1 g2 g3 L
  r : Ro w F b2 M
  rg : ∀ k, F k → w0.heap.size ≤ k
  dj : ∀ k, UF b g1 g2 g3 k → ¬ F k
section
variable {w0 w w1 : World} {b g1 g2 g3 b2 : Nat} {F : Nat → Prop} {L L' M M' : List Nat}
theorem Pl.stepu (h : Pl w0 w b g1 g2 g3 L F b2 M) (h1 : Uo w1 b g1 g2 g3 L') (hc : Chg (UF b g1 g2 g3) w w1) : Pl w0 w1 b g1 g2 g3 L' F b2 M :=
  ⟨h.u.step h1 hc, h.r.keep hc (fun k h2 h3 => h.dj k h3 h2), h.rg, h.dj⟩
theorem Pl.stepr (h : Pl w0 w b g1 g2 g3 L F b2 M) (h1 : Ro w1 F b2 M') (hc : Chg F w w1) : Pl w0 w1 b g1 g2 g3 L F b2 M' :=
  ⟨⟨h.u.uo.keep hc h.dj, h.u.ge, h.u.bl.trans (hc.below h.u.bl.size h.rg)⟩, h1, h.rg, h.dj⟩
theorem Pl.below (h : Pl w0 w b g1 g2 g3 L F b2 M) (hb : Below w.heap.size w w1) : Pl w0 w1 b g1 g2 g3 L F b2 M :=
  ⟨⟨h.u.uo.below hb, h.u.ge, h.u.bl.trans ((Chg.of_below (F := Non) hb).below h.u.bl.size (fun _ e => e.elim))⟩, h.r.below hb, h.rg, h.dj⟩
theorem Pl.drew (h : Pl w0 w b g1 g2 g3 L F b2 M) : Pl w0 w.drew b g1 g2 g3 L F b2 M := h.below ((Chg.refl Non w).drew.non)
theorem Pl.drewN (h : Pl w0 w b g1 g2 g3 L F b2 M) (n : Nat) : Pl w0 (w.drewN n) b g1 g2 g3 L F b2 M := h.below (((Chg.refl Non w).drewN n).non)
theorem Pl.make (h : Us w0 w b g1 g2 g3 L) (h1 : Ro w1 F b2 M) (hg : ∀ k, F k → w.heap.size ≤ k) (hb : Below w.heap.size w w1) : Pl w0 w1 b g1 g2 g3 L F b2 M :=
  ⟨⟨h.uo.below hb, h.ge, h.bl.trans ((Chg.of_below (F := Non) hb).below h.bl.size (fun _ e => e.elim))⟩, h1, fun k hk => Nat.le_trans h.bl.size (hg k hk), fun k h1 h2 => by have := h.uo.lt k h1; have := hg k h2; omega⟩
theorem join_pu (h : Pl w0 w b g1 g2 g3 L F b2 M) (x y : Int) : Calls Try.prog 13 #[.pointer (some ⟨b, 0, none⟩), .int .i64 x, .int .i64 y] w fun e w' => e = .returned (.bool (canP L x y)) ∧ Pl w0 w' b g1 g2 g3 (joinP L x y) F b2 M :=
  (join_ok h.u.uo x y).mono (by rintro e w' ⟨rfl, h1, h2⟩; exact ⟨rfl, h.stepu h1 h2⟩)
theorem join_pr (h : Pl w0 w b g1 g2 g3 L F b2 M) (hl : M.length ≤ 1000000) (x y : Int) : Calls Try.prog 17 #[.pointer (some ⟨b2, 0, none⟩), .int .i64 x, .int .i64 y] w fun e w' => e = .returned (.bool (canP M x y)) ∧ Pl w0 w' b g1 g2 g3 L F b2 (joinP M x y) :=
  (rjoin_ok h.r hl x y).mono (by rintro e w' ⟨rfl, h1, h2⟩; exact ⟨rfl, h.stepr h1 h2⟩)
theorem name_pu (h : Pl w0 w b g1 g2 g3 L F b2 M) (x : Int) : Calls Try.prog 12 #[.pointer (some ⟨b, 0, none⟩), .int .i64 x] w fun e w' => e = .returned (.int .i64 (nameP L x)) ∧ Pl w0 w' b g1 g2 g3 L F b2 M :=
  (name_ok h.u.uo x).mono (by rintro e w' ⟨rfl, h1, h2⟩; exact ⟨rfl, h.stepu h1 h2⟩)
theorem size_pu (h : Pl w0 w b g1 g2 g3 L F b2 M) (x : Int) : Calls Try.prog 15 #[.pointer (some ⟨b, 0, none⟩), .int .i64 x] w fun e w' => e = .returned (.int .i64 (sizeP L x)) ∧ Pl w0 w' b g1 g2 g3 L F b2 M :=
  (size_ok h.u.uo x).mono (by rintro e w' ⟨rfl, h1, h2⟩; exact ⟨rfl, h.stepu h1 h2⟩)
theorem same_pu (h : Pl w0 w b g1 g2 g3 L F b2 M) (x y : Int) : Calls Try.prog 14 #[.pointer (some ⟨b, 0, none⟩), .int .i64 x, .int .i64 y] w fun e w' => e = .returned (.bool (sameP L x y)) ∧ Pl w0 w' b g1 g2 g3 L F b2 M :=
  (same_ok h.u.uo x y).mono (by rintro e w' ⟨rfl, h1, h2⟩; exact ⟨rfl, h.stepu h1 h2⟩)
theorem sets_pu (h : Pl w0 w b g1 g2 g3 L F b2 M) : Calls Try.prog 11 #[.pointer (some ⟨b, 0, none⟩)] w fun e w' => e = .returned (.int .i64 (setsOf L : Nat)) ∧ w = w' := sets_ok h.u.uo
theorem len_pu (h : Pl w0 w b g1 g2 g3 L F b2 M) : Calls Try.prog 21 #[.pointer (some ⟨b, 0, none⟩)] w fun e w' => e = .returned (.int .i64 (L.length : Nat)) ∧ w = w' := len_ok h.u.uo
theorem name_pr (h : Pl w0 w b g1 g2 g3 L F b2 M) (x : Int) : Calls Try.prog 18 #[.pointer (some ⟨b2, 0, none⟩), .int .i64 x] w fun e w' => e = .returned (.int .i64 (nameP M x)) ∧ w = w' := rname_ok h.r x
theorem size_pr (h : Pl w0 w b g1 g2 g3 L F b2 M) (hl : M.length ≤ 1000000) (x : Int) : Calls Try.prog 19 #[.pointer (some ⟨b2, 0, none⟩), .int .i64 x] w fun e w' => e = .returned (.int .i64 (sizeP M x)) ∧ w = w' := rsize_ok h.r hl x
theorem sets_pr (h : Pl w0 w b g1 g2 g3 L F b2 M) (hl : M.length ≤ 1000000) : Calls Try.prog 20 #[.pointer (some ⟨b2, 0, none⟩)] w fun e w' => e = .returned (.int .i64 (setsOf M : Nat)) ∧ w = w' := rsets_ok h.r hl
end
theorem same_name (L : List Nat) (x y : Int) : sameP L x y = (decide (0 ≤ nameP L x) && (nameP L x == nameP L y)) := by
  have h0 : ∀ z : Int, isM L z = true → nameP L z = (at0 L z.toNat : Nat) := fun z hz => if_pos ((isM_iff _ _).1 hz)
  have h1 : ∀ z : Int, isM L z = false → nameP L z = -1 := fun z hz => if_neg (fun e => by rw [(isM_iff _ _).2 e] at hz; cases hz)
  unfold sameP
  cases hx : isM L x
  · rw [h1 x hx]; rfl
  · cases hy : isM L y
    · rw [h0 x hx, h1 y hy]
      have : ((at0 L x.toNat : Nat) : Int) ≠ -1 := by omega
      rw [beq_eq_false_iff_ne.2 this]
      simp
    · rw [h0 x hx, h0 y hy]
      have : decide (0 ≤ ((at0 L x.toNat : Nat) : Int)) = true := decide_eq_true (by omega)
      rw [this, Bool.true_and, Bool.true_and, Bool.true_and]
      by_cases e : at0 L x.toNat = at0 L y.toNat
      · rw [e]; simp
      · rw [beq_eq_false_iff_ne.2 e, beq_eq_false_iff_ne.2 (by omega)]
end Go.Proofs.Ytmjecgkmgfocoaa
