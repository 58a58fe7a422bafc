/- HeapKnown's walk. Conditions: none. -/
import Derived.Test.YtplimabdnpepjaaHB
namespace Go.Proofs.Ytplimabdnpepjaa
open Go.RowKit Go.Proofs.YtplimabdnpepjaaW.PrintWords Go.Proofs.YtplimabdnpepjaaW.PrintLast Go.Proofs.YtplimabdnpepjaaW.PrintMore Lb

/-- All of a list, put in one by one. -/
def insAll (l : List Entry) : List Entry := l.foldl (fun S x => ins x S) []
theorem insAll_snoc (l : List Entry) (x : Entry) : insAll (l ++ [x]) = ins x (insAll l) := by simp [insAll]
theorem insAll_take {l : List Entry} {i : Nat} (h : i < l.length) : insAll (l.take (i + 1)) = ins (entAt l i) (insAll (l.take i)) := by
  rw [List.take_succ_eq_append_getElem h, insAll_snoc, entAt_get h]
theorem insAll_perm : ∀ (n : Nat) (l : List Entry), l.length = n → (insAll l).Perm l
  | 0, l, h => by rw [List.eq_nil_of_length_eq_zero h]; exact List.Perm.refl _
  | n + 1, l, h => by
    have e := insAll_take (l := l) (i := n) (by omega)
    rw [List.take_of_length_le (by omega)] at e
    rw [e]
    have h1 := insAll_perm n (l.take n) (by rw [List.length_take]; omega)
    refine (ins_perm _ _).trans ((h1.cons _).trans ?_)
    have h2 := take_drop_perm (l := l) (q := n) (by omega)
    rw [List.drop_eq_nil_of_le (by omega), List.append_nil] at h2
    exact h2.symm
theorem insAll_len (l : List Entry) : (insAll l).length = l.length := (insAll_perm _ l rfl).length_eq
theorem C_of_blk {w : World} {L : Nat} {t : TypeId} (xs : List Entry) (hl : xs.length ≤ 1000000) (h : w.heap[L]? = some (.cells (flat encE xs).toArray t (0, 0))) : kdE.C w (some ⟨L, 0, none⟩) xs.length xs :=
  ⟨rfl, by omega, fun _ => ⟨_, rfl, fun j p hj => ⟨encE p, rfl, rfl, fun i u hu => by
    have hi : i < 3 := by have := (List.getElem?_eq_some_iff.1 hu).1; exact this
    rw [add_plain, blk_cell h]
    have e := flat_get encE_len xs j i p hj hi
    show (flat encE xs).toArray[j * 3 + i]? = some u
    rw [List.getElem?_toArray, e]
    exact hu⟩⟩⟩

theorem ent_at0 {w : World} {L n : Nat} {l : List Entry} (h : kdE.C w (some ⟨L, 0, none⟩) n l) (i : Nat) (hi : i < n) :
    w.cell? ⟨L, i * 3, none⟩ = some (.int .i64 (entAt l i).f) ∧ w.cell? ⟨L, i * 3 + 1, none⟩ = some (.int .i64 (entAt l i).g) ∧ w.cell? ⟨L, i * 3 + 2, none⟩ = some (.int .i64 (entAt l i).c) := by
  obtain ⟨g, o, e, h0, h1, h2⟩ := ent_at h i hi
  injection e with e
  injection e with e1 e2
  subst e1 e2
  simp only [Nat.zero_add] at h0 h1 h2
  exact ⟨h0, h1, h2⟩
def lits : List Entry := [⟨5, 1, 9⟩, ⟨5, 2, 3⟩, ⟨4, 0, 7⟩, ⟨5, 2, 1⟩]

/-- What holds in the loops. -/
structure Kn (w wr : World) (F : Nat → Prop) (S : List Entry) : Prop where
  ho : HO wr F w.heap.size S
  mi : Mine w.heap.size w wr F
  f1 : ∀ k, F k → k ≠ w.heap.size + 1
  f2 : ∀ k, F k → k ≠ w.heap.size + 2
  l1 : wr.heap[w.heap.size + 1]? = some (.cells (flat encE lits).toArray 27 (0, 0))
  l2 : wr.heap[w.heap.size + 2]? = some (.cells #[.int .i64 7, .int .i64 1, .int .i64 3, .int .i64 9] 3 (0, 0))
theorem Kn.step {w wr w' : World} {F F' : Nat → Prop} {S S' : List Entry} (h : Kn w wr F S) (ho : HO w' F' w.heap.size S') (hF : ∀ k, F' k → F k ∨ wr.heap.size ≤ k) (hC : Chg F wr w') : Kn w w' F' S' :=
  ⟨ho, h.mi.step (h.mi.size (Nat.le_refl _)) hC hF, fun k hk => by rcases hF k hk with e | e; exact h.f1 k e; have := blk_lt h.l1; omega, fun k hk => by rcases hF k hk with e | e; exact h.f2 k e; have := blk_lt h.l2; omega,
   hC.blk h.l1 (fun e => h.f1 _ e rfl), hC.blk h.l2 (fun e => h.f2 _ e rfl)⟩
theorem Kn.below {w wr w' : World} {F : Nat → Prop} {S : List Entry} (h : Kn w wr F S) (hb : Below wr.heap.size wr w') : Kn w w' F S :=
  h.step (h.ho.below hb) (fun _ e => .inl e) (Chg.of_below hb)

set_option maxRecDepth 100000 in
set_option maxHeartbeats 4000000 in
theorem known_walk (w : World) : Calls Try.prog 3 #[] w fun e w' => e = .returned (.bool true) ∧ Below w.heap.size w w' := by
  have hK : Kn w (((w.alloc (.cells #[.slice none 0 0] 25)).alloc (.cells (flat encE lits).toArray 27)).alloc (.cells #[.int .i64 7, .int .i64 1, .int .i64 3, .int .i64 9] 3)) (fun k => k = w.heap.size) (insAll (lits.take 0)) := by
    have c1 := ((Chg.refl Non (w.alloc (.cells #[.slice none 0 0] 25))).alloc (.cells (flat encE lits).toArray 27)).alloc (.cells #[.int .i64 7, .int .i64 1, .int .i64 3, .int .i64 9] 3)
    have n1 : (w.alloc (.cells #[.slice none 0 0] 25)).heap.size = w.heap.size + 1 := by simp
    have n2 : ((w.alloc (.cells #[.slice none 0 0] 25)).alloc (.cells (flat encE lits).toArray 27)).heap.size = w.heap.size + 2 := by simp
    have b1 := ((Chg.refl Non _).alloc (.cells #[.int .i64 7, .int .i64 1, .int .i64 3, .int .i64 9] 3)).blk (blk_new (w.alloc (.cells #[.slice none 0 0] 25)) (.cells (flat encE lits).toArray 27)) (fun e => e)
    have b2 := blk_new ((w.alloc (.cells #[.slice none 0 0] 25)).alloc (.cells (flat encE lits).toArray 27)) (.cells #[.int .i64 7, .int .i64 1, .int .i64 3, .int .i64 9] 3)
    rw [n1] at b1
    rw [n2] at b2
    exact ⟨(HO.new w).keep c1 (fun _ _ e => e), ⟨fun k e => by omega, below_alloc (below_alloc (below_alloc (Below.refl _ _) _) _) _⟩, fun k e => by omega, fun k e => by omega, b1, b2⟩
  have HK := Aside0.mk hK
  have hlit : (flat encE lits).toArray = #[.int .i64 5, .int .i64 1, .int .i64 9, .int .i64 5, .int .i64 2, .int .i64 3, .int .i64 4, .int .i64 0, .int .i64 7, .int .i64 5, .int .i64 2, .int .i64 1] := rfl
  have HLi := Aside0.mk hlit
  clear hK hlit
  go_enter Try.func3, Try.ntmps3
  go_wp2
  rw [← HLi.out]
  go_loopg [4] 4 (fun gk v wr => ∃ (i : Nat) (F : Nat → Prop), v = .int .i64 (i : Int) ∧ Aside0 (i + gk = 4) ∧ Aside0 (Kn w wr F (insAll (lits.take i))))
  case atStart => exact ⟨0, _, rfl, ⟨rfl⟩, HK⟩
  case round =>
    obtain ⟨i, F, rfl, HI, HKn⟩ := hrel
    have hI := HI.out
    cases gk with
    | succ k1 =>
      have hi : (i : Int) < 4 := by omega
      have hin : i < 4 := by omega
      obtain ⟨h0, h1, h2⟩ := ent_at0 (C_of_blk lits (by decide) HKn.out.l1) i hin
      have HS := Aside0.mk (insAll_take (l := lits) (i := i) hin)
      have HL : Aside0 ((insAll (lits.take i)).length ≤ 100000) := ⟨by rw [insAll_len, List.length_take]; omega⟩
      clear hI
      go_wp2_with fail
      refine (push_S HKn.out.ho (entAt lits i) HL.out).mono ?_
      rintro e w2 ⟨rfl, F2, hA, hF, hC⟩
      have HK2 := Aside0.mk (HKn.out.step hA hF hC)
      clear hA hF hC h0 h1 h2
      go_wp2
      go_roundg k1
      case measure => omega
      case rel => exact ⟨i + 1, F2, by go_num, ⟨by have := HI.out; omega⟩, ⟨by rw [HS.out]; exact HK2.out⟩⟩
    | zero =>
      have hi : (4 : Int) ≤ (i : Int) := by omega
      have h4 : i = 4 := by omega
      subst h4
      have HD := Aside0.mk (show Kn w wr F ([⟨4, 0, 7⟩, ⟨5, 2, 1⟩, ⟨5, 2, 3⟩, ⟨5, 1, 9⟩] : List Entry) from HKn.out)
      clear hI HKn
      go_wp2
      go_loopg [5] 4 (fun gk v wr => ∃ (j : Nat) (F : Nat → Prop), v = .int .i64 (j : Int) ∧ Aside0 (j + gk = 4) ∧ Aside0 (Kn w wr F (([⟨4, 0, 7⟩, ⟨5, 2, 1⟩, ⟨5, 2, 3⟩, ⟨5, 1, 9⟩] : List Entry).drop j)))
      case atStart => exact ⟨0, F, rfl, ⟨rfl⟩, HD⟩
      case round =>
        obtain ⟨j, F', rfl, HJ, HKj⟩ := hrel
        have hJ := HJ.out
        cases gk with
        | succ k1 =>
          obtain ⟨x, S, hS, hx⟩ : ∃ (x : Entry) (S : List Entry), ([⟨4, 0, 7⟩, ⟨5, 2, 1⟩, ⟨5, 2, 3⟩, ⟨5, 1, 9⟩] : List Entry).drop j = x :: S ∧ wr.cell? ⟨w.heap.size + 2, j, none⟩ = some (.int .i64 x.c) := by
            have : j = 0 ∨ j = 1 ∨ j = 2 ∨ j = 3 := by omega
            rcases this with rfl | rfl | rfl | rfl
            · exact ⟨_, _, rfl, by rw [blk_cell HKj.out.l2]; rfl⟩
            · exact ⟨_, _, rfl, by rw [blk_cell HKj.out.l2]; rfl⟩
            · exact ⟨_, _, rfl, by rw [blk_cell HKj.out.l2]; rfl⟩
            · exact ⟨_, _, rfl, by rw [blk_cell HKj.out.l2]; rfl⟩
          have hK1 := HKj.out
          rw [hS] at hK1
          have HK1 := Aside0.mk hK1
          have HS1 : Aside0 (([⟨4, 0, 7⟩, ⟨5, 2, 1⟩, ⟨5, 2, 3⟩, ⟨5, 1, 9⟩] : List Entry).drop (j + 1) = S) := ⟨by rw [← List.drop_drop, hS]; rfl⟩
          have HSl : Aside0 (S.length ≤ 100000) := ⟨by have := congrArg List.length hS; simp at this; omega⟩
          have hj : (j : Int) < 4 := by omega
          have hj0 : (0 : Int) ≤ (j : Int) := by omega
          have HX := Aside0.mk hx
          clear hJ hK1 hS hx HKj
          go_wp2_with fail
          refine (pop_S HK1.out.ho HSl.out).mono ?_
          rintro e w2 ⟨rfl, hA, hC⟩
          have HK2 := Aside0.mk (HK1.out.step hA (fun _ e => .inl e) hC)
          have HK3 := Aside0.mk (HK2.out.below (below_alloc (Below.refl _ _) (.cells #[.int .i64 x.f, .int .i64 x.g, .int .i64 x.c] 27)))
          have hx2 : (w2.alloc (.cells #[.int .i64 x.f, .int .i64 x.g, .int .i64 x.c] 27)).cell? ⟨w.heap.size + 2, j, none⟩ = some (.int .i64 x.c) := by
            have := HX.out
            rw [blk_cell HK1.out.l2] at this
            rw [blk_cell HK3.out.l2]
            exact this
          have hx3 : (w2.alloc (.cells #[.int .i64 x.f, .int .i64 x.g, .int .i64 x.c] 27)).cell? ⟨w2.heap.size, 2, none⟩ = some (.int .i64 x.c) := by rw [blk_cell (blk_new w2 _)]; rfl
          clear hA hC
          go_wp2_with fail
          go_quiet (fail)
          go_wp2
          go_roundg k1
          case measure => omega
          case rel => exact ⟨j + 1, F', by go_num, ⟨by have := HJ.out; omega⟩, ⟨by rw [HS1.out]; exact HK3.out.below (pw_below_drewN (Below.refl _ _) _)⟩⟩
        | zero =>
          have hj : (4 : Int) ≤ (j : Int) := by omega
          have h4 : j = 4 := by omega
          subst h4
          have HE := Aside0.mk (show Kn w wr F' [] from HKj.out)
          clear hJ HKj
          go_wp2_with fail
          refine (pop_S0 HE.out.ho).mono ?_
          rintro e w2 ⟨rfl, hb⟩
          have HE2 := Aside0.mk ((HE.out.below hb).below (below_alloc (Below.refl _ _) (.cells #[.int .i64 0, .int .i64 0, .int .i64 0] 27)))
          clear hb
          go_wp2_with fail
          refine (awake_yes _).mono ?_
          rintro e w3 ⟨rfl, hb⟩
          have HE3 := Aside0.mk (HE2.out.below hb)
          clear hb
          go_wp2
          go_ret
          exact ⟨rfl, HE3.out.mi.bel⟩
end Go.Proofs.Ytplimabdnpepjaa
