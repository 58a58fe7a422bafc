/- The contracts of the document's arena: Is, Drop, Take. Conditions: what lies in memory as told. -/
import Derived.Test.YtckimhfbbfpddaaProg
import Derived.Test.YtckimhfbbfpddaaFlat
import Derived.Deep.DeepMust
import Derived.BigRegion
import Derived.ChangeAlike
namespace Go.Proofs.Ytckimhfbbfpddaa
open Go.RowKit Go.Proofs.YtckimhfbbfpddaaW.PrintWords Lb

theorem rinfo9 : (Try.prog.info? 9).map (fun i => (i.zero, i.size, i.bytes)) = some (some (.string ⟨#[]⟩), 1, 16) := by kernel_rfl
theorem rinfo4 : (Try.prog.info? 4).map (fun i => (i.zero, i.size, i.bytes)) = some (some (.bool false), 1, 1) := by kernel_rfl
theorem rinfo3 : (Try.prog.info? 3).map (fun i => (i.zero, i.size, i.bytes)) = some (some (.int .i64 0), 1, 8) := by kernel_rfl

/-- A block of this type. -/
def Ty (w : World) (q : Nat) (k : Nat) : Prop := ∃ cells, w.heap[k]? = some (.cells cells q (0, 0))
theorem Ty.ne {w : World} {q r k : Nat} (h : Ty w q k) (hr : Ty w r k) : q = r := by
  obtain ⟨c, h⟩ := h
  obtain ⟨d, hr⟩ := hr
  rw [h] at hr
  injection hr with hr
  injection hr
theorem R_ty {α : Type} {enc : α → Value} {h1 : ∀ x, (enc x).oneCell' = true} {e : Nat} {w : World} {F : Nat → Prop} {v : Value} {xs : List α} (h : (Kd.scalar enc h1).R e w 0 F v xs) : (Kd.scalar enc h1).R e w 0 (fun k => F k ∧ Ty w e k) v xs :=
  Kd.R_mono (Kd.R_bound h) (fun k hk => ⟨hk.1, by
    obtain ⟨_, _, _, q, hq, cells, hc⟩ := hk
    have : q = e := by simpa [Kd.scalar] using hq
    subst this
    exact ⟨cells, hc⟩⟩)

/-- The document's arena: block b, in the blocks F. -/
structure Rf (w : World) (F : Nat → Prop) (b : Nat) (L : List ByteArray) (T : List Bool) (Fr : List Int) (A1 : Option Addr) (c1 : Nat) (A2 : Option Addr) (c2 : Nat) (A3 : Option Addr) (c3 : Nat) : Prop where
  lt : ∀ k, F k → k < w.heap.size
  hb : F b
  blk : w.heap[b]? = some (.cells #[.slice A1 L.length c1, .slice A2 T.length c2, .slice A3 Fr.length c3] 40 (0, 0))
  r1 : Kd.string.R 9 w 0 F (.slice A1 L.length c1) L
  r2 : Kd.bool.R 4 w 0 F (.slice A2 T.length c2) T
  r3 : (Kd.int .i64).R 3 w 0 F (.slice A3 Fr.length c3) Fr
def RefS (w : World) (F : Nat → Prop) (b : Nat) (L : List ByteArray) (T : List Bool) (Fr : List Int) : Prop := ∃ A1 c1 A2 c2 A3 c3, Rf w F b L T Fr A1 c1 A2 c2 A3 c3

section
variable {w w1 : World} {F G : Nat → Prop} {b : Nat} {L : List ByteArray} {T : List Bool} {Fr : List Int} {A1 A2 A3 : Option Addr} {c1 c2 c3 : Nat}
theorem Rf.keep (h : Rf w F b L T Fr A1 c1 A2 c2 A3 c3) (hc : Chg G w w1) (hd : ∀ k, F k → ¬ G k) : Rf w1 F b L T Fr A1 c1 A2 c2 A3 c3 :=
  ⟨fun k hk => Nat.lt_of_lt_of_le (h.lt k hk) hc.size, h.hb, hc.blk h.blk (hd b h.hb), R_chg h.r1 hc hd, R_chg h.r2 hc hd, R_chg h.r3 hc hd⟩
theorem RefS.keep (h : RefS w F b L T Fr) (hc : Chg G w w1) (hd : ∀ k, F k → ¬ G k) : RefS w1 F b L T Fr := by
  obtain ⟨A1, c1, A2, c2, A3, c3, h⟩ := h
  exact ⟨A1, c1, A2, c2, A3, c3, h.keep hc hd⟩
theorem Rf.set_taken {g : Nat} (h : Rf w F b L T Fr A1 c1 (some ⟨g, 0, none⟩) c2 A3 c3) (i : Nat) (hi : i < T.length) (t : Bool) : Rf (w.setCell ⟨g, i, none⟩ (.bool t)) F b L (T.set i t) Fr A1 c1 (some ⟨g, 0, none⟩) c2 A3 c3 := by
  obtain ⟨cells, hty⟩ := Kd.R_typed h.r2 g (by simp [Value.ownBlock])
  obtain ⟨g', hg', _, _, _, hset⟩ := R_elem false h.r2 i hi
  injection hg' with hg'
  injection hg' with hg'
  subst hg'
  have hne : b ≠ g := fun e => by
    subst e
    rw [h.blk] at hty
    cases hty
  exact ⟨fun k hk => by simpa [World.setCell] using h.lt k hk, h.hb, by rw [List.length_set]; exact blk_far h.blk hne _, Kd.R_set h.r1 hty (by simp [Kd.string, Kd.scalar]) i _,
    by rw [List.length_set]; exact hset t, Kd.R_set h.r3 hty (by simp [Kd.int, Kd.scalar]) i _⟩
theorem Rf.set_text {g : Nat} (h : Rf w F b L T Fr (some ⟨g, 0, none⟩) c1 A2 c2 A3 c3) (i : Nat) (hi : i < L.length) (x : ByteArray) : Rf (w.setCell ⟨g, i, none⟩ (.string x)) F b (L.set i x) T Fr (some ⟨g, 0, none⟩) c1 A2 c2 A3 c3 := by
  obtain ⟨cells, hty⟩ := Kd.R_typed h.r1 g (by simp [Value.ownBlock])
  obtain ⟨g', hg', _, _, _, hset⟩ := R_elem ByteArray.empty h.r1 i hi
  injection hg' with hg'
  injection hg' with hg'
  subst hg'
  have hne : b ≠ g := fun e => by
    subst e
    rw [h.blk] at hty
    cases hty
  exact ⟨fun k hk => by simpa [World.setCell] using h.lt k hk, h.hb, by rw [List.length_set]; exact blk_far h.blk hne _, by rw [List.length_set]; exact hset x,
    Kd.R_set h.r2 hty (by simp [Kd.bool, Kd.scalar]) i _, Kd.R_set h.r3 hty (by simp [Kd.int, Kd.scalar]) i _⟩
theorem Rf.drew (h : Rf w F b L T Fr A1 c1 A2 c2 A3 c3) : Rf w.drew F b L T Fr A1 c1 A2 c2 A3 c3 := ⟨h.lt, h.hb, h.blk, Kd.R_drew h.r1, Kd.R_drew h.r2, Kd.R_drew h.r3⟩
/-- The last free one away. -/
theorem Rf.pop {i : Int} {Fr : List Int} (h : Rf w F b L T (Fr ++ [i]) A1 c1 A2 c2 A3 c3) : Rf (w.setCell ⟨b, 2, none⟩ (.slice A3 Fr.length c3)) F b L T Fr A1 c1 A2 c2 A3 c3 := by
  have hr := Kd.R_take h.r3 (m := Fr.length) (by simp)
  rw [List.take_left] at hr
  exact ⟨fun k hk => by simpa [World.setCell] using h.lt k hk, h.hb, blk_set h.blk 2 _, Kd.R_set h.r1 h.blk (by simp [Kd.string, Kd.scalar]) 2 _, Kd.R_set h.r2 h.blk (by simp [Kd.bool, Kd.scalar]) 2 _, Kd.R_set hr h.blk (by simp [Kd.int, Kd.scalar]) 2 _⟩
/-- A text more. -/
theorem Rf.push1 {F1 : Nat → Prop} {A : Option Addr} {c : Nat} {x : ByteArray} (h : Rf w F b L T Fr A1 c1 A2 c2 A3 c3) (hR : Kd.string.R 9 w1 0 F1 (.slice A (L.length + 1) c) (L ++ [x])) (hl : ∀ k, F1 k → k < w1.heap.size) (hc : Chg (fun k => F k ∧ Ty w 9 k) w w1) :
    Rf (w1.setCell ⟨b, 0, none⟩ (.slice A (L.length + 1) c)) (fun k => F k ∨ F1 k) b (L ++ [x]) T Fr A c A2 c2 A3 c3 := by
  have hb1 := hc.blk h.blk (fun e => by have := e.2.ne ⟨_, h.blk⟩; omega)
  have h2 := R_chg (R_ty h.r2) hc (fun k a b => by have := a.2.ne b.2; omega)
  have h3 := R_chg (R_ty h.r3) hc (fun k a b => by have := a.2.ne b.2; omega)
  refine ⟨fun k hk => ?_, .inl h.hb, ?_, ?_, Kd.R_mono (Kd.R_set h2 hb1 (by simp [Kd.scalar]) 0 _) (fun k hk => .inl hk.1), Kd.R_mono (Kd.R_set h3 hb1 (by simp [Kd.scalar]) 0 _) (fun k hk => .inl hk.1)⟩
  · simp only [World.setCell, Array.size_modify]
    rcases hk with hk | hk
    · exact Nat.lt_of_lt_of_le (h.lt k hk) hc.size
    · exact hl k hk
  · rw [List.length_append]; exact blk_set hb1 0 _
  · rw [List.length_append]; exact Kd.R_mono (Kd.R_set hR hb1 (by simp [Kd.string, Kd.scalar]) 0 _) (fun k hk => .inr hk)
/-- A bool more. -/
theorem Rf.push2 {F1 : Nat → Prop} {A : Option Addr} {c : Nat} {x : Bool} (h : Rf w F b L T Fr A1 c1 A2 c2 A3 c3) (hR : Kd.bool.R 4 w1 0 F1 (.slice A (T.length + 1) c) (T ++ [x])) (hl : ∀ k, F1 k → k < w1.heap.size) (hc : Chg (fun k => F k ∧ Ty w 4 k) w w1) :
    Rf (w1.setCell ⟨b, 1, none⟩ (.slice A (T.length + 1) c)) (fun k => F k ∨ F1 k) b L (T ++ [x]) Fr A1 c1 A c A3 c3 := by
  have hb1 := hc.blk h.blk (fun e => by have := e.2.ne ⟨_, h.blk⟩; omega)
  have h2 := R_chg (R_ty h.r1) hc (fun k a b => by have := a.2.ne b.2; omega)
  have h3 := R_chg (R_ty h.r3) hc (fun k a b => by have := a.2.ne b.2; omega)
  refine ⟨fun k hk => ?_, .inl h.hb, ?_, Kd.R_mono (Kd.R_set h2 hb1 (by simp [Kd.scalar]) 1 _) (fun k hk => .inl hk.1), ?_, Kd.R_mono (Kd.R_set h3 hb1 (by simp [Kd.scalar]) 1 _) (fun k hk => .inl hk.1)⟩
  · simp only [World.setCell, Array.size_modify]
    rcases hk with hk | hk
    · exact Nat.lt_of_lt_of_le (h.lt k hk) hc.size
    · exact hl k hk
  · rw [List.length_append]; exact blk_set hb1 1 _
  · rw [List.length_append]; exact Kd.R_mono (Kd.R_set hR hb1 (by simp [Kd.bool, Kd.scalar]) 1 _) (fun k hk => .inr hk)
/-- A number more. -/
theorem Rf.push3 {F1 : Nat → Prop} {A : Option Addr} {c : Nat} {x : Int} (h : Rf w F b L T Fr A1 c1 A2 c2 A3 c3) (hR : (Kd.int .i64).R 3 w1 0 F1 (.slice A (Fr.length + 1) c) (Fr ++ [x])) (hl : ∀ k, F1 k → k < w1.heap.size) (hc : Chg (fun k => F k ∧ Ty w 3 k) w w1) :
    Rf (w1.setCell ⟨b, 2, none⟩ (.slice A (Fr.length + 1) c)) (fun k => F k ∨ F1 k) b L T (Fr ++ [x]) A1 c1 A2 c2 A c := by
  have hb1 := hc.blk h.blk (fun e => by have := e.2.ne ⟨_, h.blk⟩; omega)
  have h2 := R_chg (R_ty h.r1) hc (fun k a b => by have := a.2.ne b.2; omega)
  have h3 := R_chg (R_ty h.r2) hc (fun k a b => by have := a.2.ne b.2; omega)
  refine ⟨fun k hk => ?_, .inl h.hb, ?_, Kd.R_mono (Kd.R_set h2 hb1 (by simp [Kd.scalar]) 2 _) (fun k hk => .inl hk.1), Kd.R_mono (Kd.R_set h3 hb1 (by simp [Kd.scalar]) 2 _) (fun k hk => .inl hk.1), ?_⟩
  · simp only [World.setCell, Array.size_modify]
    rcases hk with hk | hk
    · exact Nat.lt_of_lt_of_le (h.lt k hk) hc.size
    · exact hl k hk
  · rw [List.length_append]; exact blk_set hb1 2 _
  · rw [List.length_append]; exact Kd.R_mono (Kd.R_set hR hb1 (by simp [Kd.int, Kd.scalar]) 2 _) (fun k hk => .inr hk)
end

def isR (T : List Bool) (i : Int) : Bool := decide (1 ≤ i) && (T[(i - 1).toNat]? == some true)

set_option maxHeartbeats 1000000 in
theorem is_ok {w : World} {F : Nat → Prop} {b : Nat} {L : List ByteArray} {T : List Bool} {Fr : List Int} (h : RefS w F b L T Fr) (hT : T.length = L.length) (i : Int) (hi0 : -2147483648 ≤ i) (hi1 : i ≤ 2147483647) :
    Calls Try.prog 21 #[.pointer (some ⟨b, 0, none⟩), .int .i64 i] w fun e w' => e = .returned (.bool (isR T i)) ∧ w = w' := by
  obtain ⟨A1, c1, A2, c2, A3, c3, h⟩ := h
  have h0 : w.cell? ⟨b, 0, none⟩ = some (.slice A1 L.length c1) := by rw [blk_cell h.blk]; rfl
  have h1 : w.cell? ⟨b, 1, none⟩ = some (.slice A2 T.length c2) := by rw [blk_cell h.blk]; rfl
  by_cases q1 : 1 ≤ i
  · by_cases q2 : i ≤ (L.length : Int)
    · obtain ⟨k, rfl⟩ : ∃ k : Nat, i = (k : Int) + 1 := ⟨(i - 1).toNat, by omega⟩
      obtain ⟨g, rfl, _, hc, _, _⟩ := R_elem false h.r2 k (by omega)
      have hk : (k : Int) < (T.length : Int) := by omega
      have HR : Aside0 (T.getD k false = isR T ((k : Int) + 1)) := ⟨by
        unfold isR
        rw [show ((k : Int) + 1 - 1).toNat = k by omega, List.getD_eq_getElem?_getD, List.getElem?_eq_getElem (by omega)]
        simp [q1]⟩
      generalize T.getD k false = t at *
      clear h
      go_enter Try.func21, Try.ntmps21
      go_wp2
      go_ret
      exact ⟨ret_bool HR.out, rfl⟩
    · have HR : Aside0 (isR T i = false) := ⟨by
        unfold isR
        rw [List.getElem?_eq_none (by omega)]
        simp⟩
      clear h
      go_enter Try.func21, Try.ntmps21
      go_wp2
      go_ret
      exact ⟨ret_bool HR.out.symm, rfl⟩
  · have HR : Aside0 (isR T i = false) := ⟨by
      unfold isR
      simp [q1]⟩
    clear h
    go_enter Try.func21, Try.ntmps21
    go_wp2
    go_ret
    exact ⟨ret_bool HR.out.symm, rfl⟩

theorem drop_no {w : World} {F : Nat → Prop} {b : Nat} {L : List ByteArray} {T : List Bool} {Fr : List Int} (h : RefS w F b L T Fr) (hT : T.length = L.length) (i : Int) (hi0 : -2147483648 ≤ i) (hi1 : i ≤ 2147483647) (hn : isR T i = false) :
    Calls Try.prog 18 #[.pointer (some ⟨b, 0, none⟩), .int .i64 i] w fun e w' => e = .returned (.bool false) ∧ w = w' := by
  have HN := Aside0.mk hn
  have H := Aside0.mk h
  clear hn h
  go_enter Try.func18, Try.ntmps18
  go_wp2_with fail
  refine (is_ok H.out hT i hi0 hi1).mono ?_
  rintro e w1 ⟨rfl, rfl⟩
  rw [HN.out]
  go_wp2
  go_ret
  exact ⟨rfl, rfl⟩

set_option maxHeartbeats 2000000 in
theorem drop_yes {w : World} {F : Nat → Prop} {b : Nat} {L : List ByteArray} {T : List Bool} {Fr : List Int} (h : RefS w F b L T Fr) (hT : T.length = L.length) (k : Nat) (hk : k < T.length) (hL : L.length ≤ 1000000) (hF : Fr.length ≤ 1000000) (hn : isR T ((k : Int) + 1) = true) :
    Calls Try.prog 18 #[.pointer (some ⟨b, 0, none⟩), .int .i64 ((k : Int) + 1)] w fun e w' => e = .returned (.bool true) ∧ ∃ F', RefS w' F' b L (T.set k false) (Fr ++ [(k : Int) + 1]) ∧ (∀ k, F' k → F k ∨ w.heap.size ≤ k) ∧ Chg F w w' := by
  have HN := Aside0.mk hn
  have HA := Aside0.mk (is_ok h hT ((k : Int) + 1) (by omega) (by omega))
  obtain ⟨A1, c1, A2, c2, A3, c3, h⟩ := h
  have h1 : w.cell? ⟨b, 1, none⟩ = some (.slice A2 T.length c2) := by rw [blk_cell h.blk]; rfl
  have h2 : w.cell? ⟨b, 2, none⟩ = some (.slice A3 Fr.length c3) := by rw [blk_cell h.blk]; rfl
  obtain ⟨g, rfl, hg, hc, hfr, _⟩ := R_elem false h.r2 k hk
  have h4 := h.set_taken k hk false
  have H4 := Aside0.mk h4
  have hbg : ¬ b = g := fun e => by
    subst e
    obtain ⟨cells, hty⟩ := Kd.R_typed h.r2 b (by simp [Value.ownBlock])
    rw [h.blk] at hty
    cases hty
  have hgb : ¬ g = b := fun e => hbg e.symm
  have hk2 : (k : Int) < (T.length : Int) := by omega
  have HG := Aside0.mk hg
  have HR := Aside0.mk (R_ty h4.r3)
  have HS := Aside0.mk (show w.heap.size = (w.setCell ⟨g, k, none⟩ (.bool false)).heap.size by simp [World.setCell])
  have HP := Aside0.mk (show (Kd.int .i64).M (w.setCell ⟨g, k, none⟩ (.bool false)) 0 (fun _ => False) ((k : Int) + 1) [.int .i64 ((k : Int) + 1)] from rfl)
  clear hn h h4 hg
  go_enter Try.func18, Try.ntmps18
  go_wp2_with fail
  refine HA.out.mono ?_
  rintro e w1 ⟨rfl, rfl⟩
  rw [HN.out]
  clear HA
  go_wp2_with (first | ((with_reducible refine gate_builtin (b := .append) (xs := #[.tmp 20, .tmp 22]) rfl ?_); at_builtin; go_must (refine R_pushN (Kd.int .i64) 0 (fun x => F x ∧ Ty (w.setCell ⟨g, k, none⟩ (.bool false)) 3 x) rfl (.tmp 20) (.tmp 22) 38 3 (.int .i64 0) 8 rfl Try.underlying38 rinfo3 rfl (by decide) (by omega) (.slice A3 Fr.length c3) Fr ((k : Int) + 1) [.int .i64 ((k : Int) + 1)] (fun _ => False) w.heap.size HS.out.symm rfl rfl HP.out (fun _ h => h.elim) HR.out (Nat.zero_le _) (by omega) ?_; intro v1 w8 F1 hR hlt1 hnew hCh; have hblk := hCh.blk H4.out.blk (fun e => by have := e.2.ne ⟨_, H4.out.blk⟩; omega); have hf0 := blk_frozen hblk 2; have hk2 : w8.cell? ⟨b, 2, none⟩ = some (.slice A3 Fr.length c3) := (by rw [blk_cell hblk]; rfl); obtain ⟨A8, n8, c8, hv, HN8, _, _, HR8⟩ := R_outN hR; have hn8 : n8 = Fr.length + 1 := (by rw [HN8.out]; simp); subst hn8; subst hv; have HL8 := Aside0.mk hlt1; have HW8 := Aside0.mk hnew; have HC8 := Aside0.mk hCh; clear hR hlt1 hnew hCh hblk HN8)))
  go_ret
  have h9 := H4.out.push3 HR8.out HL8.out HC8.out
  refine ⟨rfl, _, ⟨_, _, _, _, _, _, h9⟩, fun x hx => ?_, ?_⟩
  · rcases hx with hx | hx
    · exact .inl hx
    · rcases HW8.out x hx with e | e
      · exact .inl e.1
      · rw [← HS.out] at e; exact .inr e
  · exact (((Chg.refl F w).set (p := ⟨g, k, none⟩) (.inl HG.out) _).trans HC8.out (fun i h => .inl h.1)).set (p := ⟨b, 2, none⟩) (.inl H4.out.hb) _
set_option maxHeartbeats 2000000 in
theorem takeR_new {w : World} {F : Nat → Prop} {b : Nat} {L : List ByteArray} {T : List Bool} (h : RefS w F b L T []) (x : ByteArray) (hT : T.length = L.length) (hL : L.length ≤ 1000000) :
    Calls Try.prog 17 #[.pointer (some ⟨b, 0, none⟩), .string x] w fun e w' => e = .returned (.int .i64 ((L.length : Int) + 1)) ∧ ∃ F', RefS w' F' b (L ++ [x]) (T ++ [true]) [] ∧ (∀ k, F' k → F k ∨ w.heap.size ≤ k) ∧ Chg F w w' := by
  obtain ⟨A1, c1, A2, c2, A3, c3, h⟩ := h
  have h0 : w.cell? ⟨b, 0, none⟩ = some (.slice A1 L.length c1) := by rw [blk_cell h.blk]; rfl
  have h2 : w.cell? ⟨b, 2, none⟩ = some (.slice A3 0 c3) := by rw [blk_cell h.blk]; rfl
  have H := Aside0.mk h
  have HR := Aside0.mk (R_ty h.r1)
  have HP := Aside0.mk (show Kd.string.M w 0 (fun _ => False) x [.string x] from rfl)
  have hT2 : T.length ≤ 1000000 := by omega
  clear h hT
  go_enter Try.func17, Try.ntmps17
  go_wp2_with (first | ((with_reducible refine gate_builtin (b := .append) (xs := #[.tmp 16, .tmp 18]) rfl ?_); at_builtin; go_must (refine R_pushN Kd.string 0 (fun x => F x ∧ Ty w 9 x) rfl (.tmp 16) (.tmp 18) 36 9 (.string ⟨#[]⟩) 16 rfl Try.underlying36 rinfo9 rfl (by decide) (by omega) (.slice A1 L.length c1) L (x) [.string x] (fun _ => False) w.heap.size rfl rfl rfl HP.out (fun _ h => h.elim) HR.out (Nat.zero_le _) (by omega) ?_; intro v1 w8 F1 hR hlt1 hnew hCh; have hblk := hCh.blk H.out.blk (fun e => by have := e.2.ne ⟨_, H.out.blk⟩; omega); have hf0 := blk_frozen hblk 0; have hf1 := blk_frozen hblk 1; have hk0 : w8.cell? ⟨b, 0, none⟩ = some (.slice A1 L.length c1) := (by rw [blk_cell hblk]; rfl); have hk1 : w8.cell? ⟨b, 1, none⟩ = some (.slice A2 T.length c2) := (by rw [blk_cell hblk]; rfl); obtain ⟨A8, n8, c8, hv, HN8, _, _, HR8⟩ := R_outN hR; have hn8 : n8 = L.length + 1 := (by rw [HN8.out]; simp); subst hn8; subst hv; have HL8 := Aside0.mk hlt1; have HW8 := Aside0.mk hnew; have HC8 := Aside0.mk hCh; have H5 := Aside0.mk (H.out.push1 HR8.out HL8.out HC8.out); have HR5 := Aside0.mk (R_ty H5.out.r2); have HS5 := Aside0.mk (show w8.heap.size = (w8.setCell ⟨b, 0, none⟩ (.slice A8 (L.length + 1) c8)).heap.size by simp [World.setCell]); have HP5 := Aside0.mk (show Kd.bool.M (w8.setCell ⟨b, 0, none⟩ (.slice A8 (L.length + 1) c8)) 0 (fun _ => False) true [.bool true] from rfl); clear hR hlt1 hnew hCh hblk HN8)) | ((with_reducible refine gate_builtin (b := .append) (xs := #[.tmp 26, .tmp 27]) rfl ?_); at_builtin; go_must (refine R_pushN Kd.bool 0 (fun x => (F x ∨ F1 x) ∧ Ty (w8.setCell ⟨b, 0, none⟩ (.slice A8 (L.length + 1) c8)) 4 x) rfl (.tmp 26) (.tmp 27) 37 4 (.bool false) 1 rfl Try.underlying37 rinfo4 rfl (by decide) (by omega) (.slice A2 T.length c2) T (true) [.bool true] (fun _ => False) w8.heap.size HS5.out.symm rfl rfl HP5.out (fun _ h => h.elim) HR5.out (Nat.zero_le _) (by omega) ?_; intro v1 w9 F2 hR hlt1 hnew hCh; have hblk := hCh.blk H5.out.blk (fun e => by have := e.2.ne ⟨_, H5.out.blk⟩; omega); have hf0 := blk_frozen hblk 0; have hf1 := blk_frozen hblk 1; have hk0 : w9.cell? ⟨b, 0, none⟩ = some (.slice A8 (L.length + 1) c8) := (by rw [blk_cell hblk]; simp); have hk1 : w9.cell? ⟨b, 1, none⟩ = some (.slice A2 T.length c2) := (by rw [blk_cell hblk]; rfl); obtain ⟨A9, n9, c9, hv, HN9, _, _, HR9⟩ := R_outN hR; have hn9 : n9 = T.length + 1 := (by rw [HN9.out]; simp); subst hn9; subst hv; have HL9 := Aside0.mk hlt1; have HW9 := Aside0.mk hnew; have HC9 := Aside0.mk hCh; clear hR hlt1 hnew hCh hblk HN9)))
  go_ret
  have h9 := H5.out.push2 HR9.out HL9.out HC9.out
  have hC8 := (Chg.refl F w).trans HC8.out (fun i h => .inl h.1)
  have hC9 := hC8.set (p := ⟨b, 0, none⟩) (.inl H.out.hb) (.slice A8 (L.length + 1) c8)
  have hw8 : ∀ k, F1 k → F k ∨ w.heap.size ≤ k := fun k hk => by
    rcases HW8.out k hk with e | e
    · exact .inl e.1
    · exact .inr e
  refine ⟨rfl, _, ⟨_, _, _, _, _, _, h9⟩, fun k hk => ?_, ?_⟩
  · rcases hk with (hk | hk) | hk
    · exact .inl hk
    · exact hw8 k hk
    · rcases HW9.out k hk with e | e
      · rcases e.1 with e | e
        · exact .inl e
        · exact hw8 k e
      · rw [← HS5.out] at e; exact .inr (Nat.le_trans HC8.out.size e)
  · exact (hC9.trans HC9.out (fun i h => by rcases h.1 with e | e; exact .inl e; exact hw8 i e)).set (p := ⟨b, 1, none⟩) (.inl H.out.hb) _

set_option maxHeartbeats 2000000 in
theorem takeR_old {w : World} {F : Nat → Prop} {b : Nat} {L : List ByteArray} {T : List Bool} {Fr : List Int} (k : Nat) (h : RefS w F b L T (Fr ++ [(k : Int) + 1])) (x : ByteArray) (hT : T.length = L.length) (hk : k < L.length) (hL : L.length ≤ 1000000) (hF : Fr.length ≤ 1000000) :
    Calls Try.prog 17 #[.pointer (some ⟨b, 0, none⟩), .string x] w fun e w' => e = .returned (.int .i64 ((k : Int) + 1)) ∧ RefS w' F b (L.set k x) (T.set k true) Fr ∧ Chg F w w' := by
  obtain ⟨A1, c1, A2, c2, A3, c3, h⟩ := h
  have h0 : w.cell? ⟨b, 0, none⟩ = some (.slice A1 L.length c1) := by rw [blk_cell h.blk]; rfl
  have h1 : w.cell? ⟨b, 1, none⟩ = some (.slice A2 T.length c2) := by rw [blk_cell h.blk]; rfl
  have h2 : w.cell? ⟨b, 2, none⟩ = some (.slice A3 (Fr.length + 1) c3) := by rw [blk_cell h.blk]; simp
  have hb2 := blk_frozen h.blk 2
  obtain ⟨g1, rfl, hg1, hc1, hf1, _⟩ := R_elem ByteArray.empty h.r1 k hk
  obtain ⟨g2, rfl, hg2, hc2, hf2, _⟩ := R_elem false h.r2 k (by omega)
  obtain ⟨g3, rfl, hg3, hc3, hf3, _⟩ := R_elem (0 : Int) h.r3 Fr.length (by simp)
  have hx3 : w.cell? ⟨g3, Fr.length, none⟩ = some (.int .i64 ((k : Int) + 1)) := by
    rw [hc3]; simp
  obtain ⟨d1, t1⟩ := Kd.R_typed h.r1 g1 (by simp [Value.ownBlock])
  obtain ⟨d2, t2⟩ := Kd.R_typed h.r2 g2 (by simp [Value.ownBlock])
  have n1 : ¬ b = g1 := fun e => by subst e; have := h.blk; rw [t1] at this; cases this
  have n2 : ¬ b = g2 := fun e => by subst e; have := h.blk; rw [t2] at this; cases this
  have n3 : ¬ g1 = g2 := fun e => by subst e; rw [t1] at t2; cases t2
  have n1' : ¬ g1 = b := fun e => n1 e.symm
  have n2' : ¬ g2 = b := fun e => n2 e.symm
  have n3' : ¬ g2 = g1 := fun e => n3 e.symm
  have hle : Fr.length + 1 ≤ c3 := by
    obtain ⟨A', c', he, hl, _⟩ := Kd.R_reads h.r3
    injection he with _ _ he
    subst he
    simpa using hl
  obtain ⟨i3, hi3⟩ : ∃ i, Try.prog.info? 3 = some i := Option.isSome_iff_exists.1 (by kernel_rfl)
  have hcut := cut_to (P := Try.prog) 38 3 .i64 Try.underlying38 hi3 (some ⟨g3, 0, none⟩) (Fr.length + 1) c3 (Fr.length : Int) (by omega) (by omega) hle
  rw [Int.toNat_natCast] at hcut
  have hk2 : (k : Int) < (L.length : Int) := by omega
  have hk3 : (k : Int) < (T.length : Int) := by omega
  have hz : ((Fr.length : Int) + 1 == 0) = false := beq_eq_false_iff_ne.2 (by omega)
  have hi3' : (Fr.length : Int) < (Fr.length : Int) + 1 := by omega
  have HG1 := Aside0.mk hg1
  have HG2 := Aside0.mk hg2
  have H := Aside0.mk h
  have HT := Aside0.mk hT
  clear hT h hc3 hg1 hg2 hg3 hf3 t1 t2 hi3 hle
  go_enter Try.func17, Try.ntmps17
  go_wp2
  go_quiet (fail)
  go_wp2
  go_region
  go_wp2
  go_ret
  refine ⟨rfl, ⟨_, _, _, _, _, _, ((((H.out.keep ((Chg.refl Non w).drewN _) (fun _ _ e => e)).drew).pop.set_text k hk x).set_taken k (by rw [HT.out]; exact hk) true)⟩, ?_⟩
  exact (((((Chg.refl F w).drewN _).drew).set (p := ⟨b, 2, none⟩) (.inl H.out.hb) _).set (p := ⟨g1, k, none⟩) (.inl HG1.out) _).set (p := ⟨g2, k, none⟩) (.inl HG2.out) _
end Go.Proofs.Ytckimhfbbfpddaa
