/- The acts of a law's list: what each reads as; Great's walk. Conditions: the list lies in memory as told. -/
import Derived.Test.YtckimhfbbfpddaaProg
import Derived.Test.YtckimhfbbfpddaaFlat
import Derived.Test.YtckimhfbbfpddaaOpen
import Derived.Deep.DeepMust
namespace Go.Proofs.Ytckimhfbbfpddaa
open Go.RowKit Go.Proofs.YtckimhfbbfpddaaW.PrintWords Lb

structure Act where
  d : Int
  n : Int
  s : ByteArray
instance : Inhabited Act := ⟨⟨0, 0, ByteArray.empty⟩⟩
def encAct (a : Act) : List Value := [.int .i64 a.d, .int .i32 a.n, .string a.s]
theorem encAct_len (s : Act) : (encAct s).length = 3 := rfl
theorem encAct_one (s : Act) : ∀ u ∈ encAct s, u.oneCell' = true := by
  intro u hu
  simp [encAct] at hu
  rcases hu with rfl | rfl | rfl <;> rfl
abbrev kdAct : Kd Act := flatK 3 encAct encAct_len encAct_one
def ActWf (a : Act) : Prop := (-9223372036854775808 ≤ a.d ∧ a.d ≤ 9223372036854775807) ∧ (-2147483648 ≤ a.n ∧ a.n ≤ 2147483647) ∧ a.s.size ≤ 140737488351232

theorem opens_act : Opn.Opens Try.prog kdAct 42 ActWf := by
  intro H enc w base spare held fuel cs y h hz
  obtain ⟨xs, n, _, rfl, hl, hlen, hf⟩ := DataW.trod_struct Try.underlying42 h
  have hl3 : cs.length = 3 := hl.trans (by kernel_rfl)
  match cs, hl3, xs, hlen with
  | [c0, c1, c2], _, [y0, y1, y2], _ =>
    have h0 := hf 0 _ rfl
    have h1 := hf 1 _ rfl
    have h2 := hf 2 _ rfl
    simp only [List.map_cons, List.map_nil, DataW.weights, Try.underlying42, List.mem_append, DataW.weightsEach] at hz
    obtain ⟨a, e0, w0⟩ := Opn.opens_int Try.underlying3 H enc w base spare held n _ _ h0 (fun z hz' => hz z (by simp; exact .inl hz'))
    obtain ⟨b, e1, w1⟩ := Opn.opens_int Try.underlying21 H enc w base spare held n _ _ h1 (fun z hz' => hz z (by simp; exact .inr (.inl hz')))
    obtain ⟨c, e2, w2⟩ := Opn.opens_string Try.underlying9 H enc w base spare held n _ _ h2 (fun z hz' => hz z (by simp; exact .inr (.inr hz')))
    have e0' : [c0] = [Value.int .i64 a] := e0
    have e1' : [c1] = [Value.int .i32 b] := e1
    have e2' : [c2] = [Value.string c] := e2
    injection e0' with e0'
    injection e1' with e1'
    injection e2' with e2'
    subst e0' e1' e2'
    exact ⟨⟨a, b, c⟩, rfl, i64_wf w0, i32_wf w1, w2⟩

theorem add_flat (g o k : Nat) : (Addr.mk g o none).add k = ⟨g, o + k, none⟩ := by
  unfold Addr.add
  split
  · next h => subst h; rfl
  · rfl
/-- Act i of a list. -/
theorem act_at {w : World} {A : Option Addr} {n : Nat} {l : List Act} (h : kdAct.C w A n l) (i : Nat) (hi : i < n) :
    ∃ g o, A = some ⟨g, o, none⟩ ∧ w.cell? ⟨g, o + i * 3, none⟩ = some (.int .i64 (l.getD i default).d) ∧ w.cell? ⟨g, o + i * 3 + 1, none⟩ = some (.int .i32 (l.getD i default).n) ∧ w.cell? ⟨g, o + i * 3 + 2, none⟩ = some (.string (l.getD i default).s) := by
  obtain ⟨ad, c, e, _, hK, hc⟩ := Kd.C_get h default (i : Int) (by omega) (by omega)
  simp only [Int.toNat_natCast] at hK hc
  have hk : c = encAct (l.getD i default) := hK
  subst hk
  have hc' : ∀ j u, (encAct (l.getD i default))[j]? = some u → w.cell? (ad.add (i * 3 + j)) = some u := hc
  obtain ⟨g, o, sp⟩ := ad
  have hsp : sp = none := by
    obtain ⟨ad0, c0, e0, _, hK0, hc0⟩ := Kd.C_get h default (0 : Int) (by omega) (by omega)
    have hk0 : c0 = encAct (l.getD 0 default) := hK0
    subst hk0
    rw [e] at e0
    injection e0 with e0
    subst e0
    have h1 : w.cell? ⟨g, o, sp⟩ = some (.int .i64 (l.getD 0 default).d) := hc0 0 _ rfl
    unfold World.cell? at h1
    split at h1
    · cases sp with
      | none => rfl
      | some x => simp at h1
    · cases h1
  subst hsp
  refine ⟨g, o, e, ?_, ?_, ?_⟩
  · have := hc' 0 _ rfl; rwa [add_flat] at this
  · have := hc' 1 _ rfl; rwa [add_flat, ← Nat.add_assoc] at this
  · have := hc' 2 _ rfl; rwa [add_flat, ← Nat.add_assoc] at this

/-- Bytes of the first acts, each cut at 20001. -/
def bytesOf (l : List Act) : Nat := (l.map (fun a => min a.s.size 20001)).sum
theorem bytesOf_take (l : List Act) (i : Nat) (h : i < l.length) : bytesOf (l.take (i + 1)) = bytesOf (l.take i) + min (l.getD i default).s.size 20001 := by
  unfold bytesOf
  rw [List.take_add_one, List.getD_eq_getElem?_getD, List.getElem?_eq_getElem h, List.map_append, List.sum_append]
  simp
theorem bytesOf_small (l : List Act) (h : bytesOf l ≤ 20000) : ∀ a ∈ l, a.s.size ≤ 20000 := by
  induction l with
  | nil => simp
  | cons x l ih =>
    have e : bytesOf (x :: l) = min x.s.size 20001 + bytesOf l := by simp [bytesOf]
    intro a ha
    rcases List.mem_cons.1 ha with rfl | ha
    · omega
    · exact ih (by omega) a ha

def Great (l : List Act) : Bool := decide (300 < l.length) || decide (20000 < bytesOf (l.take 301))

set_option maxHeartbeats 1000000 in
theorem great_ok (w : World) (A : Option Addr) (c : Nat) (l : List Act) (L : Nat) (hC : kdAct.C w A L l) (hL : l.length = L) :
    Calls Try.prog 14 #[.slice A L c] w fun e w' => e = .returned (.bool (Great l)) ∧ w = w' := by
  have hb : ∀ i, bytesOf (l.take i) ≤ i * 20001 := by
    intro i
    induction i with
    | zero => simp [bytesOf]
    | succ k ih =>
      rcases Nat.lt_or_ge k l.length with hk | hk
      · rw [bytesOf_take l k hk]; omega
      · have h1 := List.take_of_length_le (l := l) (i := k) hk
        have h2 := List.take_of_length_le (l := l) (i := k + 1) (by omega)
        rw [h1] at ih
        rw [h2]
        exact Nat.le_trans ih (Nat.mul_le_mul_right _ (by omega))
  have hmax : L ≤ 9223372036854775807 := by have := hC.2.1; unfold maxLen at this; omega
  have HC := Aside0.mk hC
  have HB := Aside0.mk hb
  have HL := Aside0.mk hL
  clear hC hb
  go_enter Try.func14, Try.ntmps14
  go_wp2
  go_loopg [3, 4] (min L 301) (fun gk v3 v4 wr => ∃ i : Nat, v4 = .int .i64 (i : Int) ∧ v3 = .int .i64 (bytesOf (l.take i) : Int) ∧ Aside0 (i + gk = min L 301) ∧ Aside0 (wr = w))
  case atStart => exact ⟨0, rfl, rfl, ⟨by omega⟩, ⟨rfl⟩⟩
  case round =>
    obtain ⟨i, rfl, rfl, HI, HW⟩ := hrel
    have hI := HI.out
    have hw := HW.out
    subst hw
    have hbi := HB.out i
    cases gk with
    | succ k1 =>
      have hlt : (i : Int) < (L : Int) := by omega
      have hle : (i : Int) ≤ 300 := by omega
      have hnat : i < L := by omega
      obtain ⟨g, o, rfl, c0, c1, c2⟩ := act_at HC.out i hnat
      have hs := bytesOf_take l i (by omega)
      generalize hx : (l.getD i default).s = x at *
      rcases Nat.lt_or_ge 20001 x.size with hq | hq
      · rw [Nat.min_eq_right (by omega)] at hs
        have HS := Aside0.mk hs
        have HX := Aside0.mk hx
        have hq2 : ¬ (x.size : Int) ≤ 20001 := by omega
        clear hI hs hx hq
        go_wp2
        go_roundg k1
        case measure => omega
        case rel => exact ⟨i + 1, by go_num, by rw [HS.out]; go_num, ⟨by have := HI.out; omega⟩, ⟨rfl⟩⟩
      · rw [Nat.min_eq_left (by omega)] at hs
        have HS := Aside0.mk hs
        have HX := Aside0.mk hx
        have hq2 : (x.size : Int) ≤ 20001 := by omega
        clear hI hs hx hq
        go_wp2
        go_roundg k1
        case measure => omega
        case rel => exact ⟨i + 1, by go_num, by rw [HS.out]; go_num, ⟨by have := HI.out; omega⟩, ⟨rfl⟩⟩
    | zero =>
      rcases Nat.lt_or_ge 300 L with hq | hq
      · obtain rfl : i = 301 := by omega
        have hq2 : (300 : Int) < (L : Int) := by omega
        have hq3 : (301 : Int) < (L : Int) ∨ ¬ (301 : Int) < (L : Int) := by omega
        have HG : Aside0 (Great l = true) := ⟨by simp [Great, HL.out, hq]⟩
        clear hI hq
        rcases hq3 with hq3 | hq3
        · go_wp2
          go_ret
          exact ⟨ret_bool (by rw [HG.out]), rfl⟩
        · go_wp2
          go_ret
          exact ⟨ret_bool (by rw [HG.out]), rfl⟩
      · obtain rfl : i = L := by omega
        have HG : Aside0 (Great l = decide (20000 < bytesOf (l.take i))) := ⟨by
          have h1 : ¬ 300 < l.length := by omega
          simp [Great, h1, List.take_of_length_le (show l.length ≤ 301 by omega), List.take_of_length_le (show l.length ≤ i by omega)]⟩
        have hq2 : ¬ (300 : Int) < (i : Int) := by omega
        clear hI hq
        go_wp2
        go_ret
        refine ⟨ret_bool ?_, rfl⟩
        rw [HG.out]
        simp
        try omega
end Go.Proofs.Ytckimhfbbfpddaa
