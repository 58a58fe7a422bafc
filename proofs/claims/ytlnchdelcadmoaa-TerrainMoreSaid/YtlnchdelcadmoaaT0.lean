/- Kinds; how a table lies in memory. Conditions: none. -/
import Derived.Test.YtlnchdelcadmoaaProg
import Derived.Test.YtlnchdelcadmoaaFlat
import Derived.Test.YtlnchdelcadmoaaStep
import Derived.Deep.DeepMust
import Derived.Deep.LoopGhost
namespace Go.Proofs.Ytlnchdelcadmoaa
open Go.RowKit Go.Proofs.YtlnchdelcadmoaaW.PrintWords Go.Proofs.YtlnchdelcadmoaaW.PrintLast Go.Proofs.YtlnchdelcadmoaaW.PrintMore Lb

structure Kind where
  cost : Int
  mask : Nat
deriving DecidableEq
instance : Inhabited Kind := ⟨⟨0, 0⟩⟩
theorem info29 : (Try.prog.info? 29).map (fun i => (i.zero, i.size, i.bytes)) = some (some (.agg #[.int .i64 0, .int .u8 0]), 2, 16) := by kernel_rfl
def encK (a : Kind) : List Value := [.int .i64 a.cost, .int .u8 (a.mask : Int)]
theorem encK_len (a : Kind) : (encK a).length = 2 := rfl
theorem encK_one (a : Kind) : ∀ u ∈ encK a, u.oneCell' = true := by
  intro u hu
  simp [encK] at hu
  rcases hu with rfl | rfl <;> rfl
abbrev kdK : Kd Kind := flatK 2 encK encK_len encK_one
/-- The cells of a table. -/
def tabCells (A : Option Addr) (n c : Nat) (cl : Int) (ls : List Int) : List Value := .slice A n c :: .int .i64 cl :: ls.map (Value.int .i64)
/-- A table: block b, in the blocks F. -/
structure Tb (w : World) (F : Nat → Prop) (b : Nat) (l : List Kind) (cl : Int) (ls : List Int) (A : Option Addr) (c : Nat) : Prop where
  lt : ∀ k, F k → k < w.heap.size
  hb : F b
  blk : w.heap[b]? = some (.cells (tabCells A l.length c cl ls).toArray 42 (0, 0))
  row : kdK.R 29 w 0 F (.slice A l.length c) l
theorem Tb.keep {w w1 : World} {F G : Nat → Prop} {b : Nat} {l : List Kind} {cl : Int} {ls : List Int} {A : Option Addr} {c : Nat} (h : Tb w F b l cl ls A c) (hc : Chg G w w1) (hd : ∀ k, F k → ¬ G k) : Tb w1 F b l cl ls A c :=
  ⟨fun k hk => Nat.lt_of_lt_of_le (h.lt k hk) hc.size, h.hb, hc.blk h.blk (hd b h.hb), R_chg h.row hc hd⟩
theorem Tb.c0 {w : World} {F : Nat → Prop} {b : Nat} {l : List Kind} {cl : Int} {ls : List Int} {A : Option Addr} {c : Nat} (h : Tb w F b l cl ls A c) : w.cell? ⟨b, 0, none⟩ = some (.slice A l.length c) := by
  rw [blk_cell h.blk]; rfl
theorem Tb.c1 {w : World} {F : Nat → Prop} {b : Nat} {l : List Kind} {cl : Int} {ls : List Int} {A : Option Addr} {c : Nat} (h : Tb w F b l cl ls A c) : w.cell? ⟨b, 1, none⟩ = some (.int .i64 cl) := by
  rw [blk_cell h.blk]; rfl
theorem Tb.c2 {w : World} {F : Nat → Prop} {b : Nat} {l : List Kind} {cl : Int} {ls : List Int} {A : Option Addr} {c : Nat} (h : Tb w F b l cl ls A c) (i : Nat) (hi : i < ls.length) : w.cell? ⟨b, 2 + i, none⟩ = some (.int .i64 (ls.getD i 0)) := by
  rw [blk_cell h.blk]
  show (tabCells A l.length c cl ls).toArray[2 + i]? = _
  rw [List.getElem?_toArray, show 2 + i = i + 1 + 1 by omega]
  simp [tabCells, hi]

theorem kinds_ok {w : World} {F : Nat → Prop} {b : Nat} {l : List Kind} {cl : Int} {ls : List Int} {A : Option Addr} {c : Nat} (h : Tb w F b l cl ls A c) : Calls Try.prog 18 #[.pointer (some ⟨b, 0, none⟩)] w fun e w' => e = .returned (.int .i64 l.length) ∧ w = w' := by
  have h0 := h.c0
  go_enter Try.func18, Try.ntmps18
  go_wp2
  go_ret
  exact ⟨rfl, rfl⟩
theorem kinds_nil (w : World) : Calls Try.prog 18 #[.pointer none] w fun e w' => e = .returned (.int .i64 0) ∧ w = w' := by
  go_enter Try.func18, Try.ntmps18
  go_wp2
  go_ret
  exact ⟨rfl, rfl⟩
theorem classes_ok {w : World} {F : Nat → Prop} {b : Nat} {l : List Kind} {cl : Int} {ls : List Int} {A : Option Addr} {c : Nat} (h : Tb w F b l cl ls A c) : Calls Try.prog 19 #[.pointer (some ⟨b, 0, none⟩)] w fun e w' => e = .returned (.int .i64 cl) ∧ w = w' := by
  have h0 := h.c1
  go_enter Try.func19, Try.ntmps19
  go_wp2
  go_ret
  exact ⟨rfl, rfl⟩
theorem classes_nil (w : World) : Calls Try.prog 19 #[.pointer none] w fun e w' => e = .returned (.int .i64 0) ∧ w = w' := by
  go_enter Try.func19, Try.ntmps19
  go_wp2
  go_ret
  exact ⟨rfl, rfl⟩
def kAt (l : List Kind) (i : Nat) : Kind := l.getD i ⟨0, 0⟩
theorem kAt_some {l : List Kind} {i : Nat} (h : i < l.length) : l[i]? = some (kAt l i) := by simp [kAt, h]

/-- Bit k of a mask. -/
def bit (m k : Nat) : Bool := decide (m / 2 ^ k % 2 = 1)
theorem bits_one : ∀ x : Fin 256, (bits BinOp.and IntKind.u8 ((x : Nat) : Int) 1 == 1) = decide ((x : Nat) % 2 = 1) := by decide +kernel
theorem bits_bit (m k : Nat) (hm : m < 256) : (bits BinOp.and IntKind.u8 ((m : Int) / 2 ^ k) 1 == 1) = bit m k := by
  have h : m / 2 ^ k < 256 := Nat.lt_of_le_of_lt (Nat.div_le_self _ _) hm
  have := bits_one ⟨m / 2 ^ k, h⟩
  have e : ((m : Int) / 2 ^ k) = ((m / 2 ^ k : Nat) : Int) := by simp
  rw [e]
  exact this
def mayP (l : List Kind) (cl c k : Int) : Bool := decide (0 ≤ c) && decide (c < cl) && decide (0 ≤ k) && decide (k < (l.length : Int)) && bit (kAt l k.toNat).mask c.toNat
def costP (l : List Kind) (k : Int) : Int := if 0 ≤ k ∧ k < (l.length : Int) then (kAt l k.toNat).cost else 0
/-- What a table tells of class c, out of its row. -/
def rowP (ls : List Int) (cl c : Int) : Int := if 0 ≤ c ∧ c < cl then ls.getD c.toNat 0 else 0

theorem may_any {w : World} {F : Nat → Prop} {b : Nat} {l : List Kind} {cl : Int} {ls : List Int} {A : Option Addr} {c : Nat} (h : Tb w F b l cl ls A c) (hcl : cl ≤ 8) (hm : ∀ k ∈ l, k.mask < 256) (x y : Int) :
    Calls Try.prog 16 #[.pointer (some ⟨b, 0, none⟩), .int .i64 x, .int .i64 y] w fun e w' => e = .returned (.bool (mayP l cl x y)) ∧ w = w' := by
  have H := Aside0.mk h
  have HM := Aside0.mk hm
  clear hm
  by_cases h1 : 0 ≤ x
  · by_cases h2 : x < cl
    · by_cases h3 : 0 ≤ y
      · by_cases h4 : y < (l.length : Int)
        · obtain ⟨k, rfl⟩ := Int.eq_ofNat_of_zero_le h1
          obtain ⟨i, rfl⟩ := Int.eq_ofNat_of_zero_le h3
          have hi : i < l.length := by omega
          have h0 := h.c0
          obtain ⟨g, rfl, hF, hg, hcell, _⟩ := F_elem h.row i (kAt l i) (kAt_some hi)
          have a1 : w.cell? ⟨g, i * 2 + 1, none⟩ = some (.int .u8 ((kAt l i).mask : Int)) := hcell 1 _ rfl
          have hmk : (kAt l i).mask < 256 := HM.out _ (List.mem_of_getElem? (kAt_some hi))
          have HB := Aside0.mk (bits_bit (kAt l i).mask k hmk)
          have HV : Aside0 (mayP l cl (k : Int) (i : Int) = bit (kAt l i).mask k) := ⟨by simp [mayP, h1, h2, h3, h4]⟩
          have hk8 : k < 8 := by omega
          have hk8' : (k : Int) < 8 := by omega
          clear hcell h
          go_enter Try.func16, Try.ntmps16
          go_wp2_with fail
          refine (classes_ok H.out).mono ?_
          rintro e w2 ⟨rfl, rfl⟩
          go_wp2_with fail
          refine (kinds_ok H.out).mono ?_
          rintro e w2 ⟨rfl, rfl⟩
          go_wp2
          go_ret
          exact ⟨ret_bool (by rw [HV.out]; exact HB.out), rfl⟩
        · have HV : Aside0 (mayP l cl x y = false) := ⟨by simp [mayP, h4]⟩
          clear h
          go_enter Try.func16, Try.ntmps16
          go_wp2_with fail
          refine (classes_ok H.out).mono ?_
          rintro e w2 ⟨rfl, rfl⟩
          go_wp2_with fail
          refine (kinds_ok H.out).mono ?_
          rintro e w2 ⟨rfl, rfl⟩
          go_wp2
          go_ret
          exact ⟨ret_bool HV.out.symm, rfl⟩
      · have HV : Aside0 (mayP l cl x y = false) := ⟨by simp [mayP, h3]⟩
        clear h
        go_enter Try.func16, Try.ntmps16
        go_wp2_with fail
        refine (classes_ok H.out).mono ?_
        rintro e w2 ⟨rfl, rfl⟩
        go_wp2
        go_ret
        exact ⟨ret_bool HV.out.symm, rfl⟩
    · have HV : Aside0 (mayP l cl x y = false) := ⟨by simp [mayP, h2]⟩
      clear h
      go_enter Try.func16, Try.ntmps16
      go_wp2_with fail
      refine (classes_ok H.out).mono ?_
      rintro e w2 ⟨rfl, rfl⟩
      go_wp2
      go_ret
      exact ⟨ret_bool HV.out.symm, rfl⟩
  · have HV : Aside0 (mayP l cl x y = false) := ⟨by simp [mayP, h1]⟩
    clear h
    go_enter Try.func16, Try.ntmps16
    go_wp2
    go_ret
    exact ⟨ret_bool HV.out.symm, rfl⟩
theorem may_nil (w : World) (x y : Int) : Calls Try.prog 16 #[.pointer none, .int .i64 x, .int .i64 y] w fun e w' => e = .returned (.bool false) ∧ w = w' := by
  by_cases h1 : 0 ≤ x
  · go_enter Try.func16, Try.ntmps16
    go_wp2_with fail
    refine (classes_nil _).mono ?_
    rintro e w2 ⟨rfl, rfl⟩
    go_wp2
    go_ret
    exact ⟨rfl, rfl⟩
  · go_enter Try.func16, Try.ntmps16
    go_wp2
    go_ret
    exact ⟨rfl, rfl⟩
theorem cost_any {w : World} {F : Nat → Prop} {b : Nat} {l : List Kind} {cl : Int} {ls : List Int} {A : Option Addr} {c : Nat} (h : Tb w F b l cl ls A c) (y : Int) :
    Calls Try.prog 15 #[.pointer (some ⟨b, 0, none⟩), .int .i64 y] w fun e w' => e = .returned (.int .i64 (costP l y)) ∧ w = w' := by
  have H := Aside0.mk h
  by_cases h3 : 0 ≤ y
  · have h3' : decide (y < 0) = false := decide_eq_false (by omega)
    by_cases h4 : y < (l.length : Int)
    · obtain ⟨i, rfl⟩ := Int.eq_ofNat_of_zero_le h3
      have hi : i < l.length := by omega
      have h0 := h.c0
      obtain ⟨g, rfl, hF, hg, hcell, _⟩ := F_elem h.row i (kAt l i) (kAt_some hi)
      have a0 : w.cell? ⟨g, i * 2, none⟩ = some (.int .i64 (kAt l i).cost) := hcell 0 _ rfl
      have HV : Aside0 (costP l (i : Int) = (kAt l i).cost) := ⟨by rw [costP, if_pos ⟨h3, h4⟩, Int.toNat_natCast]⟩
      clear hcell h
      go_enter Try.func15, Try.ntmps15
      go_wp2_with fail
      refine (kinds_ok H.out).mono ?_
      rintro e w2 ⟨rfl, rfl⟩
      go_wp2
      go_ret
      exact ⟨ret_int HV.out.symm, rfl⟩
    · have HV : Aside0 (costP l y = 0) := ⟨by rw [costP, if_neg (fun e => h4 e.2)]⟩
      clear h
      go_enter Try.func15, Try.ntmps15
      go_wp2_with fail
      refine (kinds_ok H.out).mono ?_
      rintro e w2 ⟨rfl, rfl⟩
      go_wp2
      go_ret
      exact ⟨ret_int HV.out.symm, rfl⟩
  · have HV : Aside0 (costP l y = 0) := ⟨by rw [costP, if_neg (fun e => h3 e.1)]⟩
    have h3' : y < 0 := by omega
    clear h h3
    go_enter Try.func15, Try.ntmps15
    go_wp2
    go_ret
    exact ⟨ret_int HV.out.symm, rfl⟩
theorem cost_nil (w : World) (y : Int) : Calls Try.prog 15 #[.pointer none, .int .i64 y] w fun e w' => e = .returned (.int .i64 0) ∧ w = w' := by
  by_cases h3 : 0 ≤ y
  · have h3' : decide (y < 0) = false := decide_eq_false (by omega)
    go_enter Try.func15, Try.ntmps15
    go_wp2_with fail
    refine (kinds_nil _).mono ?_
    rintro e w2 ⟨rfl, rfl⟩
    go_wp2
    go_ret
    exact ⟨rfl, rfl⟩
  · have h3' : y < 0 := by omega
    clear h3
    go_enter Try.func15, Try.ntmps15
    go_wp2
    go_ret
    exact ⟨rfl, rfl⟩
theorem least_any {w : World} {F : Nat → Prop} {b : Nat} {l : List Kind} {cl : Int} {ls : List Int} {A : Option Addr} {c : Nat} (h : Tb w F b l cl ls A c) (hcl : cl ≤ 8) (hls : ls.length = 8) (x : Int) :
    Calls Try.prog 13 #[.pointer (some ⟨b, 0, none⟩), .int .i64 x] w fun e w' => e = .returned (.tuple #[.int .i64 (rowP ls cl x), .bool (decide (0 < rowP ls cl x))]) ∧ Below w.heap.size w w' := by
  have H := Aside0.mk h
  by_cases h1 : 0 ≤ x
  · have h1' : decide (x < 0) = false := decide_eq_false (by omega)
    by_cases h2 : x < cl
    · obtain ⟨k, rfl⟩ := Int.eq_ofNat_of_zero_le h1
      have hk8 : (k : Int) < 8 := by omega
      have hk : w.cell? ⟨b, 2 + k, none⟩ = some (.int .i64 (ls.getD k 0)) := h.c2 k (by omega)
      have HV : Aside0 (rowP ls cl (k : Int) = ls.getD k 0) := ⟨by rw [rowP, if_pos ⟨h1, h2⟩, Int.toNat_natCast]⟩
      clear h hls
      go_enter Try.func13, Try.ntmps13
      go_wp2_with fail
      refine (classes_ok H.out).mono ?_
      rintro e w2 ⟨rfl, rfl⟩
      go_wp2_with fail
      go_quiet (fail)
      go_wp2
      go_ret2
      rw [HV.out]
      exact ⟨rfl, pw_below_drewN (Below.refl _ _) _⟩
    · have HV : Aside0 (rowP ls cl x = 0) := ⟨by rw [rowP, if_neg (fun e => h2 e.2)]⟩
      clear h hls
      go_enter Try.func13, Try.ntmps13
      go_wp2_with fail
      refine (classes_ok H.out).mono ?_
      rintro e w2 ⟨rfl, rfl⟩
      go_wp2
      go_ret2
      rw [HV.out]
      exact ⟨rfl, Below.refl _ _⟩
  · have HV : Aside0 (rowP ls cl x = 0) := ⟨by rw [rowP, if_neg (fun e => h1 e.1)]⟩
    have h3' : x < 0 := by omega
    clear h h1 hls
    go_enter Try.func13, Try.ntmps13
    go_wp2
    go_ret2
    rw [HV.out]
    exact ⟨rfl, Below.refl _ _⟩
theorem least_nil (w : World) (x : Int) : Calls Try.prog 13 #[.pointer none, .int .i64 x] w fun e w' => e = .returned (.tuple #[.int .i64 0, .bool false]) ∧ w = w' := by
  by_cases h3 : 0 ≤ x
  · have h3' : decide (x < 0) = false := decide_eq_false (by omega)
    go_enter Try.func13, Try.ntmps13
    go_wp2_with fail
    refine (classes_nil _).mono ?_
    rintro e w2 ⟨rfl, rfl⟩
    go_wp2
    go_ret2
    exact ⟨rfl, rfl⟩
  · have h3' : x < 0 := by omega
    clear h3
    go_enter Try.func13, Try.ntmps13
    go_wp2
    go_ret2
    exact ⟨rfl, rfl⟩
end Go.Proofs.Ytlnchdelcadmoaa
