/- The contracts of the draws: a list's copy, New, Next, Len, the document's Draw. Conditions: what lies in memory as told. -/
import Derived.Test.YtoofnjoipgkfbaaProg
import Derived.Test.YtoofnjoipgkfbaaLib
namespace Go.Proofs.Ytoofnjoipgkfbaa
open Go.RowKit Go.Proofs.YtoofnjoipgkfbaaW.PrintWords Lb

theorem info30 : (Try.prog.info? 30).map (fun i => (i.zero, i.size, i.bytes)) = some (some (.int .u32 0), 1, 4) := by kernel_rfl

/-- The number out of a start. -/
def m0 (n x : Int) : Int := IntKind.u64.wrap (IntKind.u64.wrap (n * 11400714819323198485) + x)
def m0z (n : Int) : Int := IntKind.u64.wrap (IntKind.u64.wrap (n * 11400714819323198485))
def st (z d c : Int) : Int := IntKind.u64.wrap (bits BinOp.xor IntKind.u64 z (z / d) * c)
def mixz (z : Int) : Int :=
  bits BinOp.xor IntKind.u64 (st (st z 1073741824 13787848793156543929) 134217728 10723151780598845931) (st (st z 1073741824 13787848793156543929) 134217728 10723151780598845931 / 2147483648) / 4294967296 % 4294967296
def mix (n x : Int) : Int := mixz (m0 n x)
/-- The same with Go's division. -/
def zq (z : Int) (k : Int) : Int := IntKind.u64.wrap (z.tdiv k)
def stq (z d c : Int) : Int := IntKind.u64.wrap (bits BinOp.xor IntKind.u64 z (zq z d) * c)
def mixq (z : Int) : Int :=
  zq (bits BinOp.xor IntKind.u64 (stq (stq z 1073741824 13787848793156543929) 134217728 10723151780598845931) (zq (stq (stq z 1073741824 13787848793156543929) 134217728 10723151780598845931) 2147483648)) 4294967296 % 4294967296
theorem u64_eq (y : Int) : IntKind.u64.wrap y = y % 18446744073709551616 := by simp [IntKind.wrap, IntKind.bits, IntKind.signed]
theorem u64_range (y : Int) : 0 ≤ IntKind.u64.wrap y ∧ IntKind.u64.wrap y < 18446744073709551616 := by
  rw [u64_eq]
  omega
theorem zq_of {z k : Int} (h0 : 0 ≤ z) (h1 : z < 18446744073709551616) (hk : 0 < k) : zq z k = z / k := by
  unfold zq
  rw [Int.tdiv_eq_ediv_of_nonneg h0, u64_eq]
  have h2 : 0 ≤ z / k := Int.ediv_nonneg h0 (by omega)
  have h3 : z / k ≤ z := Int.ediv_le_self _ h0
  exact Int.emod_eq_of_lt h2 (by omega)
theorem bits_range (op : BinOp) (x y : Int) : 0 ≤ bits op IntKind.u64 x y ∧ bits op IntKind.u64 x y < 18446744073709551616 := by
  unfold bits
  exact u64_range _
theorem stq_of {z d : Int} (c : Int) (h0 : 0 ≤ z) (h1 : z < 18446744073709551616) (hd : 0 < d) : stq z d c = st z d c := by
  unfold stq st
  rw [zq_of h0 h1 hd]
theorem mixq_eq {z : Int} (h0 : 0 ≤ z) (h1 : z < 18446744073709551616) : mixq z = mixz z := by
  unfold mixq mixz
  have e1 : stq z 1073741824 13787848793156543929 = st z 1073741824 13787848793156543929 := stq_of _ h0 h1 (by omega)
  rw [e1]
  have r1 : 0 ≤ st z 1073741824 13787848793156543929 ∧ st z 1073741824 13787848793156543929 < 18446744073709551616 := u64_range _
  generalize st z 1073741824 13787848793156543929 = y at *
  have e2 : stq y 134217728 10723151780598845931 = st y 134217728 10723151780598845931 := stq_of _ r1.1 r1.2 (by omega)
  rw [e2]
  have r2 : 0 ≤ st y 134217728 10723151780598845931 ∧ st y 134217728 10723151780598845931 < 18446744073709551616 := u64_range _
  generalize st y 134217728 10723151780598845931 = x at *
  have e3 : zq x 2147483648 = x / 2147483648 := zq_of r2.1 r2.2 (by omega)
  rw [e3]
  have r3 := bits_range BinOp.xor x (x / 2147483648)
  rw [zq_of r3.1 r3.2 (by omega)]
theorem m0_zero (n : Int) : m0z n = m0 n 0 := by simp [m0, m0z]
theorem mix_in (n x : Int) : mixq (m0 n x) = mix n x := mixq_eq (u64_range _).1 (u64_range _).2
theorem mix_out (n : Int) : mixq (m0z n) = mix n 0 := by rw [m0_zero]; exact mix_in n 0
theorem mixz_out (n : Int) : mixz (m0z n) = mix n 0 := by rw [m0_zero]; rfl

set_option maxHeartbeats 1000000 in
set_option maxRecDepth 100000 in
theorem next_in (w : World) (b : Nat) (ad : Addr) (L c : Nat) (n x : Int) (hn0 : 0 ≤ n) (hn1 : n < 1000000000) (_hL : L ≤ 100000)
   (h0 : w.cell? ⟨b, 0, none⟩ = some (.slice (some ad) L c)) (h1 : w.cell? ⟨b, 1, none⟩ = some (.int .i64 n)) (hf : w.frozen? ⟨b, 1, none⟩ = false)
   (hlt : n < (L : Int)) (hx : w.cell? (ad.add n.toNat) = some (.int .u32 x)) (hx0 : 0 ≤ x) (hx1 : x < 4294967296) :
    Calls Try.prog 11 #[.pointer (some ⟨b, 0, none⟩)] w fun e w' => e = .returned (.int .u32 (mix (n + 1) x)) ∧ ∃ k, w' = (w.drewN k).setCell ⟨b, 1, none⟩ (.int .i64 (n + 1)) := by
  go_enter Try.func11, Try.ntmps11
  go_wp2
  go_quiet (fail)
  go_wp2
  go_quiet (fail)
  go_wp2
  go_ret
  exact ⟨rfl, _, rfl⟩

set_option maxHeartbeats 1000000 in
set_option maxRecDepth 100000 in
theorem next_out (w : World) (b : Nat) (A : Option Addr) (L c : Nat) (n : Int) (hn0 : 0 ≤ n) (hn1 : n < 1000000000) (_hL : L ≤ 100000)
   (h0 : w.cell? ⟨b, 0, none⟩ = some (.slice A L c)) (h1 : w.cell? ⟨b, 1, none⟩ = some (.int .i64 n)) (hf : w.frozen? ⟨b, 1, none⟩ = false)
   (hlt : ¬ n < (L : Int)) :
    Calls Try.prog 11 #[.pointer (some ⟨b, 0, none⟩)] w fun e w' => e = .returned (.int .u32 (mix (n + 1) 0)) ∧ ∃ k, w' = (w.drewN k).setCell ⟨b, 1, none⟩ (.int .i64 (n + 1)) := by
  go_enter Try.func11, Try.ntmps11
  go_wp2
  go_quiet (fail)
  go_wp2
  go_ret
  exact ⟨ret_int (mixz_out _), _, rfl⟩

theorem next_nil (w : World) : Calls Try.prog 11 #[.pointer none] w fun e w' => e = .returned (.int .u32 0) ∧ w = w' := by
  go_enter Try.func11, Try.ntmps11
  go_wp2
  go_ret
  exact ⟨rfl, rfl⟩

theorem len_nil (w : World) : Calls Try.prog 10 #[.pointer none] w fun e w' => e = .returned (.int .i64 0) ∧ w = w' := by
  go_enter Try.func10, Try.ntmps10
  go_wp2
  go_ret
  exact ⟨rfl, rfl⟩

theorem len_at (w : World) (b : Nat) (n : Int) (h1 : w.cell? ⟨b, 1, none⟩ = some (.int .i64 n)) : Calls Try.prog 10 #[.pointer (some ⟨b, 0, none⟩)] w fun e w' => e = .returned (.int .i64 n) ∧ w = w' := by
  go_enter Try.func10, Try.ntmps10
  go_wp2
  go_ret
  exact ⟨rfl, rfl⟩

/-- The document's number i of a list. -/
def drawN (l : List Int) (i : Int) : Int := mix (i + 1) (rd l i)
theorem rd_out (l : List Int) (i : Int) (h0 : 0 ≤ i) (h : ¬ i < (l.length : Int)) : rd l i = 0 := by
  unfold rd
  rw [List.getD_eq_getElem?_getD, List.getElem?_eq_none (by omega)]
  rfl

set_option maxHeartbeats 1000000 in
set_option maxRecDepth 100000 in
theorem draw_in (w : World) (ad : Addr) (L c : Nat) (n x : Int) (hn0 : 0 ≤ n) (hn1 : n < 1000000000) (_hL : L ≤ 100000)
   (hlt : n < (L : Int)) (hx : w.cell? (ad.add n.toNat) = some (.int .u32 x)) (hx0 : 0 ≤ x) (hx1 : x < 4294967296) :
    Calls Try.prog 12 #[.slice (some ad) L c, .int .i64 n] w fun e w' => e = .returned (.int .u32 (mix (n + 1) x)) ∧ w = w' := by
  go_enter Try.func12, Try.ntmps12
  go_wp2
  go_ret
  exact ⟨ret_int (mix_in _ _), rfl⟩
set_option maxHeartbeats 1000000 in
set_option maxRecDepth 100000 in
theorem draw_out (w : World) (A : Option Addr) (L c : Nat) (n : Int) (hn0 : 0 ≤ n) (hn1 : n < 1000000000) (_hL : L ≤ 100000)
   (hlt : ¬ n < (L : Int)) :
    Calls Try.prog 12 #[.slice A L c, .int .i64 n] w fun e w' => e = .returned (.int .u32 (mix (n + 1) 0)) ∧ w = w' := by
  go_enter Try.func12, Try.ntmps12
  go_wp2
  go_ret
  exact ⟨ret_int (mix_out _), rfl⟩
end Go.Proofs.Ytoofnjoipgkfbaa
