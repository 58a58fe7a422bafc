/- DrawsTell's walk: what is drawn is the document's. Conditions: the arguments read as numbers. -/
import Derived.Test.YtoofnjoipgkfbaaD3
namespace Go.Proofs.Ytoofnjoipgkfbaa
open Go.RowKit Go.Proofs.YtoofnjoipgkfbaaW.PrintWords Lb

set_option maxHeartbeats 1000000 in
theorem tells_great (w : World) (A : Option Addr) (L c : Nat) (n : Int) (h : 5000 < L ∨ 300 < n) (hn : 0 ≤ n) :
    Calls Try.prog 4 #[.slice A L c, .int .u16 n] w fun e w' => e = .returned (.bool true) ∧ Below w.heap.size w w' := by
  by_cases h1 : 5000 < L
  · go_enter Try.func4, Try.ntmps4
    go_wp2_with (go_at_call 9; refine (awake_yes _).mono ?_; rintro e w1 ⟨rfl, hB⟩; have HB := Aside0.mk hB; clear hB)
    go_ret
    exact ⟨rfl, HB.out⟩
  · have h2 : 300 < n := by omega
    go_enter Try.func4, Try.ntmps4
    go_wp2_with (go_at_call 9; refine (awake_yes _).mono ?_; rintro e w1 ⟨rfl, hB⟩; have HB := Aside0.mk hB; clear hB)
    go_ret
    exact ⟨rfl, HB.out⟩

set_option maxHeartbeats 2000000 in
theorem tells_mid (w : World) (A : Option Addr) (c : Nat) (l : List Int) (n : Int) (h1 : l.length ≤ 5000) (h2 : n ≤ 300) (hn : 0 ≤ n) (h3 : 4096 < l.length)
    (hC : (Kd.int .u32).C w A l.length l) :
    Calls Try.prog 4 #[.slice A l.length c, .int .u16 n] w fun e w' => e = .returned (.bool true) ∧ Below w.heap.size w w' := by
  have HC := Aside0.mk hC
  clear hC
  go_enter Try.func4, Try.ntmps4
  go_wp2_with fail
  refine (awake_yes _).mono ?_
  rintro e w1 ⟨rfl, hB⟩
  have HB := Aside0.mk hB
  have HR := Aside0.mk (R_empty (Kd.int .u32) 30 w1 w.heap.size (fun _ => True) hB.size trivial)
  clear hB
  go_wp2_with (first | ((with_reducible refine gate_builtin (b := .append) (xs := #[.tmp 19, .tmp 20]) rfl ?_); at_builtin; refine Kd.R_append_rows (Kd.int .u32) (w0 := w) w.heap.size rfl (.tmp 19) (.tmp 20) 26 30 (.int .u32 0) 4 rfl Try.underlying26 info30 rfl (by decide) (by omega) (.slice (some ⟨w1.heap.size, 0, none⟩) 0 0) [] l _ _ _ (fun _ => True) (fun _ => False) rfl rfl HR.out (Kd.C_alloc (Kd.C_below HC.out HB.out) _) (fun _ _ h => h) (fun _ h => h.elim) (fun _ _ => trivial) (below_alloc HB.out _) (by have := HB.out.size; simp; omega) (by simp; omega) ?_; intro v1 w2 hR hB2 _ _; obtain ⟨A2, c2, hv, hc2, hC2⟩ := Kd.R_reads hR; subst hv; have HO := Aside0.mk hC2; have HB2 := Aside0.mk hB2; clear hR hB2 hC2 hc2))
  refine (new_great _ _ _ _ (by simpa using h3)).mono ?_
  rintro e w3 ⟨rfl, rfl⟩
  go_wp2
  go_ret
  exact ⟨rfl, HB2.out⟩
end Go.Proofs.Ytoofnjoipgkfbaa
