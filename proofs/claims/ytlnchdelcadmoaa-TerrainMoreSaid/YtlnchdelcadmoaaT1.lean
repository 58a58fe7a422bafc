/- Clone and All. Conditions: what lies in memory as told. -/
import Derived.Test.YtlnchdelcadmoaaT0
namespace Go.Proofs.Ytlnchdelcadmoaa
open Go.RowKit Go.Proofs.YtlnchdelcadmoaaW.PrintWords Go.Proofs.YtlnchdelcadmoaaW.PrintLast Go.Proofs.YtlnchdelcadmoaaW.PrintMore Lb

/-- A row of kinds of the call's own, just made. -/
def NewRow (w w' : World) (l : List Kind) (v : Value) : Prop := ∃ (A : Option Addr) (c : Nat) (F : Nat → Prop), v = .slice A l.length c ∧ kdK.R 29 w' 0 F (.slice A l.length c) l ∧ (∀ k, F k → w.heap.size ≤ k) ∧ (∀ k, F k → k < w'.heap.size) ∧ Below w.heap.size w w'
def RetRow (w : World) (l : List Kind) (e : Ending) (w' : World) : Prop := ∃ v, e = .returned v ∧ NewRow w w' l v

set_option maxHeartbeats 1000000 in
theorem clone_ok (w : World) (A : Option Addr) (n c : Nat) (l : List Kind) (hC : kdK.C w A n l) (hn : l.length = n) (hl : n ≤ 1000000) : Calls Try.prog 23 #[.slice A n c] w (RetRow w l) := by
  have HCl := Aside0.mk hC
  have HN := Aside0.mk hn
  cases A with
  | none =>
    have h0 : n = 0 := by
      rcases Nat.eq_zero_or_pos n with h | h
      · exact h
      · obtain ⟨ad, e, _⟩ := hC.2.2 h
        cases e
    have hl0 : l = [] := List.eq_nil_of_length_eq_zero (by omega)
    subst h0
    subst hl0
    clear hC hn
    have heq := fun w : World => Lib.run_eql_slice_nil (P := Try.prog) w 22 29 none 0 c 0 0 Try.underlying22
    go_enter Try.func23, Try.ntmps23
    go_wp2
    go_ret
    exact ⟨_, rfl, none, 0, fun _ => False, rfl, Kd.R_nil _ _ _ _ _, fun _ e => e.elim, fun _ e => e.elim, Below.refl _ _⟩
  | some ad =>
    have HR := Aside0.mk (R_empty kdK 29 w w.heap.size (fun k => k = w.heap.size) (Nat.le_refl _) rfl)
    clear hC hn
    have heq := fun w : World => Lib.run_eql_slice_nil (P := Try.prog) w 22 29 (some ad) n c 0 0 Try.underlying22
    go_enter Try.func23, Try.ntmps23
    go_wp2_with ((with_reducible refine gate_builtin (b := .append) (xs := #[.tmp 5, .tmp 6]) rfl ?_); at_builtin; go_must (refine R_pushs kdK w.heap.size (fun k => k = w.heap.size) rfl (.tmp 5) (.tmp 6) 22 29 (.agg #[.int .i64 0, .int .u8 0]) 16 rfl Try.underlying22 info29 rfl (by decide) (by omega) (.slice (some ⟨w.heap.size, 0, none⟩) 0 0) [] l (some ad) n c (fun _ => False) rfl rfl HR.out (Kd.C_alloc HCl.out _) (fun _ _ h => h) (fun _ h => h.elim) (by simp) (by simp; omega) ?_; intro v1 w4 F4 hR hlt hnew hC; obtain ⟨A4, n4, c4, hv, HN4, _, _, HR4⟩ := R_outN hR; have hn4 : n = n4 := (by rw [HN4.out, ← HN.out]; simp); subst hn4; subst hv; have HX := Aside0.mk hC; have HW := Aside0.mk hnew; have HLt := Aside0.mk hlt; clear hR hlt hnew hC HN4))
    go_ret
    have hnew : ∀ k, F4 k → w.heap.size ≤ k := fun k hk => (HW.out k hk).elim (fun e => by omega) (fun e => by simp at e; omega)
    refine ⟨_, rfl, A4, c4, F4, by rw [HN.out]; rfl, ?_, hnew, HLt.out, ?_⟩
    · rw [HN.out]; exact Kd.R_lower HR4.out (Nat.zero_le _)
    · exact ((Chg.refl (fun k => w.heap.size ≤ k) w).alloc _).trans HX.out (fun k e => .inl (by show w.heap.size ≤ k; omega)) |>.below (Nat.le_refl _) (fun k e => e)
theorem all_ok {w : World} {F : Nat → Prop} {b : Nat} {l : List Kind} {cl : Int} {ls : List Int} {A : Option Addr} {c : Nat} (h : Tb w F b l cl ls A c) (hl : l.length ≤ 1000000) : Calls Try.prog 12 #[.pointer (some ⟨b, 0, none⟩)] w (RetRow w l) := by
  have HCl := Aside0.mk (Kd.R_reads' h.row).2.2
  have h0 := h.c0
  clear h
  go_enter Try.func12, Try.ntmps12
  go_wp2_with fail
  refine (clone_ok w A l.length c l HCl.out rfl hl).mono ?_
  rintro e w2 ⟨v, rfl, h⟩
  have HH := Aside0.mk h
  clear h
  go_wp2
  go_ret
  exact ⟨_, rfl, HH.out⟩
theorem all_nil (w : World) : Calls Try.prog 12 #[.pointer none] w fun e w' => e = .returned (.slice none 0 0) ∧ w = w' := by
  go_enter Try.func12, Try.ntmps12
  go_wp2
  go_ret
  exact ⟨rfl, rfl⟩
end Go.Proofs.Ytlnchdelcadmoaa
