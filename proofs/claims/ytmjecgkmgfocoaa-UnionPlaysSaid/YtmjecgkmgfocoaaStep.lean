/- One element more to a row of one's own, inside a region that draws its order. Conditions: none. -/
import Derived.Test.YtmjecgkmgfocoaaLib
import Derived.Deep.RegionLaw
namespace Go.Proofs.Ytmjecgkmgfocoaa.Lb
open Go.RowKit Go.Proofs.YtmjecgkmgfocoaaW.PrintWords

theorem bcell {W w1 : World} (hb : Below W.heap.size W w1) : (∀ b o, b < W.heap.size → w1.cell? ⟨b, o, none⟩ = W.cell? ⟨b, o, none⟩) ∧ (∀ b o, b < W.heap.size → w1.frozen? ⟨b, o, none⟩ = W.frozen? ⟨b, o, none⟩) :=
  ⟨fun b o h => hb.cell (p := ⟨b, o, none⟩) h, fun b o h => hb.frozen (p := ⟨b, o, none⟩) h⟩
theorem bsome {W w1 : World} (hb : Below W.heap.size W w1) : ∀ a v, W.cell? a = some v → w1.cell? a = some v :=
  fun a _ h => (hb.cell (World.block_lt_of_cell? W a h)).trans h
/-- One element more, as a step of a region that draws its order. -/
theorem push_step {P : Program} {ops : Array Oper} {o : Oper} {a : Act} {Q : Exit → Act → World → Prop} {Kc : Act → World → Prop} {α : Type} (d : Kd α) {W : World} (base : Nat) (F : Nat → Prop) (hw : Region.wanted o (yielded ops a.tmps) = true) (s x : Operand) (t e : TypeId) (z : Value) (bytes : Nat)
    (ho : o.op = .call { callee := .builtin .append, args := #[s, x], argTypes := #[t, t] })
    (ht : P.underlying t = some (.slice e)) (hinfo : (P.info? e).map (fun i => (i.zero, i.size, i.bytes)) = some (some z, d.sz, bytes)) (hz : z.cells.size = d.sz) (hs0 : 0 < d.sz) (hb0 : 0 < bytes)
    (v : Value) (xs : List α) (p : α) (cs : List Value) (okp : Nat → Prop) (N : Nat) (hN : W.heap.size = N) (hs : a.eval s = v) (hx : a.eval x = .slice (some ⟨N, 0, none⟩) 1 1) (hp : d.M W base okp p cs) (hokp : ∀ k, okp k → F k ∧ some k ≠ v.ownBlock)
    (HO : d.R e W base F v xs) (hbase : base ≤ W.heap.size) (hl : (xs.length + 1) * bytes ≤ 140737488355328)
    (h : ∀ v1 w1 F1, d.R e w1 base F1 v1 (xs ++ [p]) → (∀ k, F1 k → k < w1.heap.size) → (∀ k, F1 k → F k ∨ W.heap.size ≤ k) → Chg F W w1 → Kc (a.put o.dst v1) w1) :
    if Region.wanted o (yielded ops a.tmps) = true then Oper.wp P o a (W.alloc (.cells cs.toArray e)) Kc Q else Kc (a.put o.dst undef) (W.alloc (.cells cs.toArray e)) := by
  subst hN
  have HO2 : d.R e W base (fun k => F k ∨ W.heap.size ≤ k) v xs := Kd.R_mono HO (fun k hk => .inl hk)
  refine Kd.R_append_step d (w0 := W) base hw s x t e z bytes ho ht hinfo hz hs0 hb0 v xs p cs (fun k => F k ∨ W.heap.size ≤ k) okp hs hx hp (fun k hk => ⟨.inl (hokp k hk).1, (hokp k hk).2⟩) (fun k hk => .inr hk) HO2 (Below.refl _ _) hbase hl ?_
  intro v1 w1 hR _ hg _
  exact h v1 w1 (fun k => (F k ∨ W.heap.size ≤ k) ∧ k < w1.heap.size) (R_at hR _ (fun k hk hl => ⟨hk, hl⟩)) (fun k hk => hk.2) (fun k hk => hk.1) (Chg.of_grown hg (fun k hk => HO.1 k hk))

end Go.Proofs.Ytmjecgkmgfocoaa.Lb
