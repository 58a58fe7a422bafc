/- DrawsTell's walk, its loops: what is drawn is the document's. Conditions: the arguments read as numbers. -/
import Derived.Test.YtoofnjoipgkfbaaD4
namespace Go.Proofs.Ytoofnjoipgkfbaa
open Go.RowKit Go.Proofs.YtoofnjoipgkfbaaW.PrintWords Lb

theorem int_at_own {w : World} {base : Nat} {ok : Nat → Prop} {v : Value} {xs : List Int} (h : (Kd.int .u32).R 30 w base ok v xs) (i : Nat) (hi : i < xs.length) :
    ∃ g c, v = .slice (some ⟨g, 0, none⟩) xs.length c ∧ ok g ∧ w.cell? ⟨g, i, none⟩ = some (.int .u32 (rd xs i)) ∧ w.frozen? ⟨g, i, none⟩ = false ∧
      ∀ u, (Kd.int .u32).R 30 (w.setCell ⟨g, i, none⟩ (.int .u32 u)) base ok v (xs.set i u) := by
  obtain ⟨g, c, rfl, _, _⟩ := Kd.R_form h (by omega)
  refine ⟨g, c, rfl, h.1 g (by simp [Value.ownBlock]), ?_⟩
  have h1 := Kd.R_cell (0 : Int) h i (by omega) (by omega)
  have h2 := fun u => Kd.R_put h i u
  simp only [Int.toNat_natCast] at h1 h2
  exact ⟨h1.1, h1.2, fun u => (h2 u).1⟩

set_option maxHeartbeats 2000000 in
theorem tells_main (w : World) (A : Option Addr) (c : Nat) (l : List Int) (n : Int) (h2 : n ≤ 300) (hn : 0 ≤ n) (h3 : l.length ≤ 4096)
    (hC : (Kd.int .u32).C w A l.length l) (hU : U32s l) :
    Calls Try.prog 4 #[.slice A l.length c, .int .u16 n] w fun e w' => e = .returned (.bool true) ∧ Below w.heap.size w w' := by
  have HC := Aside0.mk hC
  have HU := Aside0.mk hU
  clear hC hU
  go_enter Try.func4, Try.ntmps4
  go_wp2_with fail
  refine (awake_yes _).mono ?_
  rintro e w1 ⟨rfl, hB⟩
  have HB := Aside0.mk hB
  have HR := Aside0.mk (R_empty (Kd.int .u32) 30 w1 w.heap.size (fun _ => True) hB.size trivial)
  clear hB
  go_wp2_with (first | ((with_reducible refine gate_builtin (b := .append) (xs := #[.tmp 19, .tmp 20]) rfl ?_); at_builtin; refine Kd.R_append_rows (Kd.int .u32) (w0 := w) w.heap.size rfl (.tmp 19) (.tmp 20) 26 30 (.int .u32 0) 4 rfl Try.underlying26 info30 rfl (by decide) (by omega) (.slice (some ⟨w1.heap.size, 0, none⟩) 0 0) [] l _ _ _ (fun _ => True) (fun _ => False) rfl rfl HR.out (Kd.C_alloc (Kd.C_below HC.out HB.out) _) (fun _ _ h => h) (fun _ h => h.elim) (fun _ _ => trivial) (below_alloc HB.out _) (by have := HB.out.size; simp; omega) (by simp; omega) ?_; intro v1 w2 hR hB2 _ _; obtain ⟨A2, c2, hv, hc2, hC2⟩ := Kd.R_reads hR; subst hv; have HO := Aside0.mk hC2; have HB2 := Aside0.mk hB2; have HR2 := Aside0.mk hR; clear hR hB2 hC2 hc2))
  refine (new_ok _ _ _ _ HO.out (by simpa using h3)).mono ?_
  rintro e w3 ⟨b, F, rfl, hD, hF, hB⟩
  have HD := Aside0.mk hD
  have HF := Aside0.mk hF
  have HB3 := Aside0.mk (HB2.out.trans (hB.mono HB2.out.size))
  have HR3 := Aside0.mk (Kd.R_mono (Kd.R_below (Kd.R_bound HR2.out) hB) (ok' := fun k => w.heap.size ≤ k ∧ k < w2.heap.size) (fun k hk => ⟨hk.2.1, hk.2.2.1⟩))
  have HL := Aside0.mk (show ([] ++ l).length = l.length by simp)
  clear hD hF hB
  go_wp2
  go_loopg [8] l.length (fun gk v8 wr => ∃ i : Nat, v8 = .int .i64 (i : Int) ∧ Aside0 (i + gk = l.length) ∧ Aside0 (DrawsAt wr F b ([] ++ l) 0) ∧ Aside0 (Below w.heap.size w wr) ∧
    Aside0 (∃ xs : List Int, xs.length = l.length ∧ (Kd.int .u32).R 30 wr w.heap.size (fun k => w.heap.size ≤ k ∧ k < w2.heap.size) (.slice A2 ([] ++ l).length c2) xs))
  case atStart => exact ⟨0, rfl, ⟨by omega⟩, HD, HB3, ⟨_, HL.out, HR3.out⟩⟩
  case round =>
    obtain ⟨i, rfl, HI, HDr, HBr, HX⟩ := hrel
    obtain ⟨xs, hxl, hxR⟩ := HX.out
    have hI := HI.out
    cases gk with
    | succ k1 =>
      have hlt : i < l.length := by omega
      obtain ⟨g, c3, hv, hg, hcell, hfro, hput⟩ := int_at_own hxR i (by omega)
      injection hv with hA2 hl2 hc3
      subst hA2
      have HP := Aside0.mk (hput 0)
      have HG := Aside0.mk hg
      clear hput hxR HX hl2 hc3 hg hI
      go_wp2
      go_roundg k1
      case measure => omega
      case rel => exact ⟨i + 1, by go_num, ⟨by have := HI.out; omega⟩, ⟨HDr.out.keep (Chg.set (F := fun k => k = g) (p := ⟨g, i, none⟩) (Chg.refl _ wr) (.inl rfl) _) (fun k hk hkg => by have h1 := HF.out k hk; have h2 := HG.out; rw [hkg] at h1; omega)⟩, ⟨HBr.out.setCell (p := ⟨g, i, none⟩) HG.out.1 _⟩, ⟨_, by simpa using hxl, HP.out⟩⟩
    | zero =>
      have hge : ¬ i < l.length := by omega
      clear hxR HX
      go_wp2
      go_loopg [9] n.toNat (fun gk v9 wr => ∃ i : Nat, v9 = .int .i64 (i : Int) ∧ Aside0 (i + gk = n.toNat) ∧ Aside0 (DrawsAt wr F b ([] ++ l) (i : Int)) ∧ Aside0 (Below w.heap.size w wr))
      case atStart => exact ⟨0, rfl, ⟨by omega⟩, HDr, HBr⟩
      case round =>
        obtain ⟨i, rfl, HI, HDr, HBr⟩ := hrel
        have hI := HI.out
        cases gk with
        | succ k1 =>
          have hlt : (i : Int) < n := by omega
          go_wp2_with fail
          refine (len_obj HDr.out).mono ?_
          rintro e w4 ⟨rfl, rfl⟩
          go_wp2_with fail
          refine (next_at HDr.out (by omega) (by omega) (by simpa using HU.out) (by simp; omega)).mono ?_
          rintro e w4 ⟨rfl, hD, hC⟩
          have HD4 := Aside0.mk hD
          have HB4 := Aside0.mk (HBr.out.trans (hC.below (B := w.heap.size) HBr.out.size (fun k hk => by subst hk; have := HF.out k HDr.out.hb; have := HB2.out.size; omega)))
          clear hD hC
          go_wp2_with fail
          refine (draw_any _ _ c l _ (Kd.C_below HC.out HB4.out) (by omega) (by omega) HU.out (by omega)).mono ?_
          rintro e w5 ⟨rfl, rfl⟩
          go_wp2
          go_roundg k1
          case measure => omega
          case rel => exact ⟨i + 1, by go_num, ⟨by omega⟩, HD4, HB4⟩
        | zero =>
          have hge : ¬ (i : Int) < n := by omega
          go_wp2_with fail
          refine (len_obj HDr.out).mono ?_
          rintro e w4 ⟨rfl, rfl⟩
          go_wp2
          go_ret
          refine ⟨ret_bool ?_, HBr.out⟩
          simp
          omega
end Go.Proofs.Ytoofnjoipgkfbaa
namespace Go.Proofs.Ytoofnjoipgkfbaa
open Go.RowKit Go.Proofs.YtoofnjoipgkfbaaW.PrintWords Lb
theorem tells_walk (w : World) (A : Option Addr) (c : Nat) (l : List Int) (hC : (Kd.int .u32).C w A l.length l) (hU : U32s l) (n : Int) (hn : 0 ≤ n) :
    Calls Try.prog 4 #[.slice A l.length c, .int .u16 n] w fun e w' => e = .returned (.bool true) ∧ Below w.heap.size w w' := by
  by_cases h0 : 5000 < l.length ∨ 300 < n
  · exact tells_great w A l.length c n h0 hn
  · by_cases h1 : 4096 < l.length
    · exact tells_mid w A c l n (by omega) (by omega) hn h1 hC
    · exact tells_main w A c l n (by omega) hn (by omega) hC hU
theorem u32s_wf {l : List Int} {B : Nat} (h : l.length * B ≤ 140737488351232 ∧ ∀ x ∈ l, (Lit.int .u32 x).wf = true) : U32s l := by
  intro x hx
  have h1 : 0 ≤ x ∧ x ≤ 4294967295 := by simpa [Lit.wf, IntKind.min, IntKind.max, IntKind.signed, IntKind.bits] using h.2 x hx
  omega
theorem u16_wf {x : Int} (h : (Lit.int .u16 x).wf = true) : 0 ≤ x ∧ x ≤ 65535 := by
  simpa [Lit.wf, IntKind.min, IntKind.max, IntKind.signed, IntKind.bits] using h
end Go.Proofs.Ytoofnjoipgkfbaa
