/- Entries as arguments: what a list of them reads as; HeapNobody's and HeapLess's walks. Conditions: none. -/
import Derived.Test.YtplimabdnpepjaaH9
import Derived.Test.YtplimabdnpepjaaOpen
namespace Go.Proofs.Ytplimabdnpepjaa
open Go.RowKit Go.Proofs.YtplimabdnpepjaaW.PrintWords Go.Proofs.YtplimabdnpepjaaW.PrintLast Go.Proofs.YtplimabdnpepjaaW.PrintMore Lb

theorem opens_ent : Opn.Opens Try.prog kdE 27 (fun _ => True) := by
  intro H enc w base spare held fuel cs y h hz
  obtain ⟨xs, n, _, rfl, hl, hlen, hf⟩ := DataW.trod_struct Try.underlying27 h
  have hl3 : cs.length = 3 := hl.trans (by kernel_rfl)
  match cs, hl3, xs, hlen with
  | [c0, c1, c2], _, [y0, y1, y2], _ =>
    have h0 := hf 0 _ rfl
    have h1 := hf 1 _ rfl
    have h2 := hf 2 _ rfl
    simp only [List.map_cons, List.map_nil, DataW.weights, Try.underlying27, List.mem_append, DataW.weightsEach] at hz
    obtain ⟨a, e0, w0⟩ := Opn.opens_int Try.underlying3 H enc w base spare held n _ _ h0 (fun z hz' => hz z (by simp; exact .inl hz'))
    obtain ⟨b, e1, w1⟩ := Opn.opens_int Try.underlying3 H enc w base spare held n _ _ h1 (fun z hz' => hz z (by simp; exact .inr (.inl hz')))
    obtain ⟨c, e2, w2⟩ := Opn.opens_int Try.underlying3 H enc w base spare held n _ _ h2 (fun z hz' => hz z (by simp; exact .inr (.inr hz')))
    have e0' : [c0] = [Value.int .i64 a] := e0
    have e1' : [c1] = [Value.int .i64 b] := e1
    have e2' : [c2] = [Value.int .i64 c] := e2
    injection e0' with e0'
    injection e1' with e1'
    injection e2' with e2'
    subst e0' e1' e2'
    exact ⟨⟨a, b, c⟩, rfl, trivial⟩
theorem add_flat (g o k : Nat) : (Addr.mk g o none).add k = ⟨g, o + k, none⟩ := by
  unfold Addr.add
  split
  · next h => subst h; rfl
  · rfl
/-- Entry i of a list. -/
theorem ent_at {w : World} {A : Option Addr} {n : Nat} {l : List Entry} (h : kdE.C w A n l) (i : Nat) (hi : i < n) :
    ∃ g o, A = some ⟨g, o, none⟩ ∧ w.cell? ⟨g, o + i * 3, none⟩ = some (.int .i64 (entAt l i).f) ∧ w.cell? ⟨g, o + i * 3 + 1, none⟩ = some (.int .i64 (entAt l i).g) ∧ w.cell? ⟨g, o + i * 3 + 2, none⟩ = some (.int .i64 (entAt l i).c) := by
  obtain ⟨ad, c, e, _, hK, hc⟩ := Kd.C_get h ⟨0, 0, 0⟩ (i : Int) (by omega) (by omega)
  simp only [Int.toNat_natCast] at hK hc
  have hk : c = encE (entAt l i) := hK
  subst hk
  have hc' : ∀ j u, (encE (entAt l i))[j]? = some u → w.cell? (ad.add (i * 3 + j)) = some u := hc
  obtain ⟨g, o, sp⟩ := ad
  have hsp : sp = none := by
    obtain ⟨ad0, c0, e0, _, hK0, hc0⟩ := Kd.C_get h ⟨0, 0, 0⟩ (0 : Int) (by omega) (by omega)
    have hk0 : c0 = encE (entAt l 0) := hK0
    subst hk0
    rw [e] at e0
    injection e0 with e0
    subst e0
    have h1 : w.cell? ⟨g, o, sp⟩ = some (.int .i64 (entAt l 0).f) := hc0 0 _ rfl
    unfold World.cell? at h1
    split at h1
    · cases sp with
      | none => rfl
      | some x => simp at h1
    · cases h1
  subst hsp
  refine ⟨g, o, e, ?_, ?_, ?_⟩
  · have := hc' 0 _ rfl; rwa [add_flat] at this
  · have := hc' 1 _ rfl; rwa [add_flat, ← Nat.add_assoc] at this
  · have := hc' 2 _ rfl; rwa [add_flat, ← Nat.add_assoc] at this

set_option maxHeartbeats 1000000 in
theorem nobody_walk (w : World) (x : Entry) : Calls Try.prog 6 #[.agg #[.int .i64 x.f, .int .i64 x.g, .int .i64 x.c]] w fun e w' => e = .returned (.bool true) ∧ Below w.heap.size w w' := by
  go_enter Try.func6, Try.ntmps6
  go_wp2_with fail
  refine (awake_yes _).mono ?_
  rintro e w1 ⟨rfl, hb⟩
  have z := (Chg.of_below (F := Non) hb).blk (blk_new w (.cells #[.int .i64 x.f, .int .i64 x.g, .int .i64 x.c] 27)) (fun e => e)
  have k0 : w1.cell? ⟨w.heap.size, 0, none⟩ = some (.int .i64 x.f) := by rw [blk_cell z]; rfl
  have k1 : w1.cell? ⟨w.heap.size, 1, none⟩ = some (.int .i64 x.g) := by rw [blk_cell z]; rfl
  have k2 : w1.cell? ⟨w.heap.size, 2, none⟩ = some (.int .i64 x.c) := by rw [blk_cell z]; rfl
  have HB1 := Aside0.mk (below_then (below_alloc (Below.refl w.heap.size w) (.cells #[.int .i64 x.f, .int .i64 x.g, .int .i64 x.c] 27)) (by simp) hb)
  clear hb z
  go_wp2_with fail
  refine (push_nil _ x).mono ?_
  rintro e w2 ⟨rfl, hb⟩
  have HB2 := Aside0.mk (below_then HB1.out HB1.out.size hb)
  clear hb k0 k1 k2
  go_wp2_with fail
  refine (pop_nil _).mono ?_
  rintro e w3 ⟨rfl, hb⟩
  have HB3 := Aside0.mk (below_alloc (below_then HB2.out HB2.out.size hb) (.cells #[.int .i64 0, .int .i64 0, .int .i64 0] 27))
  clear hb
  go_wp2_with fail
  refine (top_nil _).mono ?_
  rintro e w4 ⟨rfl, hb⟩
  have HB4 := Aside0.mk (below_alloc (below_then HB3.out HB3.out.size hb) (.cells #[.int .i64 0, .int .i64 0, .int .i64 0] 27))
  clear hb
  go_wp2_with fail
  refine (len_nil _).mono ?_
  rintro e w5 ⟨rfl, rfl⟩
  go_wp2
  go_ret
  exact ⟨rfl, HB4.out⟩
end Go.Proofs.Ytplimabdnpepjaa
