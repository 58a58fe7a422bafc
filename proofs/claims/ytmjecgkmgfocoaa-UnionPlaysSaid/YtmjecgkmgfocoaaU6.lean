/- The union's New. Conditions: none. -/
import Derived.Test.YtmjecgkmgfocoaaU5
import Derived.Deep.OwnRows
import Derived.Deep.CutRange
namespace Go.Proofs.Ytmjecgkmgfocoaa
open Go.RowKit Go.Proofs.YtmjecgkmgfocoaaW.PrintWords Lb

theorem info21 : (Try.prog.info? 21).map (fun i => (i.zero, i.size, i.bytes)) = some (some (.int .i32 0), 1, 4) := by kernel_rfl
theorem made_len (z : Array Value) (n : Nat) : (madeCells z n).size = n := by simp [madeCells]
theorem R_newrow (w : World) (n : Nat) (hn : n ≤ 4194304) : kdN.R 21 (w.alloc (.cells (madeCells #[.int .i32 0] n) 21)) 0 (fun k => k = w.heap.size) (.slice (some ⟨w.heap.size, 0, none⟩) n n) (List.replicate n 0) := by
  refine ⟨fun k hk => ?_, (madeCells #[.int .i32 0] n).toList, ?_, ?_⟩
  · have : w.heap.size = k := by simpa [Value.ownBlock] using hk
    exact this.symm
  · have h2 := World.ownsRow_lit (base := 0) (e := 21) (size := 1) w (madeCells #[.int .i32 0] n) n (Nat.zero_le _) (by simp [maxLen]; omega) (by simp [made_len])
    rw [List.length_replicate]
    exact h2
  · have := Kd.reps_made (R := fun (x : Nat) (c : List Value) => c = [.int .i32 (x : Int)]) (z := .int .i32 0) (size := 1) (z0 := 0) rfl (by omega) (by rfl) n
    rw [Nat.mul_one] at this
    exact this

theorem new_no (w : World) (n : Int) (hn : n < 0 ∨ 4194304 < n) : Calls Try.prog 9 #[.int .i64 n] w fun e w' => e = .returned (.tuple #[.pointer none, .int .i64 1]) ∧ Below w.heap.size w w' := by
  rcases hn with hn | hn
  · go_enter Try.func9, Try.ntmps9
    go_wp2
    go_ret2
    exact ⟨rfl, Below.refl _ _⟩
  · have h0 : ¬ n < 0 := by omega
    go_enter Try.func9, Try.ntmps9
    go_wp2
    go_ret2
    exact ⟨rfl, Below.refl _ _⟩
def Made (w wr : World) (b g1 g2 g3 n : Nat) (up sz le : List Nat) : Prop :=
  Un wr b g1 g2 g3 n (some ⟨g1, 0, none⟩) (some ⟨g2, 0, none⟩) (some ⟨g3, 0, none⟩) n n n up sz le (n : Int) ∧ (∀ k, UF b g1 g2 g3 k → w.heap.size ≤ k) ∧ Below w.heap.size w wr
theorem made_of (w : World) (n : Nat) (hn : n ≤ 4194304) (g1 g2 g3 : Nat) (m1 : g1 = w.heap.size ∨ g1 = w.heap.size + 1 ∨ g1 = w.heap.size + 1 + 1) (m2 : g2 = w.heap.size ∨ g2 = w.heap.size + 1 ∨ g2 = w.heap.size + 1 + 1) (m3 : g3 = w.heap.size ∨ g3 = w.heap.size + 1 ∨ g3 = w.heap.size + 1 + 1) (d : g1 ≠ g2 ∧ g1 ≠ g3 ∧ g2 ≠ g3) :
    Made w ((((w.alloc (.cells (madeCells #[.int .i32 0] n) 21)).alloc (.cells (madeCells #[.int .i32 0] n) 21)).alloc (.cells (madeCells #[.int .i32 0] n) 21)).alloc (.cells #[.slice (some ⟨g1, 0, none⟩) n n, .slice (some ⟨g2, 0, none⟩) n n, .slice (some ⟨g3, 0, none⟩) n n, .int .i64 (n : Int)] 38)).drew (w.heap.size + 1 + 1 + 1) g1 g2 g3 n (List.replicate n 0) (List.replicate n 0) (List.replicate n 0) := by
  have hR : ∀ g, (g = w.heap.size ∨ g = w.heap.size + 1 ∨ g = w.heap.size + 1 + 1) → kdN.R 21 ((((w.alloc (.cells (madeCells #[.int .i32 0] n) 21)).alloc (.cells (madeCells #[.int .i32 0] n) 21)).alloc (.cells (madeCells #[.int .i32 0] n) 21)).alloc (.cells #[.slice (some ⟨g1, 0, none⟩) n n, .slice (some ⟨g2, 0, none⟩) n n, .slice (some ⟨g3, 0, none⟩) n n, .int .i64 (n : Int)] 38)).drew 0 (fun k => k = g) (.slice (some ⟨g, 0, none⟩) n n) (List.replicate n 0) := by
    rintro g (rfl | rfl | rfl)
    · exact R_chg (R_newrow w n hn) (((((Chg.refl Non _).alloc _).alloc _).alloc _).drew) (fun _ _ e => e)
    · have h := R_newrow (w.alloc (.cells (madeCells #[.int .i32 0] n) 21)) n hn
      simp only [World.size_alloc] at h
      exact R_chg h ((((Chg.refl Non _).alloc _).alloc _).drew) (fun _ _ e => e)
    · have h := R_newrow ((w.alloc (.cells (madeCells #[.int .i32 0] n) 21)).alloc (.cells (madeCells #[.int .i32 0] n) 21)) n hn
      simp only [World.size_alloc] at h
      exact R_chg h (((Chg.refl Non _).alloc _).drew) (fun _ _ e => e)
  have hB := blk_new (((w.alloc (.cells (madeCells #[.int .i32 0] n) 21)).alloc (.cells (madeCells #[.int .i32 0] n) 21)).alloc (.cells (madeCells #[.int .i32 0] n) 21)) (.cells #[.slice (some ⟨g1, 0, none⟩) n n, .slice (some ⟨g2, 0, none⟩) n n, .slice (some ⟨g3, 0, none⟩) n n, .int .i64 (n : Int)] 38)
  simp only [World.size_alloc] at hB
  refine ⟨⟨?_, ?_, ?_, ?_, fun _ => ⟨by omega, by omega, by omega, d.1, d.2.1, d.2.2⟩, hB, hR _ m1, hR _ m2, hR _ m3⟩, ?_, ?_⟩
  · show _ < (World.alloc _ _).heap.size
    simp only [World.size_alloc]; omega
  · show _ < (World.alloc _ _).heap.size
    simp only [World.size_alloc]; omega
  · show _ < (World.alloc _ _).heap.size
    simp only [World.size_alloc]; omega
  · show _ < (World.alloc _ _).heap.size
    simp only [World.size_alloc]; omega
  · rintro k (rfl | rfl | rfl | rfl) <;> omega
  · exact (((((Chg.refl Non w).alloc _).alloc _).alloc _).alloc _).drew.non
def fills (l : List Nat) (n : Nat) : List Nat := l ++ List.replicate (n - l.length) 0
theorem fills_set {l : List Nat} {n i : Nat} (h : l.length = i) (hi : i < n) (x : Nat) : (fills l n).set i x = fills (l ++ [x]) n := by
  unfold fills
  subst h
  rw [List.set_append_right _ _ (Nat.le_refl _), Nat.sub_self]
  obtain ⟨m, hm⟩ : ∃ m, n - l.length = m + 1 := ⟨n - l.length - 1, by omega⟩
  rw [hm, List.replicate_succ, List.set_cons_zero]
  simp only [List.length_append, List.length_cons, List.length_nil, List.append_assoc, List.cons_append, List.nil_append]
  rw [show n - (l.length + (0 + 1)) = m by omega]
theorem fills_all {l : List Nat} {n : Nat} (h : l.length = n) : fills l n = l := by
  unfold fills
  rw [h, Nat.sub_self]
  simp
theorem Made.next {w wr : World} {b g1 g2 g3 n i : Nat} (h : Made w wr b g1 g2 g3 n (fills (List.range i) n) (fills (List.replicate i 1) n) (fills (List.range i) n)) (hi : i < n) :
    Made w (((wr.setCell ⟨g1, i, none⟩ (.int .i32 (i : Int))).setCell ⟨g2, i, none⟩ (.int .i32 1)).setCell ⟨g3, i, none⟩ (.int .i32 (i : Int))).drew b g1 g2 g3 n (fills (List.range (i + 1)) n) (fills (List.replicate (i + 1) 1) n) (fills (List.range (i + 1)) n) := by
  have hu := (((h.1.put1 hi i).put2 hi 1).put3 hi i).drew
  rw [fills_set (by simp) hi, fills_set (by simp) hi, ← List.range_succ, ← List.replicate_succ'] at hu
  refine ⟨hu, h.2.1, ?_⟩
  exact ((((((Chg.of_below (F := fun k => w.heap.size ≤ k) h.2.2).set (.inl (h.2.1 _ (.inr (.inl rfl)))) _).set (.inl (h.2.1 _ (.inr (.inr (.inl rfl))))) _).set (.inl (h.2.1 _ (.inr (.inr (.inr rfl))))) _).drew)).below (Nat.le_refl _) (fun k e => e)
set_option maxRecDepth 100000 in
set_option maxHeartbeats 4000000 in
theorem new_ok (w : World) (n : Nat) (hn : n ≤ 4194304) : Calls Try.prog 9 #[.int .i64 (n : Int)] w fun e w' => ∃ b, e = .returned (.tuple #[.pointer (some ⟨b, 0, none⟩), .int .i64 0]) ∧ ∃ g1 g2 g3, Uo w' b g1 g2 g3 (alone n) ∧ (∀ k, UF b g1 g2 g3 k → w.heap.size ≤ k) ∧ Below w.heap.size w w' := by
  have hmk := run_make_row' (P := Try.prog) 36 21 (.int .i32 0) 4 Try.underlying36 info21 rfl .i64 .i64 n (by omega) (by omega)
  have hb1 : (n : Int) ≤ 4194304 := by omega
  have hb0 : (0 : Int) ≤ (n : Int) := by omega
  have HN := Aside0.mk hn
  go_enter Try.func9, Try.ntmps9
  go_upto_region 3 with fail
  go_cut [4] from 12 to 20 (fun v wr => ∃ b g1 g2 g3, v = .pointer (some ⟨b, 0, none⟩) ∧ Aside0 (Made w wr b g1 g2 g3 n (List.replicate n 0) (List.replicate n 0) (List.replicate n 0)))
  case first =>
    go_region
    all_goals
      go_wp2_with fail
      go_meet
      exact ⟨_, _, _, _, rfl, ⟨made_of w n HN.out _ _ _ (by omega) (by omega) (by omega) (by omega)⟩⟩
  case rest =>
    obtain ⟨b, g1, g2, g3, rfl, HM⟩ := hcut
    clear hmk
    go_wp2_with fail
    go_loopg [5, 22] n (fun gk v5 v22 wr => ∃ i : Nat, v22 = .int .i64 (i : Int) ∧ Aside0 (i + gk = n) ∧ Aside0 (Made w wr b g1 g2 g3 n (fills (List.range i) n) (fills (List.replicate i 1) n) (fills (List.range i) n)))
    case atStart => exact ⟨0, rfl, ⟨by omega⟩, HM⟩
    case round =>
      obtain ⟨i, rfl, HK, HMi⟩ := hrel
      cases gk with
      | zero =>
        have hin : i = n := by have := HK.out; omega
        subst hin
        go_wp2
        have hM := HMi.out
        rw [fills_all (by simp), fills_all (by simp)] at hM
        go_ret2
        exact ⟨b, rfl, g1, g2, g3, ⟨i, _, _, _, _, _, _, _, _, _, _, by simp [alone], HN.out, hM.1, alone_inv i⟩, hM.2.1, hM.2.2⟩
      | succ k1 =>
        have hi : i < n := by have := HK.out; omega
        have hU := HMi.out.1
        obtain ⟨_, _, hf1⟩ := hU.at1 hi
        obtain ⟨_, _, hf2⟩ := hU.at2 hi
        obtain ⟨_, _, hf3⟩ := hU.at3 hi
        have h0 := hU.c0
        have h1 := hU.c1'
        have h2 := hU.c2'
        obtain ⟨n1, n2, n3, n4, n5, n6⟩ := hU.ne (by omega)
        have n1' := Ne.symm n1
        have n2' := Ne.symm n2
        have n3' := Ne.symm n3
        have n4' := Ne.symm n4
        have n5' := Ne.symm n5
        have n6' := Ne.symm n6
        have HI := Aside0.mk hi
        have hi1 : (i : Int) < (n : Int) := by omega
        have hi0 : (0 : Int) ≤ (i : Int) := by omega
        have hi2 : (i : Int) ≤ 4194304 := by omega
        clear hU
        go_wp2_with fail
        go_region
        go_wp2
        have hM := HMi.out.next HI.out
        have hk := HK.out
        go_roundg k1
        case measure => omega
        case rel => exact ⟨i + 1, by go_num, ⟨by omega⟩, ⟨hM⟩⟩
end Go.Proofs.Ytmjecgkmgfocoaa
