/- What an argument of a call reads as, told by the print's kinds: numbers, bools, strings, slices and structs of these, opened to any depth. Conditions: the argument can be read as data. -/
import Derived.Test.YtmjecgkmgfocoaaWWords
import Derived.Deep.Slices
import Derived.ChangeArms
import Derived.DataReads
import Derived.DataElems
import Derived.SizedLaws
namespace Go.Proofs.Ytmjecgkmgfocoaa.Opn
open Go.Proofs.YtmjecgkmgfocoaaW.PrintWords Go.RowKit Go.Deep

/-- Whatever is read as data of type t is one of the kind d, and fits WF. -/
def Opens {α : Type} (P : Program) (d : Kd α) (t : TypeId) (WF : α → Prop) : Prop :=
  ∀ (H : Type) (enc : TypeId × Value → H) (w : World) (base : Nat) (spare : Nat → Bool) (held : Bool) (fuel : Nat) (cs : List Value) (y : DataW H × List MemPlace),
    DataW.trod enc P w base spare held fuel t cs = some y → (∀ n ∈ y.1.weights P t, n ≤ 140737488351232) → ∃ x, d.K w x cs ∧ WF x

theorem opens_int {P : Program} {t : TypeId} {k : IntKind} (hu : P.underlying t = some (.int k)) : Opens P (Kd.int k) t (fun x => (Lit.int k x).wf = true) := by
  intro H enc w base spare held fuel cs y h hz
  obtain ⟨n, rfl, _, hw⟩ := DataW.trod_int hu h
  exact ⟨n, rfl, hw⟩

theorem opens_bool {P : Program} {t : TypeId} (hu : P.underlying t = some .bool) : Opens P Kd.bool t (fun _ => True) := by
  intro H enc w base spare held fuel cs y h hz
  obtain ⟨n, rfl, _⟩ := DataW.trod_bool hu h
  exact ⟨n, rfl, trivial⟩

theorem opens_string {P : Program} {t : TypeId} (hu : P.underlying t = some .string) : Opens P Kd.string t (fun s => s.size ≤ 140737488351232) := by
  intro H enc w base spare held fuel cs y h hz
  obtain ⟨n, rfl, rfl, hs⟩ := DataW.trod_string hu h
  exact ⟨n, rfl, by simpa [DataW.weights] using hz⟩

theorem cells_each {w : World} {base : Nat} {a : Addr} {n : Nat} {cs : List Value} (h : w.cells? base a n = some cs) : cs.length = n ∧ ∀ i u, cs[i]? = some u → w.cell? (a.add i) = some u := by
  obtain ⟨_, hl, hc⟩ := World.cells?_some h
  refine ⟨hl, fun i u hu => ?_⟩
  have hi := (List.getElem?_eq_some_iff.1 hu).1
  rw [hc i (by omega)]
  exact hu

/-- For every index below n there is an x: so there is a list of them. -/
theorem list_of {α : Type} {p : Nat → α → Prop} : ∀ {n : Nat}, (∀ i, i < n → ∃ x, p i x) → ∃ X : List α, X.length = n ∧ ∀ i x, X[i]? = some x → p i x
  | 0, _ => ⟨[], rfl, fun i x h => by simp at h⟩
  | k + 1, hx => by
    obtain ⟨X, hXl, hXi⟩ := list_of (n := k) (fun i hik => hx i (by omega))
    obtain ⟨x, hx1⟩ := hx k (by omega)
    refine ⟨X ++ [x], by simp [hXl], fun i z hz => ?_⟩
    rcases Nat.lt_or_ge i k with hk | hk
    · rw [List.getElem?_append_left (by omega)] at hz
      exact hXi i z hz
    · have hik : i = k := by
        have := (List.getElem?_eq_some_iff.1 hz).1
        simp [hXl] at this
        omega
      subst hik
      rw [← hXl] at hz
      have hz' : x = z := by simpa using hz
      subst hz'
      exact hx1

theorem weights_all {H : Type} {P : Program} {e : TypeId} {n : Nat} : ∀ {l : List (DataW H)} {d : DataW H}, n ∈ d.weights P e → d ∈ l → n ∈ DataW.weightsAll P e l
  | d0 :: l, d, hn, hd => by
    simp only [DataW.weightsAll, List.mem_append]
    rcases List.mem_cons.1 hd with rfl | hd
    · exact Or.inl hn
    · exact Or.inr (weights_all hn hd)

theorem opens_slice {α : Type} {P : Program} {t e : TypeId} {q : Nat} {d : Kd α} {WF : α → Prop} (hu : P.underlying t = some (.slice e)) (hs : P.cellsOf e = d.sz) {B : Nat} (hB : P.bytesOf e = B) (he : Opens P d e WF) :
    Opens P (Kd.slice q d) t (fun xs => xs.length * B ≤ 140737488351232 ∧ ∀ x ∈ xs, WF x) := by
  intro H enc w base spare held fuel cs y h hz
  rcases open_slice hu h with ⟨rfl, _⟩ | ⟨a, len, cap, m, n, D, Pl, rfl, hb, hl, hm, hmm, rfl, hi⟩
  · exact ⟨[], ⟨none, 0, rfl, Nat.le_refl _, rfl, by simp, fun h => absurd h (Nat.lt_irrefl 0)⟩, by simp, by simp⟩
  · have hle : len ≤ m := by rw [hmm]; split <;> omega
    have hx : ∀ i, i < len → ∃ x, (∃ c, c.length = d.sz ∧ d.K w x c ∧ ∀ j u, c[j]? = some u → w.cell? (a.add (i * d.sz + j)) = some u) ∧ WF x := by
      intro i hil
      obtain ⟨c, hc, ht⟩ := hi i (by omega)
      rw [hs] at hc
      have hz1 : ∀ z ∈ (D i).weights P e, z ≤ 140737488351232 := fun z hz' => hz z (by
        simp only [DataW.weights, hu, List.mem_cons, List.mem_append]
        exact Or.inr (Or.inl (weights_all hz' (List.mem_map.2 ⟨i, by simpa using hil, rfl⟩))))
      obtain ⟨x, hK, hW⟩ := he H enc w base spare held n c _ ht hz1
      obtain ⟨hcl, hce⟩ := cells_each hc
      refine ⟨x, ⟨c, hcl, hK, fun j u hj => ?_⟩, hW⟩
      rw [← Addr.add_add]
      exact hce j u hj
    have hX := list_of hx
    obtain ⟨X, hXl, hXi⟩ := hX
    refine ⟨X, ⟨some a, cap, by rw [hXl], by omega, rfl, by simp [maxLen] at hm; omega, fun _ => ⟨a, rfl, fun j p hj => (hXi j p hj).1⟩⟩, ?_, fun x hx => ?_⟩
    · have h1 := hz ((len + (m - len)) * P.bytesOf e) (by simp [DataW.weights, hu])
      rw [hB] at h1
      rw [hXl]
      exact Nat.le_trans (Nat.mul_le_mul_right _ (by omega)) h1
    · obtain ⟨i, hi'⟩ := List.mem_iff_getElem?.1 hx
      exact (hXi i x hi').2

/-- A struct or an array that is an argument is written out. -/
theorem okWide_agg {P : Program} {W : World} {r : Reach} {base : Nat} {t : TypeId} {v : Value} {fs : Array Field} (hu : P.underlying t = some (.struct fs)) {n : Nat} (hn : P.cellsOf t = n) (h : Value.okWide P W r base t v) : ∃ cs, v = .agg cs ∧ cs.size = n := by
  unfold Value.okWide at h
  rw [hu] at h
  obtain ⟨cs, rfl, hs, _⟩ := h
  exact ⟨cs, rfl, hs.trans hn⟩

/-- An argument, opened. -/
theorem opened {α H : Type} {enc : TypeId × Value → H} {P : Program} {W : World} {base : Nat} {spare : Nat → Bool} {held : Bool} {d : Kd α} {t : TypeId} {WF : α → Prop} (ho : Opens P d t WF) {ts : List TypeId} {ds : List (DataW H)}
    (hsz : (DataW.weightsEach P ts ds).all (· ≤ reachBytes) = true) {j : Nat} {dd : DataW H} {v : Value} {p : List MemPlace} (ht : ts[j]? = some t) (hd : ds[j]? = some dd) (h : DataW.Trod enc P W base spare held t v dd p) :
    ∃ x, d.K W x v.cells.toList ∧ WF x := by
  obtain ⟨fuel, hf⟩ := h
  exact ho H enc W base spare held fuel _ _ hf (fun n hn => by
    have := List.all_eq_true.1 hsz n (DataW.weights_mem_each ht hd n hn)
    exact of_decide_eq_true this)

end Go.Proofs.Ytmjecgkmgfocoaa.Opn
