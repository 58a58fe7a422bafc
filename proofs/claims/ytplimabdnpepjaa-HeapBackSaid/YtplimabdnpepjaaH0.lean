/- Entries, and which one of two is first: the program's Less. Conditions: none. -/
import Derived.Test.YtplimabdnpepjaaProg
import Derived.Test.YtplimabdnpepjaaFlat
import Derived.Test.YtplimabdnpepjaaHP
namespace Go.Proofs.Ytplimabdnpepjaa
open Go.RowKit Go.Proofs.YtplimabdnpepjaaW.PrintWords Lb

def Entry.v (a : Entry) : Value := .agg #[.int .i64 a.f, .int .i64 a.g, .int .i64 a.c]
theorem less_ok (w : World) (a b : Entry) : Calls Try.prog 16 #[.agg #[.int .i64 a.f, .int .i64 a.g, .int .i64 a.c], .agg #[.int .i64 b.f, .int .i64 b.g, .int .i64 b.c]] w fun e w' => e = .returned (.bool (lessE a b)) ∧ Below w.heap.size w w' := by
  by_cases h1 : a.f = b.f
  · by_cases h2 : a.g = b.g
    · have HL : Aside0 (lessE a b = decide (a.c < b.c)) := ⟨by simp [lessE, h1, h2]⟩
      go_enter Try.func16, Try.ntmps16
      go_wp2
      go_ret
      exact ⟨ret_bool HL.out.symm, below_alloc (below_alloc (Below.refl _ _) _) _⟩
    · have HL : Aside0 (lessE a b = decide (b.g < a.g)) := ⟨by simp [lessE, h1, h2]⟩
      have h2' : (a.g == b.g) = false := beq_eq_false_iff_ne.2 h2
      go_enter Try.func16, Try.ntmps16
      go_wp2
      go_ret
      exact ⟨ret_bool HL.out.symm, below_alloc (below_alloc (Below.refl _ _) _) _⟩
  · have HL : Aside0 (lessE a b = decide (a.f < b.f)) := ⟨by simp [lessE, h1]⟩
    have h1' : (a.f == b.f) = false := beq_eq_false_iff_ne.2 h1
    go_enter Try.func16, Try.ntmps16
    go_wp2
    go_ret
    exact ⟨ret_bool HL.out.symm, below_alloc (below_alloc (Below.refl _ _) _) _⟩
end Go.Proofs.Ytplimabdnpepjaa
