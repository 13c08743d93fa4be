/- Texts joined by commas. -/
import Derived.Test.YtfkkabonpbpfoaaDoorEc
import Derived.Test.YtfkkabonpbpfoaaDoorShj
set_option linter.unusedSimpArgs false
set_option linter.unusedVariables false
namespace Go.Proofs.YtfkkabonpbpfoaaDoor.Wk
open Go.RowKit

theorem join_textK (f : Nat → Int) : ∀ k, 0 < k → Lib.join ((List.range k).map fun j => Lib.itoa (f j)) [44] = textK f k := by
  intro k
  induction k with
  | zero => intro h; omega
  | succ k ih =>
    intro _
    by_cases e : k = 0
    · subst e; exact Lib.join_one _ _
    · rw [textK_succ f (by omega), ← ih (by omega), List.range_succ, List.map_append]
      obtain ⟨m, rfl⟩ : ∃ m, k = m + 1 := ⟨k - 1, by omega⟩
      rw [List.range_succ_eq_map]
      simp only [List.map_cons, List.cons_append, Lib.join_cons]
      simp [Lib.joinTail]
end Go.Proofs.YtfkkabonpbpfoaaDoor.Wk
