/- Walks: sums and products, the program's and the document's. -/
import Derived.Test.YtjhnenineachaaaBag1
set_option linter.unusedVariables false
set_option linter.unusedSimpArgs false
set_option linter.all false
namespace Go.Proofs.Ytjhnenineachaaa
open Go.RowKit Go.Cb

theorem okN_t {n : Int} (h : okN n = true) : 0 ≤ n ∧ n ≤ 1152921504606846976 := (okN_iff n).1 h
theorem okN_f {n : Int} (h : okN n = false) : n < 0 ∨ 1152921504606846976 < n := by
  have h2 : ¬ (0 ≤ n ∧ n ≤ 1152921504606846976) := fun h3 => by rw [(okN_iff n).2 h3] at h; cases h
  omega




theorem addN_comm (a b : Int) : addN a b = addN b a := by
  unfold addN
  by_cases h : okN a = true ∧ okN b = true ∧ a + b ≤ far
  · rw [if_pos h, if_pos ⟨h.2.1, h.1, by rw [Int.add_comm]; exact h.2.2⟩, Int.add_comm]
  · rw [if_neg h, if_neg (fun h2 => h ⟨h2.2.1, h2.1, by rw [Int.add_comm]; exact h2.2.2⟩)]
theorem mulN_comm (a b : Int) : mulN a b = mulN b a := by
  unfold mulN
  by_cases h : okN a = true ∧ okN b = true ∧ a * b ≤ far
  · rw [if_pos h, if_pos ⟨h.2.1, h.1, by rw [Int.mul_comm]; exact h.2.2⟩, Int.mul_comm]
  · rw [if_neg h, if_neg (fun h2 => h ⟨h2.2.1, h2.1, by rw [Int.mul_comm]; exact h2.2.2⟩)]
theorem addN_ok {a b n : Int} (h : addN a b = (n, true)) : n = a + b ∧ 0 ≤ a ∧ 0 ≤ b ∧ n ≤ 1152921504606846976 := by
  unfold addN at h
  split at h
  · rename_i hc
    injection h with h _
    obtain ⟨h1, h2, h3⟩ := hc
    have := okN_t h1
    have := okN_t h2
    unfold far at h3
    omega
  · injection h with _ h; cases h
theorem mulN_ok {a b n : Int} (h : mulN a b = (n, true)) : n = a * b ∧ n ≤ 1152921504606846976 := by
  unfold mulN at h
  split at h
  · rename_i hc
    injection h with h _
    obtain ⟨h1, h2, h3⟩ := hc
    unfold far at h3
    omega
  · injection h with _ h; cases h
end Go.Proofs.Ytjhnenineachaaa
