/- Plain laws: just what a pattern's words cost. -/
import Derived.Test.YtfkopkjioohgoaaPureC
import Derived.Test.YtfkopkjioohgoaaPureK
set_option linter.unusedVariables false
set_option linter.unusedSimpArgs false
set_option linter.all false
namespace Go.Cb
theorem normF_none : ∀ (r : List PN) (L : List SemS), (normF r L none).1 = none
  | [], _ => rfl
  | x :: r, L => by
    rw [normF, if_pos (show (spendM none 1).2 = true from rfl)]
    have h : (nodeF x L (spendM none 1).1).1 = none := nodeF_none x L
    split
    · rw [h]; exact normF_none r _
    · exact h
theorem budget_law (l : List Int) : ∃ (s : SemS) (n : Nat), (playPat l).length ≤ n ∧ n ≤ 103079215128 ∧ 1 ≤ n ∧ ∀ B : Int, 0 ≤ B → ((n : Int) ≤ B → normS (some (B, 0, false)) (playPat l) 4 = (some (B, (n : Int), false), s, 0)) ∧ (B < (n : Int) → (normS (some (B, 0, false)) (playPat l) 4).2 = ([], 7)) := by
  have hc := playPat_chk l
  obtain ⟨_, c1, c2⟩ := playPat_law l
  have hf := norm_fit_any hc none
  have hg := hc
  unfold chkP at hg
  simp only [Bool.and_eq_true, decide_eq_true_eq] at hg
  have hcode : (normF (playPat l) [] none).2.2 = 0 := by
    have := (norm_ok (e := 999999999) hc (by decide) 24 (Nat.le_refl _) (by decide) (by decide) (fun j x hj _ => by have := (List.getElem?_eq_some_iff.1 hj).1; omega) (fun x hx h3 => chk_tag hg.2 x hx h3) none).2.1
    rcases this with h | h
    · exact h
    · exact absurd rfl h.2
  have hn : normF (playPat l) [] none = (none, (normF (playPat l) [] none).2.1, 0) := Prod.ext (normF_none _ _) (Prod.ext rfl hcode)
  have h1 := normF_cost (playPat l) [] _ hn
  have h2 := cost_ge (playPat l) []
  have h3 := cost_le (playPat l) [] _ hn hf
  refine ⟨(normF (playPat l) [] none).2.1, costF (playPat l) [], h2, ?_, by omega, fun B hB => ⟨fun h => ?_, fun h => ?_⟩⟩
  · have : (playPat l).length * 4294967297 ≤ 24 * 4294967297 := Nat.mul_le_mul_right _ c2
    omega
  · unfold normS
    rw [if_pos ⟨by decide, by decide, hc⟩, (h1 B 0 hB).1 (by omega), Int.zero_add]
  · unfold normS
    rw [if_pos ⟨by decide, by decide, hc⟩]
    exact (h1 B 0 hB).2 (by omega)
end Go.Cb
