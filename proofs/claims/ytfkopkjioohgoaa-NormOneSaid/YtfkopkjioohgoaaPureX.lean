/- Plain laws: the smallest patterns' words. -/
import Derived.Test.YtfkopkjioohgoaaPureY
import Derived.Test.YtfkopkjioohgoaaPureQ
set_option linter.unusedVariables false
set_option linter.unusedSimpArgs false
set_option linter.all false
namespace Go.Cb
theorem one_star {b : List Int} (h : rightB b = true) (hne : b ≠ []) : starS none [(b, [])] = (none, [([], [b])], 0) := by
  have hr : rightS [(b, ([] : List (List Int)))] = true := by
    have := (SetOk.point (tags := b.length) (E := far) 1 0 false h (fun i => (right_getD h i).2) (Int.le_refl _)).right
    exact this
  rw [starS_ok hr (by simp) rfl]
  have h2 : ofF [] [b] = some [b] := by
    rw [ofF, if_neg (by rw [badB_right h]; decide), normB_id h, if_neg (by
      intro e
      exact hne (List.isEmpty_iff.1 e))]
    rfl
  show (none, [(ofLin [] [b]).1], (0 : Int)) = _
  rw [ofLin_yes (by rfl) h2]
  rfl
theorem chk_tag1 {t k T : Int} (h0 : 0 ≤ t) (h1 : t < T) (k1 : 1 ≤ k) (k2 : k ≤ 999999999) : tagB T ⟨3, k, 0, t, ⟨#[]⟩⟩ = true := by
  unfold tagB
  simp only [Bool.and_eq_true, decide_eq_true_eq, beq_iff_eq]
  exact ⟨h0, h1, k1, k2, trivial⟩
theorem norm_tag {t k : Int} (h0 : 0 ≤ t) (h1 : t < 12) (k1 : 1 ≤ k) (k2 : k ≤ 999999999) : normS none [⟨3, k, 0, t, ⟨#[]⟩⟩] 12 = (none, [(oneB t k, [])], 0) := by
  have hc : chkP [⟨3, k, 0, t, ⟨#[]⟩⟩] 12 = true := by
    show (goP 12 0 [⟨3, k, 0, t, ⟨#[]⟩⟩] [] [false]) = true
    rw [goP, stepP_tag_ok rfl (chk_tag1 h0 h1 k1 k2)]
    rfl
  unfold normS
  rw [if_pos ⟨by decide, by decide, hc⟩]
  rfl
theorem norm_tag_no {t k : Int} : normS none [⟨3, k, 0, t, ⟨#[]⟩⟩] t = (none, [], 1) := by
  have hc : chkP [⟨3, k, 0, t, ⟨#[]⟩⟩] t = false := by
    show (goP t 0 [⟨3, k, 0, t, ⟨#[]⟩⟩] [] [false]) = false
    rw [goP, stepP_tag_no rfl (by unfold tagB; simp)]
  unfold normS
  rw [if_neg (by rw [hc]; simp)]
theorem norm_one : normS none [⟨2, 0, 0, 0, ⟨#[]⟩⟩] 0 = (none, oneS, 0) := by rfl
theorem norm_tag_star {t k : Int} (h0 : 0 ≤ t) (h1 : t < 12) (k1 : 1 ≤ k) (k2 : k ≤ 999999999) : normS none [⟨3, k, 0, t, ⟨#[]⟩⟩, ⟨6, 0, 0, 0, ⟨#[]⟩⟩] 12 = (none, [([], [oneB t k])], 0) := by
  have hc : chkP [⟨3, k, 0, t, ⟨#[]⟩⟩, ⟨6, 0, 0, 0, ⟨#[]⟩⟩] 12 = true := by
    show (goP 12 0 [⟨3, k, 0, t, ⟨#[]⟩⟩, ⟨6, 0, 0, 0, ⟨#[]⟩⟩] [] [false, false]) = true
    rw [goP, stepP_tag_ok rfl (chk_tag1 h0 h1 k1 k2)]
    rfl
  have hne : oneB t k ≠ [] := by
    unfold oneB
    rw [if_pos ⟨h0, h1, k1, by unfold far; omega⟩]
    simp
  unfold normS
  rw [if_pos ⟨by decide, by decide, hc⟩]
  have hs := one_star (oneB_right t k) hne
  show normF [⟨6, 0, 0, 0, ⟨#[]⟩⟩] [[(oneB t k, [])]] none = _
  have hn : nodeF ⟨6, 0, 0, 0, ⟨#[]⟩⟩ [[(oneB t k, [])]] (spendM none 1).1 = (none, [([], [oneB t k])], 0) := hs
  rw [normF, if_pos (show (spendM none 1).2 = true from rfl), hn]
  rfl
end Go.Cb
