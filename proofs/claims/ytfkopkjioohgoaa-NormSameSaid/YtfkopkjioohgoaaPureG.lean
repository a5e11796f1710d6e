/- Plain laws: a pattern, and nothing beside it: the same words. -/
import Derived.Test.YtfkopkjioohgoaaPureF
import Derived.Test.YtfkopkjioohgoaaPureQ
import Derived.Test.YtfkopkjioohgoaaPureM
import Derived.Test.YtfkopkjioohgoaaPureL
set_option linter.unusedVariables false
set_option linter.unusedSimpArgs false
set_option linter.all false
namespace Go.Cb
theorem same_law (l : List Int) : ∃ s, normS none (playPat l) 4 = (none, s, 0) ∧ (∀ nm, normS none ((playPat l).map (named nm)) 4 = (none, s, 0)) ∧
    ((playPat l).length + 2 ≤ 24 → normS none (playPat l ++ [⟨1, 0, 0, 0, ⟨#[]⟩⟩, ⟨4, ((playPat l).length : Int) - 1, ((playPat l).length : Int), 0, ⟨#[]⟩⟩]) 4 = (none, s, 0)) ∧
    (24 < (playPat l).length + 2 → normS none (playPat l ++ [⟨1, 0, 0, 0, ⟨#[]⟩⟩, ⟨4, ((playPat l).length : Int) - 1, ((playPat l).length : Int), 0, ⟨#[]⟩⟩]) 4 = (none, [], 1)) := by
  have hc := playPat_chk l
  obtain ⟨_, c1, c2⟩ := playPat_law l
  obtain ⟨e1, e2⟩ := playPat_end l
  have hg := hc
  unfold chkP at hg
  simp only [Bool.and_eq_true, decide_eq_true_eq] at hg
  have hok := norm_ok (e := 999999999) hc (by decide) 24 (Nat.le_refl _) (by decide) (by decide) (fun j x hj _ => by have := (List.getElem?_eq_some_iff.1 hj).1; omega) (fun x hx h3 => chk_tag hg.2 x hx h3) none
  have hcode : (normF (playPat l) [] none).2.2 = 0 := by
    rcases hok.2.1 with h | h
    · exact h
    · exact absurd rfl h.2
  have hright := (hok.2.2.1 hcode).1.right
  have hA := fun r => normF_append (playPat l) r [] hcode
  have hs := (hA []).2
  obtain ⟨s, hse⟩ : ∃ s, (allF (playPat l) []).getD ((allF (playPat l) []).length - 1) [] = s := ⟨_, rfl⟩
  have hl : (allF (playPat l) []).length = (playPat l).length := by rw [allF_len]; simp
  rw [hse] at hs
  rw [hs] at hright
  have h0 : normS none (playPat l) 4 = (none, s, 0) := by
    unfold normS
    rw [if_pos ⟨by decide, by decide, hc⟩, hs]
  refine ⟨s, h0, fun nm => by rw [normS_named]; exact h0, fun h24 => ?_, fun h24 => ?_⟩
  · have hch : chkP (playPat l ++ [⟨1, 0, 0, 0, ⟨#[]⟩⟩, ⟨4, ((playPat l).length : Int) - 1, ((playPat l).length : Int), 0, ⟨#[]⟩⟩]) 4 = true := by
      rw [chkP_go (by simp) (by simp; omega)]
      have r1 := e2 2
      have r2 := runP_snoc (y := ⟨1, 0, 0, 0, ⟨#[]⟩⟩) (playPS l).p 0 [] _ _ _ r1 (stepP_one_ok (.inl rfl) rfl rfl rfl)
      dsimp only at r2
      rw [e1, Nat.zero_add] at r2
      have r3 := runP_snoc (y := ⟨4, ((playPat l).length : Int) - 1, ((playPat l).length : Int), 0, ⟨#[]⟩⟩) _ 0 [] _ _ _ r2 (by
        unfold stepP
        dsimp only
        rw [if_neg (by decide), if_neg (by decide), if_pos (.inl rfl), if_neg (by
          rintro (h | h | h | h)
          · simp at h
          · exact h rfl
          · exact h rfl
          · exact h rfl)])
      have r4 := goP_run _ 0 [] _ _ r3
      have r5 : goP 4 0 (playPat l ++ [⟨1, 0, 0, 0, ⟨#[]⟩⟩, ⟨4, ((playPat l).length : Int) - 1, ((playPat l).length : Int), 0, ⟨#[]⟩⟩]) [] (List.replicate ((playPat l).length + 2) false) = true := by
        rw [show playPat l ++ [⟨1, 0, 0, 0, ⟨#[]⟩⟩, ⟨4, ((playPat l).length : Int) - 1, ((playPat l).length : Int), 0, ⟨#[]⟩⟩] = ((playPS l).p ++ [⟨1, 0, 0, 0, ⟨#[]⟩⟩]) ++ [⟨4, ((playPat l).length : Int) - 1, ((playPat l).length : Int), 0, ⟨#[]⟩⟩] by rw [List.append_assoc]; rfl]
        exact r4
      rw [List.length_append]
      exact r5
    unfold normS
    rw [if_pos ⟨by decide, by decide, hch⟩, (hA _).1]
    generalize hLL : allF (playPat l) [] = LL at *
    have g1 : (LL ++ [([] : SemS)]).getD ((((playPat l).length : Int) - 1)).toNat [] = s := by
      rw [show (((playPat l).length : Int) - 1).toNat = LL.length - 1 by omega, List.getD_eq_getElem?_getD, List.getElem?_append_left (by omega), ← List.getD_eq_getElem?_getD]
      exact hse
    have g2 : (LL ++ [([] : SemS)]).getD (((playPat l).length : Int)).toNat [] = [] := by
      rw [Int.toNat_natCast, ← hl, List.getD_eq_getElem?_getD, List.getElem?_append_right (Nat.le_refl _), Nat.sub_self]
      rfl
    have g3 : unionS s [] = s := semi_ext (unionS_right _ _) hright (fun u => by rw [union_mem hright rfl]; simp)
    show normF [⟨4, ((playPat l).length : Int) - 1, ((playPat l).length : Int), 0, ⟨#[]⟩⟩] (LL ++ [([] : SemS)]) none = _
    have g4 : nodeF ⟨4, ((playPat l).length : Int) - 1, ((playPat l).length : Int), 0, ⟨#[]⟩⟩ (LL ++ [([] : SemS)]) none = (none, s, 0) := by
      show (none, unionS _ _, (0 : Int)) = _
      rw [g1, g2, g3]
    rw [normF, if_pos (show (spendM none 1).2 = true from rfl), if_pos (by rw [show (spendM none 1).1 = none from rfl, g4]), show (spendM none 1).1 = none from rfl, g4, normF]
    rw [List.getD_eq_getElem?_getD, List.length_append, List.length_singleton, Nat.add_sub_cancel, List.getElem?_append_right (Nat.le_refl _), Nat.sub_self]
    rfl
  · unfold normS
    rw [if_neg (fun h => by
      have := chkP_no (tags := 4) (p := playPat l ++ [⟨1, 0, 0, 0, ⟨#[]⟩⟩, ⟨4, ((playPat l).length : Int) - 1, ((playPat l).length : Int), 0, ⟨#[]⟩⟩]) (.inr (by rw [List.length_append]; simp; omega))
      rw [this] at h
      exact absurd h.2.2 (by decide))]
end Go.Cb
