/- Plain laws: brackets that change nothing. -/
import Derived.Test.YtfkopkjioohgoaaPureE
import Derived.Test.YtfkopkjioohgoaaPureC
import Derived.Test.YtfkopkjioohgoaaPureK
set_option linter.unusedVariables false
set_option linter.unusedSimpArgs false
set_option linter.all false
namespace Go.Cb
/-- The uppermost open one is the last node. -/
def LastOk (x : PS) : Prop := 1 ≤ x.p.length → x.o.getD (x.o.length - 1) 0 = (x.p.length : Int) - 1
theorem last_add (x : PS) (y : PN) (take : Nat) (b : Bool) : LastOk (x.add y take b) := fun _ => by
  show (x.o.take (x.o.length - take) ++ [(x.p.length : Int)]).getD ((x.o.take (x.o.length - take) ++ [(x.p.length : Int)]).length - 1) 0 = (((x.p ++ [y]).length : Nat) : Int) - 1
  rw [List.length_append, List.length_append, List.length_singleton, List.length_singleton, List.getD_eq_getElem?_getD, List.getElem?_append_right (by omega)]
  simp
theorem goPl_last : ∀ (l : List Int) (x : PS), LastOk x → LastOk (goPl l x)
  | [], _, h => h
  | n :: r, x, h => by
    rw [goPl]
    split
    · exact h
    · obtain ⟨y, take, b, e, _, _⟩ := stepPl_cases x n
      exact goPl_last r _ (by rw [e]; exact last_add _ _ _ _)
theorem onePl_last {x : PS} (h : LastOk x) : LastOk (onePl x) := by
  unfold onePl
  split
  · exact last_add _ _ _ _
  · exact h
theorem joinPl_last (l : List Int) : ∀ (f i : Nat) (x : PS), LastOk x → LastOk (joinPl l f i x)
  | 0, _, _, h => h
  | f + 1, i, x, h => by
    unfold joinPl
    exact joinPl_last l f (i + 1) _ (last_add _ _ _ _)
theorem playPat_end (l : List Int) : (playPS l).o = [((playPat l).length : Int) - 1] ∧ RunOk (playPS l) := by
  have o0 : PSok ⟨[], [], []⟩ := ⟨rfl, fun v hv => by simp at hv, Nat.le_refl _, fun h => by simp at h⟩
  have r0 : RunOk ⟨[], [], []⟩ := fun m => by
    show some (([] : List Int), List.replicate (0 + m) false) = some ([], [] ++ List.replicate m false)
    rw [Nat.zero_add, List.nil_append]
  have h0 : PSlaw l.length ⟨[], [], []⟩ := ⟨fun y hy => by simp at hy, fun j y hj => by simp at hj⟩
  have t0 : LastOk ⟨[], [], []⟩ := fun h => by simp at h
  obtain ⟨a1, a2, a3⟩ := goPl_law l ⟨[], [], []⟩ h0 o0 (by simp) (by simp)
  obtain ⟨b1, b2, b3, b4⟩ := onePl_law a1 a2 a3
  have r1 := onePl_run (goPl_run l _ r0 o0)
  obtain ⟨r2, l2⟩ := joinPl_run l ((onePl (goPl l ⟨[], [], []⟩)).o.length - 1) 0 _ r1 b2 (by omega)
  have t2 := joinPl_last l ((onePl (goPl l ⟨[], [], []⟩)).o.length - 1) 0 _ (onePl_last (goPl_last l _ t0))
  obtain ⟨_, c1, c2⟩ := playPat_law l
  have t3 := t2 c1
  refine ⟨?_, r2⟩
  obtain ⟨v, hv⟩ := List.length_eq_one_iff.1 l2
  show (joinPl _ _ _ _).o = _
  rw [hv] at t3 ⊢
  have t4 : v = ((playPat l).length : Int) - 1 := t3
  rw [t4]
theorem normF_append : ∀ (p r : List PN) (L : List SemS), (normF p L none).2.2 = 0 → normF (p ++ r) L none = normF r (allF p L) none ∧ normF p L none = (none, (allF p L).getD ((allF p L).length - 1) [], 0)
  | [], r, L, _ => ⟨rfl, rfl⟩
  | x :: p, r, L, h => by
    have h1 : (nodeF x L (spendM none 1).1).1 = none := nodeF_none x L
    rw [normF, if_pos (show (spendM none 1).2 = true from rfl)] at h
    rw [List.cons_append, normF, normF, if_pos (show (spendM none 1).2 = true from rfl), if_pos (show (spendM none 1).2 = true from rfl)]
    by_cases he : (nodeF x L (spendM none 1).1).2.2 = 0
    · rw [if_pos he, h1] at h
      rw [if_pos he, if_pos he, h1]
      exact normF_append p r _ h
    · rw [if_neg he] at h
      exact absurd h he
end Go.Cb
