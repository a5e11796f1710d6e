/- Plain laws of linear sets. -/
import Derived.Test.YtghdleofbkalbaaPure4
namespace Go.Cb
abbrev Lin := List Int × List (List Int)
def okAt (ps : List (List Int)) (i : Nat) : Bool := !(ps.getD i []).isEmpty && rightB (ps.getD i []) && (i == 0 || decide (cmpB (ps.getD (i - 1) []) (ps.getD i []) < 0))
def okTo (ps : List (List Int)) (k : Nat) : Bool := (List.range k).all (okAt ps)
def rightL (l : Lin) : Bool := rightB l.1 && okTo l.2 l.2.length
theorem okTo_succ (ps : List (List Int)) (k : Nat) : okTo ps (k + 1) = (okTo ps k && okAt ps k) := by
  unfold okTo
  rw [List.range_succ, List.all_append]; simp
theorem okTo_bad {ps : List (List Int)} {k : Nat} (hk : k < ps.length) (h : okAt ps k = false) : okTo ps ps.length = false := by
  unfold okTo
  rw [← Bool.not_eq_true, List.all_eq_true]
  intro h2
  rw [h2 k (List.mem_range.2 hk)] at h
  cases h
theorem getDl_of {α : Type} {l : List (List α)} {k : Nat} (h : k < l.length) : l.getD k [] = l[k] := by rw [List.getD_eq_getElem?_getD, List.getElem?_eq_getElem h]; rfl
theorem getDl_out {α : Type} {l : List (List α)} {k : Nat} (h : l.length ≤ k) : l.getD k [] = [] := by rw [List.getD_eq_getElem?_getD, List.getElem?_eq_none h]; rfl
theorem rightL_no {l : Lin} (h : rightB l.1 = false) : rightL l = false := by unfold rightL; rw [h]; rfl
theorem rightL_bad {l : Lin} {k : Nat} (hk : k < l.2.length) (h : okAt l.2 k = false) : rightL l = false := by unfold rightL; rw [okTo_bad hk h, Bool.and_false]
theorem rightL_yes {l : Lin} (h : rightB l.1 = true) (h2 : okTo l.2 l.2.length = true) : rightL l = true := by unfold rightL; rw [h, h2]; rfl
/-- How a place is told right: by its own word, and the one ahead of it. -/
theorem okAt_zero {ps : List (List Int)} (h : 0 < ps.length) : okAt ps 0 = (!ps[0].isEmpty && rightB ps[0]) := by
  unfold okAt
  rw [getDl_of h]; simp
theorem okAt_succ {ps : List (List Int)} {k : Nat} (h : k + 1 < ps.length) : okAt ps (k + 1) = (!ps[k + 1].isEmpty && rightB ps[k + 1] && decide (cmpB ps[k] ps[k + 1] < 0)) := by
  unfold okAt
  rw [getDl_of h, show k + 1 - 1 = k from rfl, getDl_of (by omega)]; simp
theorem okAt_first {ps : List (List Int)} {k : Nat} (h : k < ps.length) (h0 : ¬ 0 < k) : okAt ps k = (!ps[k].isEmpty && rightB ps[k]) := by
  obtain rfl : k = 0 := by omega
  exact okAt_zero h
theorem okAt_next {ps : List (List Int)} {k : Nat} (h : k < ps.length) (h0 : 0 < k) : okAt ps k = (!ps[k].isEmpty && rightB ps[k] && decide (cmpB ps[k - 1] ps[k] < 0)) := by
  obtain ⟨j, rfl⟩ : ∃ j, k = j + 1 := ⟨k - 1, by omega⟩
  exact okAt_succ h
end Go.Cb
