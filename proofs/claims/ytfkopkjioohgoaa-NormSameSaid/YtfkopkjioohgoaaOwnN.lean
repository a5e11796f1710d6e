/- One cell of a row's element is written. -/
import Derived.Test.YtfkopkjioohgoaaPureE
set_option linter.unusedVariables false
set_option linter.unusedSimpArgs false
set_option linter.all false
namespace Go.Cb
open Go.RowKit
theorem drop_set_same {inner : List Value} {k : Nat} {v : Value} : ((inner.set (k * 5 + 4) v).drop (k * 5)).take 5 = ((inner.drop (k * 5)).take 5).set 4 v := by
  apply List.ext_getElem?
  intro i
  simp only [List.getElem?_take, List.getElem?_drop, List.getElem?_set, List.length_take, List.length_drop]
  by_cases h : i < 5
  · by_cases h4 : i = 4
    · subst h4
      simp only [if_pos h]
      by_cases hl : k * 5 + 4 < inner.length
      · rw [if_pos trivial, if_pos hl, if_pos trivial, if_pos (by omega)]
      · rw [if_pos trivial, if_neg hl, if_pos trivial, if_neg (by omega)]
    · rw [if_pos h, if_neg (by omega), if_neg (by omega), if_pos h]
  · rw [if_neg h, if_neg (by omega), if_neg h]
theorem drop_set_other {inner : List Value} {j k : Nat} {v : Value} (h : j ≠ k) : ((inner.set (k * 5 + 4) v).drop (j * 5)).take 5 = (inner.drop (j * 5)).take 5 := by
  apply List.ext_getElem?
  intro i
  simp only [List.getElem?_take, List.getElem?_drop, List.getElem?_set]
  by_cases h5 : i < 5
  · rw [if_pos h5, if_pos h5, if_neg (by omega)]
  · rw [if_neg h5, if_neg h5]
theorem own_name {w : World} {e : TypeId} {b g n c : Nat} {S : Nat → Prop} {xs : List PN} (h : Own patT e w b S (.slice (some ⟨g, 0, none⟩) n c) xs) {k : Nat} {x : PN} (hx : xs[k]? = some x) (nm : ByteArray) :
    Own patT e (w.setCell ⟨g, k * 5 + 4, none⟩ (.string nm)) b S (.slice (some ⟨g, 0, none⟩) n c) (xs.set k (named nm x)) := by
  obtain ⟨inner, ho, hr⟩ := h
  refine ⟨inner.set (k * 5 + 4) (.string nm), ?_, fun j y hj => ?_⟩
  · rw [List.length_set]
    have hn : n = xs.length := by
      rcases ho.2 with ⟨h', _⟩ | ⟨g', cap', cur, h', _⟩
      · cases h'
      · injection h'
    subst hn
    exact (ho.stored (k * 5 + 4) (.string nm)).1
  · rw [List.getElem?_set] at hj
    by_cases e1 : k = j
    · subst e1
      rw [if_pos rfl] at hj
      split at hj
      · injection hj with hj
        subst hj
        have h1 : ((inner.drop (k * 5)).take 5) = [.int .i64 x.k, .int .i64 x.a, .int .i64 x.b, .int .i64 x.n, .string x.s] := hr k x hx
        show ((inner.set (k * 5 + 4) (.string nm)).drop (k * 5)).take 5 = _
        rw [drop_set_same, h1]
        rfl
      · cases hj
    · rw [if_neg e1] at hj
      show ((inner.set (k * 5 + 4) (.string nm)).drop (j * 5)).take 5 = _
      rw [drop_set_other (Ne.symm e1)]
      exact hr j y hj
end Go.Cb
