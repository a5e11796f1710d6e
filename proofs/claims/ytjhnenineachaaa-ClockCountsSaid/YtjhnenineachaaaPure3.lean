/- Plain laws of words: the document's sums, made place by place. -/
import Derived.Test.YtjhnenineachaaaPure2
set_option linter.unusedVariables false
set_option linter.unusedSimpArgs false
set_option linter.all false
namespace Go.Cb
def addF (L : Nat) (a b : List Int) (k : Nat) : List Int := (List.range L).map fun i => if i < k then a.getD i 0 + b.getD i 0 else 0
theorem addF_len (L : Nat) (a b : List Int) (k : Nat) : (addF L a b k).length = L := by simp [addF]
theorem addF_get {L : Nat} (a b : List Int) (k : Nat) {i : Nat} (hi : i < L) : (addF L a b k).getD i 0 = if i < k then a.getD i 0 + b.getD i 0 else 0 := by
  rw [getD_of (by rw [addF_len]; exact hi)]
  simp [addF]
theorem addF_zero (L : Nat) (a b : List Int) : addF L a b 0 = List.replicate L 0 := by
  apply list_ext
  · rw [addF_len, List.length_replicate]
  · intro i hi
    rw [addF_len] at hi
    rw [addF_get a b 0 hi, getD_of (l := List.replicate L 0) (by rw [List.length_replicate]; exact hi)]
    simp
theorem addF_full (a b : List Int) {L : Nat} (hL : L = max a.length b.length) : addF L a b L = addP a b := by
  apply list_ext
  · rw [addF_len, addP_length, hL]
  · intro i hi
    rw [addF_len] at hi
    rw [addF_get a b L hi, addP_get, if_pos hi]
theorem addF_step {L : Nat} (a b : List Int) {k : Nat} (hk : k < L) : (addF L a b k).set k (a.getD k 0 + b.getD k 0) = addF L a b (k + 1) := by
  apply list_ext
  · rw [List.length_set, addF_len, addF_len]
  · intro i hi
    rw [List.length_set, addF_len] at hi
    rw [getD_set _ _ _ _ (by rw [addF_len]; exact hk), addF_get _ _ _ hi, addF_get _ _ _ hi]
    by_cases h : i = k
    · subst h; rw [if_pos rfl, if_pos (by omega)]
    · rw [if_neg h]
      by_cases h2 : i < k
      · rw [if_pos h2, if_pos (by omega)]
      · rw [if_neg h2, if_neg (by omega)]
theorem addB_all {a b : List Int} (ha : rightB a = true) (hb : rightB b = true) (h : ∀ i, i < max a.length b.length → a.getD i 0 + b.getD i 0 ≤ far) : addB a b = (addP a b, true) := by
  by_cases hl : b.length ≤ a.length
  · exact addB_yes ha hb hl (fun i hi => h i (by omega))
  · rw [addB_comm, addP_comm]
    exact addB_yes hb ha (by omega) (fun i hi => by rw [Int.add_comm]; exact h i (by omega))
theorem right_getD {b : List Int} (h : rightB b = true) (i : Nat) : 0 ≤ b.getD i 0 ∧ b.getD i 0 ≤ far := by
  by_cases hi : i < b.length
  · rw [getD_of hi]; exact right_ok h _ (List.getElem_mem hi)
  · rw [getD_out (by omega)]; simp [far]
end Go.Cb
