/- Walks: what is left of a set when one of a tag has come. -/
import Derived.Test.YtbfbhacdllhddaaResid1
set_option linter.unusedVariables false
set_option linter.unusedSimpArgs false
set_option linter.all false
namespace Go.Cb
open Go.RowKit
theorem leftF_mem {x : Lin} {tag : Int} : ∀ {r : List (List Int)} {st : MSt} {acc : List Lin}, (leftF x tag r st acc).2.1.length ≤ acc.length + r.length ∧ ∀ y ∈ (leftF x tag r st acc).2.1, y ∈ acc ∨ y.2 = x.2
  | [], st, acc => ⟨Nat.le_refl _, fun y hy => .inl hy⟩
  | p :: r, st, acc => by
    rw [leftF]
    split
    · split
      · split
        · obtain ⟨h1, h2⟩ := leftF_mem (x := x) (tag := tag) (r := r) (st := (spendM st 1).1) (acc := acc ++ [(lessF x tag p).1])
          refine ⟨by rw [List.length_append, List.length_singleton] at h1; simp only [List.length_cons]; omega, fun y hy => ?_⟩
          rcases h2 y hy with h | h
          · rcases List.mem_append.1 h with h | h
            · exact .inl h
            · obtain rfl : y = (lessF x tag p).1 := by simpa using h
              exact .inr rfl
          · exact .inr h
        · exact ⟨Nat.zero_le _, fun y hy => by simp at hy⟩
      · exact ⟨Nat.zero_le _, fun y hy => by simp at hy⟩
    · obtain ⟨h1, h2⟩ := leftF_mem (x := x) (tag := tag) (r := r) (st := st) (acc := acc)
      exact ⟨by simp only [List.length_cons]; omega, h2⟩
theorem leftS_mem {x : Lin} {tag : Int} {st : MSt} {acc : List Lin} : (leftS x tag st acc).2.1.length ≤ acc.length + x.2.length + 1 ∧ ∀ y ∈ (leftS x tag st acc).2.1, y ∈ acc ∨ y.2 = x.2 := by
  unfold leftS
  split
  · split
    · refine ⟨by rw [List.length_append, List.length_singleton]; omega, fun y hy => ?_⟩
      rcases List.mem_append.1 hy with h | h
      · exact .inl h
      · obtain rfl : y = ((subB x.1 (oneB tag 1)).1, x.2) := by simpa using h
        exact .inr rfl
    · obtain ⟨h1, h2⟩ := leftF_mem (x := x) (tag := tag) (r := x.2) (st := (spendM st 1).1) (acc := acc)
      exact ⟨by omega, h2⟩
  · exact ⟨Nat.zero_le _, fun y hy => by simp at hy⟩
theorem byF_at {tag : Int} {s : SemS} {k : Nat} {x : Lin} {st : MSt} {acc : List Lin} (h : s[k]? = some x) : byF tag (s.drop k) st acc = byF tag (x :: s.drop (k + 1)) st acc := by
  have hlt := (List.getElem?_eq_some_iff.1 h).1
  rw [List.drop_eq_getElem_cons hlt, (List.getElem?_eq_some_iff.1 h).2]
theorem byF_bad {tag : Int} {x : Lin} {r : SemS} {st st' : MSt} {acc o : List Lin} {e : Int} (h : leftS x tag st acc = (st', o, e)) (he : e ≠ 0) : byF tag (x :: r) st acc = (st', [], e) := by rw [byF, h, if_neg he]
theorem byF_next {tag : Int} {x : Lin} {r : SemS} {st st' : MSt} {acc o : List Lin} (h : leftS x tag st acc = (st', o, 0)) : byF tag (x :: r) st acc = byF tag r st' o := by rw [byF, h, if_pos rfl]
theorem leftS_from {x : Lin} {tag : Int} {st st' : MSt} {acc o : List Lin} {e : Int} (h : leftS x tag st [] = (st', o, e)) : leftS x tag st acc = (st', if e = 0 then acc ++ o else [], e) := by rw [leftS_acc, h]
theorem byS_arg {st : MSt} {s : SemS} {tag : Int} (h : ¬ (rightS s = true ∧ 0 ≤ tag ∧ tag < 12)) : byS st s tag = (st, [], 1) := by unfold byS; rw [if_neg h]
theorem byS_bad {st st' : MSt} {s : SemS} {tag e : Int} {o : List Lin} (h : rightS s = true ∧ 0 ≤ tag ∧ tag < 12) (h2 : byF tag s st [] = (st', o, e)) (he : e ≠ 0) : byS st s tag = (st', [], e) := by unfold byS; rw [if_pos h, h2, if_neg he]
theorem byS_ok {st st' : MSt} {s : SemS} {tag : Int} {o : List Lin} (h : rightS s = true ∧ 0 ≤ tag ∧ tag < 12) (h2 : byF tag s st [] = (st', o, 0)) : byS st s tag = (st', (ofS o).1, 0) := by unfold byS; rw [if_pos h, h2, if_pos rfl]
end Go.Cb
namespace Go.Proofs.Ytbfbhacdllhddaa
open Go.RowKit Go.Cb Go.Sort
end Go.Proofs.Ytbfbhacdllhddaa
