/- Plain laws: one letter more, step by step. -/
import Derived.Test.YtmdcgekiiopohaaGreatPureI
import Derived.Test.YtmdcgekiiopohaaGreatMG
set_option linter.unusedVariables false
set_option linter.unusedSimpArgs false
set_option linter.all false
namespace Go.Cb
open Go.RowKit
theorem itemsF_at {s : SemS} {letter : Int} {l : List Itm} {k : Nat} {x : Itm} {st : MSt} {acc : List Itm} (h : l[k]? = some x) : itemsF s letter (l.drop k) st acc = itemsF s letter (x :: l.drop (k + 1)) st acc := by
  have hlt := (List.getElem?_eq_some_iff.1 h).1
  rw [List.drop_eq_getElem_cons hlt, (List.getElem?_eq_some_iff.1 h).2]
theorem itemsF_work {s : SemS} {letter : Int} {x : Itm} {r : List Itm} {st : MSt} {acc : List Itm} {ps : List (List Int)} (hp : (s.getD x.1.toNat ([], [])).2 = ps) (h20 : ps.length ≤ 20) (h : (spendM st ((2 ^ ps.length : Nat) : Int)).2 = false) :
    itemsF s letter (x :: r) st acc = ((spendM st ((2 ^ ps.length : Nat) : Int)).1, [], 7) := by
  rw [itemsF, hp, if_neg (by omega), if_neg (by rw [h]; decide)]
theorem itemsF_bad {s : SemS} {letter : Int} {x : Itm} {r : List Itm} {st : MSt} {acc : List Itm} {ps : List (List Int)} (hp : (s.getD x.1.toNat ([], [])).2 = ps) (h20 : ps.length ≤ 20) (h : (spendM st ((2 ^ ps.length : Nat) : Int)).2 = true)
    (h2 : stepsF x.1 x.2 ps letter (List.range (2 ^ ps.length)) acc = none) : itemsF s letter (x :: r) st acc = ((spendM st ((2 ^ ps.length : Nat) : Int)).1, [], 3) := by
  rw [itemsF, hp, if_neg (by omega), if_pos h, h2]
theorem itemsF_next {s : SemS} {letter : Int} {x : Itm} {r : List Itm} {st : MSt} {acc acc' : List Itm} {ps : List (List Int)} (hp : (s.getD x.1.toNat ([], [])).2 = ps) (h20 : ps.length ≤ 20) (h : (spendM st ((2 ^ ps.length : Nat) : Int)).2 = true)
    (h2 : stepsF x.1 x.2 ps letter (List.range (2 ^ ps.length)) acc = some acc') : itemsF s letter (x :: r) st acc = itemsF s letter r (spendM st ((2 ^ ps.length : Nat) : Int)).1 acc' := by
  rw [itemsF, hp, if_neg (by omega), if_pos h, h2]
theorem range_drop {n q : Nat} (h : q < n) : (List.range n).drop q = q :: (List.range n).drop (q + 1) := by
  rw [List.drop_eq_getElem_cons (by simpa using h)]; simp
theorem stepsF_none {j : Int} {c : List Int} {ps : List (List Int)} {letter : Int} {n q : Nat} {acc : List Itm} (h : q < n) (hp : pickF q ps 0 c = none) : stepsF j c ps letter ((List.range n).drop q) acc = none := by
  rw [range_drop h, stepsF, hp]
theorem stepsF_some {j : Int} {c : List Int} {ps : List (List Int)} {letter : Int} {n q : Nat} {acc : List Itm} {b : List Int} (h : q < n) (hp : pickF q ps 0 c = some b) :
    stepsF j c ps letter ((List.range n).drop q) acc = stepsF j c ps letter ((List.range n).drop (q + 1)) (if lettI b 0 = letter then acc ++ [(j, halfB b)] else acc) := by
  rw [range_drop h, stepsF, hp]
theorem stepsF_end {j : Int} {c : List Int} {ps : List (List Int)} {letter : Int} {n : Nat} {acc : List Itm} : stepsF j c ps letter ((List.range n).drop n) acc = some acc := by
  rw [List.drop_eq_nil_of_le (by simp)]; rfl
theorem nextS_no {st : MSt} {s : SemS} {l : List Itm} {letter : Int} (h : rightI s l = false) : nextS st s l letter = (st, [], 1) := by unfold nextS; rw [if_neg (by rw [h]; decide)]
theorem nextS_bad {st st' : MSt} {s : SemS} {l acc : List Itm} {letter e : Int} (h : rightI s l = true) (h2 : itemsF s letter l st [] = (st', acc, e)) (he : e ≠ 0) : nextS st s l letter = (st', [], e) := by
  unfold nextS; rw [if_pos h, h2, if_neg he]
theorem nextS_ok {st st' : MSt} {s : SemS} {l acc : List Itm} {letter : Int} (h : rightI s l = true) (h2 : itemsF s letter l st [] = (st', acc, 0)) : nextS st s l letter = (st', acc.foldl (putO cmpItem) [], 0) := by
  unfold nextS; rw [if_pos h, h2, if_pos rfl]
theorem rightI_set {s : SemS} {l : List Itm} (h : rightI s l = true) : rightS s = true := by
  unfold rightI at h
  exact (Bool.and_eq_true_iff.1 h).1
theorem rightI_at {s : SemS} {l : List Itm} (h : rightI s l = true) {k : Nat} {x : Itm} (hx : l[k]? = some x) : ∃ j : Nat, x.1 = (j : Int) ∧ j < s.length ∧ rightB x.2 = true := by
  unfold rightI at h
  obtain ⟨_, h2⟩ := Bool.and_eq_true_iff.1 h
  have h3 := List.all_eq_true.1 h2 k (by simpa using (List.getElem?_eq_some_iff.1 hx).1)
  unfold okAtI at h3
  rw [List.getD_eq_getElem?_getD, hx] at h3
  simp only [Option.getD_some, Bool.and_eq_true, decide_eq_true_eq] at h3
  exact ⟨x.1.toNat, by omega, by omega, h3.1.2⟩
theorem pickF_right {k : Nat} : ∀ {ps : List (List Int)} {i : Nat} {c b : List Int}, rightB c = true → pickF k ps i c = some b → rightB b = true
  | [], _, c, b, hc, h => by
    injection h with h
    subst h; exact hc
  | p :: r, i, c, b, hc, h => by
    rw [pickF] at h
    split at h
    · split at h
      · rename_i ha
        exact pickF_right (addB_right ha) h
      · cases h
    · exact pickF_right hc h
theorem halfB_right (b : List Int) : rightB (halfB b) = true := normB_right _
theorem all_snocI {acc : List Itm} (h : ∀ y ∈ acc, rightB y.2 = true) (j : Int) (b : List Int) : ∀ y ∈ acc ++ [(j, halfB b)], rightB y.2 = true := fun y hy => by
  rcases List.mem_append.1 hy with hy | hy
  · exact h y hy
  · obtain rfl : y = (j, halfB b) := by simpa using hy
    exact halfB_right b
theorem pow_8 {n : Nat} (h : n ≤ 8) : 1 ≤ 2 ^ n ∧ 2 ^ n ≤ 256 := ⟨Nat.pow_pos (by decide), Nat.le_trans (Nat.pow_le_pow_right (by decide) h) (by decide)⟩
theorem DItmX {w : World} {S : Nat → Prop} {A : Option Addr} {c : Nat} {l : List Int} (h : Rd intT w S A c l) (S' : Nat → Prop) (hS : ∀ k, S k → S' k) : (sl intT).rd w S' l [.slice A l.length c] := ⟨A, c, rfl, h.mono hS⟩
end Go.Cb
