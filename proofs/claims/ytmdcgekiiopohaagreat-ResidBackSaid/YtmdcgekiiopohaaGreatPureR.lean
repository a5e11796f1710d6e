/- Plain laws: what is left of a set when one of a tag has come; do tags cover it. -/
import Derived.Test.YtmdcgekiiopohaaGreatMG
set_option linter.unusedVariables false
set_option linter.unusedSimpArgs false
set_option linter.all false
namespace Go.Cb
def hasB (b : List Int) (tag : Int) : Bool := decide (0 ≤ tag) && decide (tag < (b.length : Int)) && decide (0 < b.getD tag.toNat 0)
/-- What a period leaves: the words, or none. -/
def lessF (x : Lin) (tag : Int) (p : List Int) : Lin × Bool := (((addB x.1 (subB p (oneB tag 1)).1).1, x.2), (addB x.1 (subB p (oneB tag 1)).1).2)
def leftF (x : Lin) (tag : Int) : List (List Int) → MSt → List Lin → MSt × List Lin × Int
  | [], st, acc => (st, acc, 0)
  | p :: r, st, acc =>
    if hasB p tag = true then
      if (spendM st 1).2 = true then
        if (lessF x tag p).2 = true then leftF x tag r (spendM st 1).1 (acc ++ [(lessF x tag p).1]) else ((spendM st 1).1, [], 3)
      else ((spendM st 1).1, [], 7)
    else leftF x tag r st acc
def leftS (x : Lin) (tag : Int) (st : MSt) (acc : List Lin) : MSt × List Lin × Int :=
  if (spendM st 1).2 = true then
    if hasB x.1 tag = true then ((spendM st 1).1, acc ++ [((subB x.1 (oneB tag 1)).1, x.2)], 0)
    else leftF x tag x.2 (spendM st 1).1 acc
  else ((spendM st 1).1, [], 7)
def byF (tag : Int) : SemS → MSt → List Lin → MSt × List Lin × Int
  | [], st, acc => (st, acc, 0)
  | x :: r, st, acc => if (leftS x tag st acc).2.2 = 0 then byF tag r (leftS x tag st acc).1 (leftS x tag st acc).2.1 else ((leftS x tag st acc).1, [], (leftS x tag st acc).2.2)
def byS (st : MSt) (s : SemS) (tag : Int) : MSt × SemS × Int :=
  if rightS s = true ∧ 0 ≤ tag ∧ tag < 12 then
    if (byF tag s st []).2.2 = 0 then ((byF tag s st []).1, (ofS (byF tag s st []).2.1).1, 0) else ((byF tag s st []).1, [], (byF tag s st []).2.2)
  else (st, [], 1)
theorem leftF_acc (x : Lin) (tag : Int) : ∀ (r : List (List Int)) (st : MSt) (acc : List Lin), leftF x tag r st acc = ((leftF x tag r st []).1, if (leftF x tag r st []).2.2 = 0 then acc ++ (leftF x tag r st []).2.1 else [], (leftF x tag r st []).2.2)
  | [], st, acc => by simp [leftF]
  | p :: r, st, acc => by
    unfold leftF
    split
    · split
      · split
        · rw [leftF_acc x tag r _ (acc ++ _), leftF_acc x tag r _ ([] ++ _)]
          dsimp only
          split <;> simp
        · simp
      · simp
    · rw [leftF_acc x tag r st acc]
theorem leftS_acc (x : Lin) (tag : Int) (st : MSt) (acc : List Lin) : leftS x tag st acc = ((leftS x tag st []).1, if (leftS x tag st []).2.2 = 0 then acc ++ (leftS x tag st []).2.1 else [], (leftS x tag st []).2.2) := by
  unfold leftS
  split
  · split
    · simp
    · rw [leftF_acc]
  · simp
def anyB (b : List Int) (tags : List Int) : Bool := tags.any fun t => hasB b t
/-- Do these cover it? If not, a word that they do not. -/
def coverF (free : Bool) (tags : List Int) : SemS → Bool × List Int
  | [] => (true, [])
  | x :: r =>
    if anyB x.1 tags = true then coverF free tags r
    else if x.1 ≠ [] ∨ free = false then (false, x.1)
    else match x.2.find? fun p => !anyB p tags with
      | some p => (false, p)
      | none => coverF free tags r
def coverS (s : SemS) (free : Bool) (tags : List Int) : Bool × List Int := if rightS s = true then coverF free tags s else (false, [])
end Go.Cb
