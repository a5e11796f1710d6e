/- Plain laws: items, and the steps from one letter to the next. -/
import Derived.Test.YtmdcgekiiopohaaGreatMG
import Derived.Test.YtmdcgekiiopohaaGreatPure9
set_option linter.unusedVariables false
set_option linter.unusedSimpArgs false
set_option linter.all false
namespace Go.Cb
abbrev Itm := Int × List Int
def cmpItem (x y : Itm) : Int := if cmpI x.1 y.1 = 0 then cmpB x.2 y.2 else cmpI x.1 y.1
theorem cmpItem_neg (x y : Itm) : cmpItem y x = -cmpItem x y := by
  unfold cmpItem
  have h1 := cmpI_neg x.1 y.1
  have h2 := cmpB_neg x.2 y.2
  by_cases h : cmpI x.1 y.1 = 0
  · rw [if_pos h, if_pos (by omega), h2]
  · rw [if_neg h, if_neg (by omega), h1]
theorem itemO : OrdF cmpItem (fun x => rightB x.2 = true) where
  zero := fun x y hx hy => by
    unfold cmpItem
    constructor
    · intro h
      by_cases h0 : cmpI x.1 y.1 = 0
      · rw [if_pos h0] at h
        exact Prod.ext (cmpI_zero.1 h0) ((cmpB_zero hx hy).1 h)
      · rw [if_neg h0] at h; exact absurd h h0
    · rintro rfl
      rw [if_pos (cmpI_zero.2 rfl)]
      exact (cmpB_zero hx hx).2 rfl
  neg := cmpItem_neg
  trans := fun x y z hx hy hz h1 h2 => by
    have a1 := cmpI_le (a := x.1) (b := y.1)
    have a2 := cmpI_le (a := y.1) (b := z.1)
    have a3 := cmpI_le (a := x.1) (b := z.1)
    have z1 := cmpI_zero (a := x.1) (b := y.1)
    have z2 := cmpI_zero (a := y.1) (b := z.1)
    have z3 := cmpI_zero (a := x.1) (b := z.1)
    unfold cmpItem at *
    by_cases e1 : cmpI x.1 y.1 = 0
    · by_cases e2 : cmpI y.1 z.1 = 0
      · rw [if_pos e1] at h1
        rw [if_pos e2] at h2
        rw [if_pos (z3.2 ((z1.1 e1).trans (z2.1 e2)))]
        exact cmpB_trans hx hy hz h1 h2
      · rw [if_neg e2] at h2
        have := z1.1 e1
        rw [this]
        rw [if_neg e2]
        exact h2
    · rw [if_neg e1] at h1
      by_cases e2 : cmpI y.1 z.1 = 0
      · have := z2.1 e2
        rw [← this, if_neg e1]
        exact h1
      · rw [if_neg e2] at h2
        rw [if_neg (by omega)]
        omega
/-- From the beginning on. -/
def startS (s : SemS) : List Itm := if rightS s = true then s.mapIdx fun j x => ((j : Int), x.1) else []
def okAtI (s : SemS) (l : List Itm) (i : Nat) : Bool :=
  decide (0 ≤ (l.getD i (0, [])).1) && decide ((l.getD i (0, [])).1 < (s.length : Int)) && rightB (l.getD i (0, [])).2 && (i == 0 || decide (cmpItem (l.getD (i - 1) (0, [])) (l.getD i (0, [])) < 0))
def rightI (s : SemS) (l : List Itm) : Bool := rightS s && (List.range l.length).all (okAtI s l)
/-- A carry with those of the periods that a number's digits tell. -/
def pickF (k : Nat) : List (List Int) → Nat → List Int → Option (List Int)
  | [], _, c => some c
  | p :: r, i, c => if (k / 2 ^ i) % 2 = 1 then (if (addB c p).2 = true then pickF k r (i + 1) (addB c p).1 else none) else pickF k r (i + 1) c
def halfB (b : List Int) : List Int := normB (b.map (· / 2))
/-- All that one item leads to: those of the letter, or a sum that is too great. -/
def stepsF (j : Int) (c : List Int) (ps : List (List Int)) (letter : Int) : List Nat → List Itm → Option (List Itm)
  | [], acc => some acc
  | k :: r, acc => match pickF k ps 0 c with
    | none => none
    | some b => stepsF j c ps letter r (if lettI b 0 = letter then acc ++ [(j, halfB b)] else acc)
def itemsF (s : SemS) (letter : Int) : List Itm → MSt → List Itm → MSt × List Itm × Int
  | [], st, acc => (st, acc, 0)
  | x :: r, st, acc =>
    if 20 < (s.getD x.1.toNat ([], [])).2.length then (st, [], 3)
    else if (spendM st ((2 ^ (s.getD x.1.toNat ([], [])).2.length : Nat) : Int)).2 = true then
      match stepsF x.1 x.2 (s.getD x.1.toNat ([], [])).2 letter (List.range (2 ^ (s.getD x.1.toNat ([], [])).2.length)) acc with
      | none => ((spendM st ((2 ^ (s.getD x.1.toNat ([], [])).2.length : Nat) : Int)).1, [], 3)
      | some acc' => itemsF s letter r (spendM st ((2 ^ (s.getD x.1.toNat ([], [])).2.length : Nat) : Int)).1 acc'
    else ((spendM st ((2 ^ (s.getD x.1.toNat ([], [])).2.length : Nat) : Int)).1, [], 7)
def nextS (st : MSt) (s : SemS) (l : List Itm) (letter : Int) : MSt × List Itm × Int :=
  if rightI s l = true then
    if (itemsF s letter l st []).2.2 = 0 then ((itemsF s letter l st []).1, (itemsF s letter l st []).2.1.foldl (putO cmpItem) [], 0)
    else ((itemsF s letter l st []).1, [], (itemsF s letter l st []).2.2)
  else (st, [], 1)
end Go.Cb
