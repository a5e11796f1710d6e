/- Plain laws: lists in order, one by one; the order of linear sets. -/
import Derived.Test.YtghdleofbkalbaaPure5
namespace Go.Cb
def cmpBy {α : Type} (f : α → α → Int) : List α → List α → Int
  | [], [] => 0
  | [], _ :: _ => -1
  | _ :: _, [] => 1
  | x :: a, y :: b => if f x y = 0 then cmpBy f a b else f x y
/-- The first k of both are alike. -/
def agreeTo {α : Type} (f : α → α → Int) (a b : List α) (k : Nat) : Prop := ∀ i, i < k → ∀ (h1 : i < a.length) (h2 : i < b.length), f a[i] b[i] = 0
theorem cmpBy_drop {α : Type} (f : α → α → Int) : ∀ (k : Nat) (a b : List α), k ≤ a.length → k ≤ b.length → agreeTo f a b k → cmpBy f a b = cmpBy f (a.drop k) (b.drop k)
  | 0, _, _, _, _, _ => rfl
  | k + 1, x :: a, y :: b, h1, h2, h => by
    have h0 : f x y = 0 := h 0 (by omega) (by simp) (by simp)
    rw [cmpBy, if_pos h0]
    exact cmpBy_drop f k a b (by simpa using h1) (by simpa using h2) (fun i hi g1 g2 => h (i + 1) (by omega) (by simpa using g1) (by simpa using g2))
  | k + 1, [], _, h1, _, _ => by simp at h1
  | k + 1, _ :: _, [], _, h2, _ => by simp at h2
theorem cmpBy_at {α : Type} {f : α → α → Int} {a b : List α} {k : Nat} (h1 : k < a.length) (h2 : k < b.length) (h : agreeTo f a b k) (hne : f a[k] b[k] ≠ 0) : cmpBy f a b = f a[k] b[k] := by
  rw [cmpBy_drop f k a b (by omega) (by omega) h, List.drop_eq_getElem_cons h1, List.drop_eq_getElem_cons h2, cmpBy, if_neg hne]
theorem cmpBy_short {α : Type} {f : α → α → Int} {a b : List α} (h1 : a.length < b.length) (h : agreeTo f a b a.length) : cmpBy f a b = -1 := by
  rw [cmpBy_drop f a.length a b (by omega) (by omega) h, List.drop_eq_nil_of_le (by omega), List.drop_eq_getElem_cons h1]; rfl
theorem cmpBy_long {α : Type} {f : α → α → Int} {a b : List α} (h1 : b.length < a.length) (h : agreeTo f a b b.length) : cmpBy f a b = 1 := by
  rw [cmpBy_drop f b.length a b (by omega) (by omega) h, List.drop_eq_nil_of_le (Nat.le_refl b.length), List.drop_eq_getElem_cons h1]; rfl
theorem cmpBy_same {α : Type} {f : α → α → Int} {a b : List α} (h1 : a.length = b.length) (h : agreeTo f a b a.length) : cmpBy f a b = 0 := by
  rw [cmpBy_drop f a.length a b (by omega) (by omega) h, List.drop_eq_nil_of_le (by omega), List.drop_eq_nil_of_le (by omega)]; rfl
theorem agreeTo_snoc {α : Type} {f : α → α → Int} {a b : List α} {k : Nat} (h : agreeTo f a b k) (h1 : k < a.length) (h2 : k < b.length) (he : f a[k] b[k] = 0) : agreeTo f a b (k + 1) := by
  intro i hi g1 g2
  by_cases e : i = k
  · subst e; exact he
  · exact h i (by omega) g1 g2
theorem agreeTo_zero {α : Type} (f : α → α → Int) (a b : List α) : agreeTo f a b 0 := fun i hi => absurd hi (by omega)
theorem agreeTo_le {α : Type} {f : α → α → Int} {a b : List α} {k j : Nat} (h : agreeTo f a b k) (hj : j ≤ k) : agreeTo f a b j := fun i hi => h i (by omega)
/-- The first that is not 0. -/
def orL : List Int → Int
  | [] => 0
  | x :: l => if x = 0 then orL l else x
theorem orL_at {l : List Int} {k : Nat} (hk : k < l.length) : orL (l.drop k) = if l[k] = 0 then orL (l.drop (k + 1)) else l[k] := by
  rw [List.drop_eq_getElem_cons hk, orL]
def or3 (a b c : Int) : Int := if a = 0 then (if b = 0 then c else b) else a
def cmpLin (x y : Lin) : Int := if rightL x = true ∧ rightL y = true then or3 (cmpB x.1 y.1) (cmpI x.2.length y.2.length) (cmpBy cmpB x.2 y.2) else 0
theorem cmpLin_no1 {x y : Lin} (h : rightL x = false) : cmpLin x y = 0 := by unfold cmpLin; rw [if_neg (by simp [h])]
theorem cmpLin_no2 {x y : Lin} (h : rightL y = false) : cmpLin x y = 0 := by unfold cmpLin; rw [if_neg (by simp [h])]
theorem cmpLin_yes {x y : Lin} (h : rightL x = true) (h2 : rightL y = true) : cmpLin x y = or3 (cmpB x.1 y.1) (cmpI x.2.length y.2.length) (cmpBy cmpB x.2 y.2) := by unfold cmpLin; rw [if_pos ⟨h, h2⟩]
theorem cmpBy_neg {α : Type} {f : α → α → Int} (hf : ∀ x y, f y x = -f x y) : ∀ a b : List α, cmpBy f b a = -cmpBy f a b
  | [], [] => rfl
  | [], _ :: _ => rfl
  | _ :: _, [] => rfl
  | x :: a, y :: b => by
    rw [cmpBy, cmpBy, hf x y, cmpBy_neg hf a b]
    by_cases h : f x y = 0
    · rw [if_pos h, if_pos (by omega)]
    · rw [if_neg h, if_neg (by omega)]
theorem cmpLin_neg (x y : Lin) : cmpLin y x = -cmpLin x y := by
  unfold cmpLin or3
  by_cases h : rightL x = true ∧ rightL y = true
  · rw [if_pos h, if_pos ⟨h.2, h.1⟩, cmpB_neg x.1 y.1, cmpI_neg x.2.length y.2.length, cmpBy_neg (fun p q => cmpB_neg p q) x.2 y.2]
    split <;> split <;> (try split) <;> (try split) <;> omega
  · rw [if_neg h, if_neg (fun k => h ⟨k.2, k.1⟩)]; rfl
theorem or3_list (a b c : Int) : orL [a, b, c] = or3 a b c := by
  unfold or3
  simp only [orL]
  by_cases h3 : c = 0
  · rw [if_pos h3, h3]
  · rw [if_neg h3]
theorem take_snoc {α : Type} {a b : List α} {k : Nat} (h : a.take k = b.take k) (h1 : k < a.length) (h2 : k < b.length) (he : a[k] = b[k]) : a.take (k + 1) = b.take (k + 1) := by
  rw [List.take_succ_eq_append_getElem h1, List.take_succ_eq_append_getElem h2, h, he]
theorem take_all {α : Type} {a b : List α} (h : a.take a.length = b.take a.length) (hl : a.length = b.length) : a = b := by
  rwa [List.take_of_length_le (Nat.le_refl _), List.take_of_length_le (by omega)] at h
end Go.Cb
