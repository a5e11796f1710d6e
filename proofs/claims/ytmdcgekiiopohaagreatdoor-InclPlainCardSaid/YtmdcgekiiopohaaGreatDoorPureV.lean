/- Plain laws: can a word be made of another one and some of these. -/
import Derived.Test.YtmdcgekiiopohaaGreatDoorPureO
set_option linter.unusedVariables false
set_option linter.unusedSimpArgs false
set_option linter.all false
namespace Go.Cb
def Made (ps : List (List Int)) (w v : List Int) : Prop := ∃ f : Nat → Nat, ∀ t, w.getD t 0 = v.getD t 0 + dotF f t ps 0
theorem dotF_shift (f : Nat → Nat) (t : Nat) : ∀ (ps : List (List Int)) (i : Nat), dotF f t ps (i + 1) = dotF (fun j => f (j + 1)) t ps i
  | [], _ => rfl
  | p :: r, i => by rw [dotF, dotF, dotF_shift f t r (i + 1)]
theorem made_cons {p w v : List Int} {r : List (List Int)} (ha : (addB v p).2 = true) : Made (p :: r) w v ↔ Made r w v ∨ Made (p :: r) w (addB v p).1 := by
  constructor
  · rintro ⟨f, hf⟩
    rcases Nat.eq_zero_or_pos (f 0) with h0 | h0
    · refine .inl ⟨fun j => f (j + 1), fun t => ?_⟩
      have h1 := hf t
      rw [dotF, h0, dotF_shift] at h1
      simp only [Int.natCast_zero, Int.zero_mul] at h1
      omega
    · refine .inr ⟨fun j => if j = 0 then f 0 - 1 else f j, fun t => ?_⟩
      have h1 := hf t
      rw [dotF] at h1
      rw [dotF, addB_getD ha, dotF_congr (g := f) (fun j h1 _ => if_neg (by omega)), if_pos rfl]
      have h2 : ((f 0 : Nat) : Int) = ((f 0 - 1 : Nat) : Int) + 1 := by omega
      rw [h2, Int.add_mul, Int.one_mul] at h1
      omega
  · rintro (⟨f, hf⟩ | ⟨f, hf⟩)
    · refine ⟨fun j => if j = 0 then 0 else f (j - 1), fun t => ?_⟩
      rw [dotF, dotF_shift, dotF_congr (g := f) (fun j _ _ => by show (if j + 1 = 0 then 0 else f (j + 1 - 1)) = f j; rw [if_neg (by omega), Nat.add_sub_cancel]), if_pos rfl, hf t]
      simp
    · refine ⟨fun j => if j = 0 then f 0 + 1 else f j, fun t => ?_⟩
      have h1 := hf t
      rw [dotF, addB_getD ha] at h1
      rw [dotF, dotF_congr (g := f) (fun j h1 _ => if_neg (by omega)), if_pos rfl, Int.natCast_add, Int.add_mul, h1]
      simp
      omega
theorem le_getD {a b : List Int} (hb : rightB b = true) (h : ∀ i, b.getD i 0 ≤ a.getD i 0) : leP a b = true := by
  refine (leP_iff _ _).2 ⟨?_, fun i _ => h i⟩
  rcases Nat.lt_or_ge a.length b.length with hl | hl
  · exfalso
    have h0 := (right_getD hb (b.length - 1)).1
    have h3 := h (b.length - 1)
    rw [getD_out (l := a) (by omega), getD_of (l := b) (by omega)] at h3
    rw [getD_of (by omega)] at h0
    unfold rightB at hb
    simp only [Bool.and_eq_true] at hb
    have h2 := hb.1.2
    rw [List.getLast?_eq_getElem?, List.getElem?_eq_getElem (by omega), show b[b.length - 1] = 0 by omega] at h2
    simp at h2
  · exact hl
theorem made_le {ps : List (List Int)} {w v : List Int} (hv : rightB v = true) (hp : ∀ p ∈ ps, rightB p = true) (h : Made ps w v) : leP w v = true := by
  obtain ⟨f, hf⟩ := h
  refine le_getD hv (fun i => ?_)
  have h1 := hf i
  have h2 := dotF_nonneg (f := f) (t := i) (ps := ps) (i := 0) (fun p hp' => (right_getD (hp p hp') i).1)
  omega
theorem sum_ge : ∀ {l : List Int}, (∀ x ∈ l, 0 ≤ x) → ∀ {y : Int}, y ∈ l → y ≤ l.sum
  | [], _, y, hy => by simp at hy
  | x :: r, h, y, hy => by
    have h1 := h x (by simp)
    have h2 := sum_nonneg (b := r) (fun z hz => h z (by simp [hz]))
    rw [List.sum_cons]
    rcases List.mem_cons.1 hy with rfl | hy
    · omega
    · have := sum_ge (l := r) (fun z hz => h z (by simp [hz])) hy
      omega
theorem right_nonneg {p : List Int} (hp : rightB p = true) : ∀ x ∈ p, 0 ≤ x := fun x hx => (right_ok hp x hx).1
theorem sum_pos {p : List Int} (hp : rightB p = true) (h0 : p ≠ []) : 1 ≤ p.sum := by
  have hl : 0 < p.length := List.length_pos_iff.2 h0
  have h1 := right_nonneg hp p[p.length - 1] (List.getElem_mem _)
  have h3 := sum_ge (right_nonneg hp) (List.getElem_mem (l := p) (n := p.length - 1) (by omega))
  unfold rightB at hp
  simp only [Bool.and_eq_true] at hp
  have h2 := hp.1.2
  rw [List.getLast?_eq_getElem?, List.getElem?_eq_getElem (by omega)] at h2
  have h4 : p[p.length - 1] ≠ 0 := fun e => by rw [e] at h2; simp at h2
  omega
/-- What is left of a word when another is taken away. -/
theorem sub_cases {w v : List Int} (hw : rightB w = true) (hv : rightB v = true) : ((subB w v).2 = false ∧ leP w v = false) ∨ ((subB w v).2 = true ∧ leP w v = true ∧ (subB w v).1 = [] ∧ w = v) ∨ ((subB w v).2 = true ∧ leP w v = true ∧ (subB w v).1 ≠ [] ∧ w ≠ v ∧ v.sum + 1 ≤ w.sum) := by
  cases hl : leP w v with
  | false => exact .inl ⟨by rw [subB_no hl], rfl⟩
  | true =>
    have h1 := addB_sub hw hv hl
    have h2 : (subB w v).2 = true := by rw [subB_yes hw hv hl]
    have hsum := addB_sum (a := (subB w v).1) (b := v) (by rw [h1])
    rw [h1] at hsum
    dsimp only at hsum
    have hr : rightB (subB w v).1 = true := by
      have h3 : (addB (subB w v).1 v).2 = true := by rw [h1]
      unfold addB at h3
      split at h3
      · rename_i h4; exact h4.1
      · cases h3
    by_cases he : (subB w v).1 = []
    · refine .inr (.inl ⟨h2, rfl, he, ?_⟩)
      rw [he, addB_nil hv] at h1
      injection h1 with h1
      exact h1.symm
    · have h5 := sum_pos hr he
      refine .inr (.inr ⟨h2, rfl, he, fun e => ?_, by omega⟩)
      have h9 := congrArg List.sum e
      omega
theorem made_self {ps : List (List Int)} {w : List Int} : Made ps w w := ⟨fun _ => 0, fun t => by rw [dotF_zero]; omega⟩
theorem made_none {w v : List Int} (hw : rightB w = true) (hv : rightB v = true) (h : Made [] w v) : w = v := by
  obtain ⟨f, hf⟩ := h
  exact right_ext hw hv (fun i => by have := hf i; rw [dotF] at this; omega)
/-- How much is still to be tried. -/
def leftM (ps : List (List Int)) (w v : List Int) : Nat := (w.sum - v.sum + 1).toNat + ps.length
theorem hasS_made {s : SemS} (hs : SetP s) {w : List Int} (hw : rightB w = true) (hw4 : w.length ≤ 4) : hasS s w = true ↔ ∃ x ∈ s, Made x.2 w x.1 := hasS_iff hs hw hw4
end Go.Cb
