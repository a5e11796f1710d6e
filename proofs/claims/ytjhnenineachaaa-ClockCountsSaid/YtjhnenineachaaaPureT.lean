/- Plain laws of tables: lists of keys and values, the keys rising. -/
import Derived.Test.YtjhnenineachaaaLib2
import Derived.Test.YtjhnenineachaaaPure4
set_option linter.unusedVariables false
set_option linter.unusedSimpArgs false
set_option linter.all false
namespace Go.Cb
/-- What a comparison of keys is. -/
structure KOrd {κ : Type} (cf : κ → κ → Int) : Prop where
  zero : ∀ a b, cf a b = 0 ↔ a = b
  neg : ∀ a b, cf a b < 0 ↔ 0 < cf b a
  trans : ∀ a b c, cf a b < 0 → cf b c < 0 → cf a c < 0
section
variable {κ β : Type} (cf : κ → κ → Int)
def tabOk (xs : List (κ × β)) : Prop := xs.Pairwise fun a b => cf a.1 b.1 < 0
/-- p is where k stands, or would. -/
def AtT (xs : List (κ × β)) (k : κ) (p : Nat) : Prop := p ≤ xs.length ∧ (∀ i x, i < p → xs[i]? = some x → cf x.1 k < 0) ∧ ∀ i x, p ≤ i → xs[i]? = some x → 0 ≤ cf x.1 k
def posT (xs : List (κ × β)) (k : κ) : Nat := xs.countP fun x => decide (cf x.1 k < 0)
def hasT (xs : List (κ × β)) (k : κ) : Bool := (xs[posT cf xs k]?).any fun x => cf x.1 k == 0
def putT (xs : List (κ × β)) (k : κ) (v : β) : List (κ × β) := if hasT cf xs k then xs.set (posT cf xs k) (k, v) else xs.take (posT cf xs k) ++ (k, v) :: xs.drop (posT cf xs k)
def dropT (xs : List (κ × β)) (k : κ) : List (κ × β) := if hasT cf xs k then xs.take (posT cf xs k) ++ xs.drop (posT cf xs k + 1) else xs
def getT (xs : List (κ × β)) (k : κ) : Option β := if hasT cf xs k then (xs[posT cf xs k]?).map (·.2) else none
variable {cf}
theorem countP_at {α : Type} (p : α → Bool) : ∀ (xs : List α) (n : Nat), n ≤ xs.length → (∀ i x, i < n → xs[i]? = some x → p x = true) → (∀ i x, n ≤ i → xs[i]? = some x → p x = false) → xs.countP p = n
  | [], n, hn, _, _ => by simp at hn; simp [hn]
  | x :: xs, 0, _, _, h2 => by
    rw [List.countP_cons_of_neg (by have := h2 0 x (Nat.le_refl _) rfl; simp [this])]
    exact countP_at p xs 0 (Nat.zero_le _) (fun i _ h => absurd h (by omega)) (fun i y _ hy => h2 (i + 1) y (Nat.zero_le _) hy)
  | x :: xs, n + 1, hn, h1, h2 => by
    rw [List.countP_cons_of_pos (h1 0 x (by omega) rfl), countP_at p xs n (by simpa using hn) (fun i y hi hy => h1 (i + 1) y (by omega) hy) (fun i y hi hy => h2 (i + 1) y (by omega) hy)]
theorem AtT.pos {xs : List (κ × β)} {k : κ} {p : Nat} (h : AtT cf xs k p) : posT cf xs k = p :=
  countP_at _ xs p h.1 (fun i x hi hx => decide_eq_true (h.2.1 i x hi hx)) (fun i x hi hx => decide_eq_false (by have := h.2.2 i x hi hx; omega))
theorem pair_lt {xs : List (κ × β)} (hs : tabOk cf xs) {i j : Nat} {x y : κ × β} (h : i < j) (hx : xs[i]? = some x) (hy : xs[j]? = some y) : cf x.1 y.1 < 0 := by
  obtain ⟨h1, rfl⟩ := List.getElem?_eq_some_iff.1 hx
  obtain ⟨h2, rfl⟩ := List.getElem?_eq_some_iff.1 hy
  exact List.pairwise_iff_getElem.1 hs i j h1 h2 h
theorem atT {xs : List (κ × β)} (O : KOrd cf) (hs : tabOk cf xs) (k : κ) : AtT cf xs k (posT cf xs k) := by
  suffices h : ∃ p, AtT cf xs k p by
    obtain ⟨p, h⟩ := h
    rw [h.pos]; exact h
  induction xs with
  | nil => exact ⟨0, Nat.zero_le _, fun i x _ hx => by simp at hx, fun i x _ hx => by simp at hx⟩
  | cons x xs ih =>
    have hs2 : tabOk cf xs := (List.pairwise_cons.1 hs).2
    obtain ⟨p, h0, h1, h2⟩ := ih hs2
    by_cases hc : cf x.1 k < 0
    · refine ⟨p + 1, by simpa using h0, fun i y hi hy => ?_, fun i y hi hy => ?_⟩
      · cases i with
        | zero => simp at hy; rw [← hy]; exact hc
        | succ i => exact h1 i y (by omega) (by simpa using hy)
      · cases i with
        | zero => omega
        | succ i => exact h2 i y (by omega) (by simpa using hy)
    · refine ⟨0, Nat.zero_le _, fun i y hi _ => absurd hi (by omega), fun i y _ hy => ?_⟩
      cases i with
      | zero => simp at hy; rw [← hy]; omega
      | succ i =>
        have hy' : xs[i]? = some y := by simpa using hy
        have hl : cf x.1 y.1 < 0 := pair_lt hs (i := 0) (j := i + 1) (by omega) rfl hy
        by_cases e : cf y.1 k < 0
        · exact absurd (O.trans _ _ _ hl e) hc
        · omega
theorem posT_le (xs : List (κ × β)) (k : κ) : posT cf xs k ≤ xs.length := List.countP_le_length
theorem hasT_iff {xs : List (κ × β)} (O : KOrd cf) {k : κ} : hasT cf xs k = true ↔ ∃ v, xs[posT cf xs k]? = some (k, v) := by
  unfold hasT
  cases h : xs[posT cf xs k]? with
  | none => simp
  | some x =>
    obtain ⟨a, v⟩ := x
    simp [O.zero]
theorem hasT_lt {xs : List (κ × β)} {k : κ} (h : hasT cf xs k = true) : posT cf xs k < xs.length := by
  unfold hasT at h
  cases hx : xs[posT cf xs k]? with
  | none => rw [hx] at h; simp at h
  | some x => exact (List.getElem?_eq_some_iff.1 hx).1
theorem tabOk_nil : tabOk cf ([] : List (κ × β)) := List.Pairwise.nil
theorem take_lt {xs : List (κ × β)} {k : κ} {p : Nat} (h : AtT cf xs k p) : ∀ x ∈ xs.take p, cf x.1 k < 0 := by
  intro x hx
  obtain ⟨i, hi, rfl⟩ := List.getElem_of_mem hx
  have hi' := hi
  rw [List.length_take] at hi'
  rw [List.getElem_take]
  exact h.2.1 i _ (by omega) (List.getElem?_eq_getElem (by omega))
theorem drop_gt {xs : List (κ × β)} {k : κ} {p : Nat} (O : KOrd cf) (hs : tabOk cf xs) (h : AtT cf xs k p) (hn : ∀ v, xs[p]? ≠ some (k, v)) : ∀ x ∈ xs.drop p, 0 < cf x.1 k := by
  intro x hx
  obtain ⟨i, hi, rfl⟩ := List.getElem_of_mem hx
  have hi' := hi
  rw [List.length_drop] at hi'
  rw [List.getElem_drop]
  have h1 := h.2.2 (p + i) _ (by omega) (List.getElem?_eq_getElem (by omega))
  rcases Int.lt_or_eq_of_le h1 with h1 | h1
  · exact h1
  · have hk : xs[p + i].1 = k := (O.zero _ _).1 h1.symm
    exfalso
    cases i with
    | zero => exact hn xs[p].2 (by rw [List.getElem?_eq_getElem (by omega)]; simp at hk ⊢; exact Prod.ext hk rfl)
    | succ i =>
      have h2 := pair_lt hs (i := p) (j := p + (i + 1)) (by omega) (List.getElem?_eq_getElem (by omega)) (List.getElem?_eq_getElem (by omega))
      have h3 := h.2.2 p _ (Nat.le_refl _) (List.getElem?_eq_getElem (by omega))
      rw [hk] at h2
      omega
theorem putT_ok {xs : List (κ × β)} (O : KOrd cf) (hs : tabOk cf xs) (k : κ) (v : β) : tabOk cf (putT cf xs k v) := by
  have ha := atT O hs k
  unfold putT
  by_cases h : hasT cf xs k = true
  · rw [if_pos h]
    obtain ⟨u, hu⟩ := (hasT_iff O).1 h
    unfold tabOk at *
    rw [List.pairwise_iff_getElem] at hs ⊢
    intro i j hi hj hij
    rw [List.length_set] at hi hj
    have hp := hasT_lt h
    have e : xs[posT cf xs k].1 = k := by
      have := (List.getElem?_eq_some_iff.1 hu).2
      rw [this]
    have hg := hs i j hi hj hij
    rw [List.getElem_set, List.getElem_set]
    split <;> split
    · omega
    · rename_i h1 h2; subst h1; rw [e] at hg; exact hg
    · rename_i h1 h2; subst h2; rw [e] at hg; exact hg
    · exact hg
  · rw [if_neg h]
    have hn : ∀ v, xs[posT cf xs k]? ≠ some (k, v) := fun v hv => h ((hasT_iff O).2 ⟨v, hv⟩)
    have hd := drop_gt O hs ha hn
    have ht := take_lt ha
    have hs2 : (xs.take (posT cf xs k) ++ xs.drop (posT cf xs k)).Pairwise fun a b => cf a.1 b.1 < 0 := by rw [List.take_append_drop]; exact hs
    obtain ⟨p1, p2, p3⟩ := List.pairwise_append.1 hs2
    refine List.pairwise_append.2 ⟨p1, List.pairwise_cons.2 ⟨fun b hb => (O.neg _ _).2 (hd b hb), p2⟩, fun a ha b hb => ?_⟩
    rcases List.mem_cons.1 hb with rfl | hb
    · exact ht a ha
    · exact p3 a ha b hb
theorem dropT_ok {xs : List (κ × β)} (hs : tabOk cf xs) (k : κ) : tabOk cf (dropT cf xs k) := by
  unfold dropT
  split
  · rw [← List.eraseIdx_eq_take_drop_succ]
    exact List.Pairwise.sublist (List.eraseIdx_sublist _ _) hs
  · exact hs
theorem getT_iff {xs : List (κ × β)} (O : KOrd cf) (hs : tabOk cf xs) {k : κ} {v : β} : getT cf xs k = some v ↔ (k, v) ∈ xs := by
  have ha := atT O hs k
  unfold getT
  constructor
  · intro h
    by_cases hh : hasT cf xs k = true
    · rw [if_pos hh] at h
      obtain ⟨u, hu⟩ := (hasT_iff O).1 hh
      rw [hu] at h
      simp at h
      subst h
      exact List.mem_of_getElem? hu
    · rw [if_neg hh] at h; cases h
  · intro h
    obtain ⟨i, hi, he⟩ := List.getElem_of_mem h
    have hx : xs[i]? = some (k, v) := by rw [List.getElem?_eq_getElem hi, he]
    have hp : posT cf xs k = i := by
      refine AtT.pos ⟨by omega, fun j x hj hx2 => ?_, fun j x hj hx2 => ?_⟩
      · exact pair_lt hs hj hx2 hx
      · rcases Nat.lt_or_eq_of_le hj with hj | rfl
        · have h1 : cf k x.1 < 0 := pair_lt hs hj hx hx2
          have h2 := (O.neg _ _).1 h1
          omega
        · rw [hx] at hx2
          injection hx2 with e
          rw [← e, (O.zero _ _).2 rfl]
          exact Int.le_refl 0
    have hh : hasT cf xs k = true := (hasT_iff O).2 ⟨v, by rw [hp]; exact hx⟩
    rw [if_pos hh, hp, hx]
    rfl
theorem getT_none {xs : List (κ × β)} {k : κ} : getT cf xs k = none ↔ hasT cf xs k = false := by
  unfold getT
  cases h : hasT cf xs k with
  | false => simp
  | true =>
    have := hasT_lt h
    simp
    omega
theorem putT_mem {xs : List (κ × β)} (O : KOrd cf) (hs : tabOk cf xs) (k : κ) (v : β) (x : κ × β) : x ∈ putT cf xs k v ↔ x = (k, v) ∨ (x ∈ xs ∧ x.1 ≠ k) := by
  have ha := atT O hs k
  unfold putT
  by_cases h : hasT cf xs k = true
  · rw [if_pos h]
    obtain ⟨u, hu⟩ := (hasT_iff O).1 h
    have hp := hasT_lt h
    constructor
    · intro hx
      obtain ⟨i, hi, he⟩ := List.getElem_of_mem hx
      rw [List.length_set] at hi
      rw [List.getElem_set] at he
      split at he
      · exact .inl he.symm
      · rename_i hne
        refine .inr ⟨he ▸ List.getElem_mem hi, fun e => hne ?_⟩
        have h1 : xs[i]? = some x := by rw [List.getElem?_eq_getElem hi, he]
        rcases Nat.lt_trichotomy i (posT cf xs k) with hl | hl | hl
        · have := ha.2.1 i x hl h1
          rw [e, (O.zero _ _).2 rfl] at this; omega
        · exact hl.symm
        · have := pair_lt hs hl hu h1
          rw [e, (O.zero _ _).2 rfl] at this; omega
    · rintro (rfl | ⟨hx, hne⟩)
      · exact List.mem_of_getElem? (i := posT cf xs k) (by rw [List.getElem?_set_self hp])
      · obtain ⟨i, hi, he⟩ := List.getElem_of_mem hx
        refine List.mem_of_getElem? (i := i) ?_
        rw [List.getElem?_set_ne, List.getElem?_eq_getElem hi, he]
        rintro rfl
        rw [List.getElem?_eq_getElem hi, he] at hu
        injection hu with hu
        exact hne (by rw [hu])
  · rw [if_neg h]
    have hn : ∀ v, xs[posT cf xs k]? ≠ some (k, v) := fun v hv => h ((hasT_iff O).2 ⟨v, hv⟩)
    have hd := drop_gt O hs ha hn
    have ht := take_lt ha
    have hm : ∀ y, y ∈ xs ↔ y ∈ xs.take (posT cf xs k) ∨ y ∈ xs.drop (posT cf xs k) := fun y => by rw [← List.mem_append, List.take_append_drop]
    rw [List.mem_append, List.mem_cons, hm]
    constructor
    · rintro (hx | rfl | hx)
      · exact .inr ⟨.inl hx, fun e => by have := ht x hx; rw [e, (O.zero _ _).2 rfl] at this; omega⟩
      · exact .inl rfl
      · exact .inr ⟨.inr hx, fun e => by have := hd x hx; rw [e, (O.zero _ _).2 rfl] at this; omega⟩
    · rintro (rfl | ⟨hx | hx, _⟩)
      · exact .inr (.inl rfl)
      · exact .inl hx
      · exact .inr (.inr hx)
theorem putT_length (xs : List (κ × β)) (k : κ) (v : β) : (putT cf xs k v).length = if hasT cf xs k then xs.length else xs.length + 1 := by
  have := posT_le (cf := cf) xs k
  unfold putT
  split
  · rw [List.length_set]
  · simp only [List.length_append, List.length_cons, List.length_take, List.length_drop]
    omega
end
theorem cmpI_ord : KOrd cmpI where
  zero := fun a b => cmpI_zero
  neg := fun a b => by rw [cmpI_neg a b]; omega
  trans := fun a b c h1 h2 => by
    have := cmpI_range a b
    have := cmpI_range b c
    have e1 := cmpI_neg1.1 (show cmpI a b = -1 by omega)
    have e2 := cmpI_neg1.1 (show cmpI b c = -1 by omega)
    rw [cmpI_lt (show a < c by omega)]; omega
end Go.Cb
