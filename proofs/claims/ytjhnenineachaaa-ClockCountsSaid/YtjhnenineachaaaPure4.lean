/- Plain laws of words: their order; sums and differences belong together. -/
import Derived.Test.YtjhnenineachaaaPure3
set_option linter.unusedVariables false
set_option linter.unusedSimpArgs false
set_option linter.all false
namespace Go.Cb

/-! ### order -/
theorem cmpI_neg (a b : Int) : cmpI b a = -cmpI a b := by
  unfold cmpI
  by_cases h1 : a < b
  · rw [if_pos h1, if_neg (by omega), if_pos h1]; rfl
  · by_cases h2 : b < a
    · rw [if_pos h2, if_neg h1, if_pos h2]
    · rw [if_neg h2, if_neg h1, if_neg h1, if_neg h2]; rfl
theorem cmpI_range (a b : Int) : -1 ≤ cmpI a b ∧ cmpI a b ≤ 1 := by
  unfold cmpI
  split
  · omega
  · split <;> omega
theorem cmpI_le {a b : Int} : cmpI a b ≤ 0 ↔ a ≤ b := by
  unfold cmpI
  split
  · omega
  · split <;> omega
theorem cmpI_neg1 {a b : Int} : cmpI a b = -1 ↔ a < b := by
  unfold cmpI
  split
  · omega
  · split <;> omega
theorem cmpL_neg : ∀ a b : List Int, cmpL b a = -cmpL a b
  | [], [] => rfl
  | [], _ :: _ => rfl
  | _ :: _, [] => rfl
  | x :: a, y :: b => by
    rw [cmpL, cmpL, cmpI_neg x y, cmpL_neg a b]
    by_cases h : cmpI x y = 0
    · rw [if_pos h, if_pos (by omega)]
    · rw [if_neg h, if_neg (by omega)]
theorem cmpL_range : ∀ a b : List Int, -1 ≤ cmpL a b ∧ cmpL a b ≤ 1
  | [], [] => by simp [cmpL]
  | [], _ :: _ => by simp [cmpL]
  | _ :: _, [] => by simp [cmpL]
  | x :: a, y :: b => by
    rw [cmpL]
    split
    · exact cmpL_range a b
    · exact cmpI_range x y
theorem cmpL_zero : ∀ {a b : List Int}, cmpL a b = 0 ↔ a = b
  | [], [] => by simp [cmpL]
  | [], _ :: _ => by simp [cmpL]
  | _ :: _, [] => by simp [cmpL]
  | x :: a, y :: b => by
    rw [cmpL]
    by_cases h : cmpI x y = 0
    · rw [if_pos h, cmpL_zero, cmpI_zero.1 h]; simp
    · rw [if_neg h]
      constructor
      · intro h2; exact absurd h2 h
      · intro h2; injection h2 with h2 _; exact absurd (cmpI_zero.2 h2) h
theorem cmpL_trans : ∀ {a b c : List Int}, cmpL a b ≤ 0 → cmpL b c ≤ 0 → cmpL a c ≤ 0
  | [], _, [] => by intros; simp [cmpL]
  | [], _, _ :: _ => by intros; simp [cmpL]
  | _ :: _, [], _ => by intro h; simp [cmpL] at h
  | _ :: _, _ :: _, [] => by intro _ h; simp [cmpL] at h
  | x :: a, y :: b, z :: c => by
    rw [cmpL, cmpL, cmpL]
    intro h1 h2
    by_cases hxy : cmpI x y = 0
    · rw [if_pos hxy] at h1
      obtain rfl := cmpI_zero.1 hxy
      by_cases hyz : cmpI x z = 0
      · rw [if_pos hyz] at h2 ⊢
        exact cmpL_trans h1 h2
      · rw [if_neg hyz] at h2 ⊢
        exact h2
    · rw [if_neg hxy] at h1
      have h3 := cmpI_le.1 h1
      have h4 : x ≠ y := fun e => hxy (cmpI_zero.2 e)
      by_cases hyz : cmpI y z = 0
      · obtain rfl := cmpI_zero.1 hyz
        rw [if_neg hxy]; exact h1
      · rw [if_neg hyz] at h2
        have h5 := cmpI_le.1 h2
        have h6 : y ≠ z := fun e => hyz (cmpI_zero.2 e)
        rw [if_neg (fun e => by have := cmpI_zero.1 e; omega)]
        exact cmpI_le.2 (by omega)
theorem cmpB_right {a b : List Int} (ha : rightB a = true) (hb : rightB b = true) : cmpB a b = if a.length = b.length then cmpL a b else cmpI a.length b.length := by
  unfold cmpB; rw [if_pos ⟨ha, hb⟩]
theorem cmpB_neg (a b : List Int) : cmpB b a = -cmpB a b := by
  unfold cmpB
  by_cases h : rightB a = true ∧ rightB b = true
  · rw [if_pos h, if_pos ⟨h.2, h.1⟩]
    by_cases hl : a.length = b.length
    · rw [if_pos hl, if_pos hl.symm, cmpL_neg]
    · rw [if_neg hl, if_neg (fun e => hl e.symm), cmpI_neg]
  · rw [if_neg h, if_neg (fun h2 => h ⟨h2.2, h2.1⟩)]; rfl
theorem cmpB_range (a b : List Int) : -1 ≤ cmpB a b ∧ cmpB a b ≤ 1 := by
  unfold cmpB
  split
  · split
    · exact cmpL_range a b
    · exact cmpI_range _ _
  · omega
theorem cmpB_zero {a b : List Int} (ha : rightB a = true) (hb : rightB b = true) : cmpB a b = 0 ↔ a = b := by
  rw [cmpB_right ha hb]
  by_cases hl : a.length = b.length
  · rw [if_pos hl]; exact cmpL_zero
  · rw [if_neg hl]
    constructor
    · intro h; have := cmpI_zero.1 h; omega
    · intro h; exact absurd (by rw [h]) hl
theorem cmpB_trans {a b c : List Int} (ha : rightB a = true) (hb : rightB b = true) (hc : rightB c = true) (h1 : cmpB a b ≤ 0) (h2 : cmpB b c ≤ 0) : cmpB a c ≤ 0 := by
  rw [cmpB_right ha hb] at h1
  rw [cmpB_right hb hc] at h2
  rw [cmpB_right ha hc]
  by_cases h3 : a.length = b.length
  · rw [if_pos h3] at h1
    by_cases h4 : b.length = c.length
    · rw [if_pos h4] at h2
      rw [if_pos (h3.trans h4)]
      exact cmpL_trans h1 h2
    · rw [if_neg h4] at h2
      rw [if_neg (by omega), h3]; exact h2
  · rw [if_neg h3] at h1
    have h5 := cmpI_le.1 h1
    by_cases h4 : b.length = c.length
    · rw [if_neg (by omega), ← h4]; exact h1
    · rw [if_neg h4] at h2
      have h6 := cmpI_le.1 h2
      rw [if_neg (by omega)]
      exact cmpI_le.2 (by omega)
theorem cmpB_len {a b : List Int} (ha : rightB a = true) (hb : rightB b = true) (hl : a.length ≠ b.length) : (cmpB a b < 0 ↔ a.length < b.length) := by
  rw [cmpB_right ha hb, if_neg hl]
  have h1 := cmpI_neg1 (a := (a.length : Int)) (b := b.length)
  have h2 := cmpI_range (a.length : Int) b.length
  constructor
  · intro h; have := h1.1 (by omega); omega
  · intro h; have := h1.2 (by omega); omega

/-! ### words that are made -/
theorem oneB_right (tag n : Int) : rightB (oneB tag n) = true := by
  unfold oneB
  split
  · rename_i h
    unfold rightB
    simp only [Bool.and_eq_true, List.all_eq_true]
    refine ⟨⟨decide_eq_true (by simp; omega), ?_⟩, ?_⟩
    · rw [List.getLast?_concat]
      have : n ≠ 0 := by omega
      simpa using this
    · intro x hx
      rcases List.mem_append.1 hx with hx | hx
      · rw [(List.mem_replicate.1 hx).2]; exact (okN_iff 0).2 (by simp [far])
      · rw [List.mem_singleton.1 hx]; exact (okN_iff n).2 ⟨by omega, h.2.2.2⟩
  · rfl
theorem normB_right (l : List Int) : rightB (normB l) = true := by
  unfold normB
  split
  · assumption
  · rfl
theorem playList_ok (l : List Int) : ∀ x ∈ (List.range 4).map (fun i => playN (l.getD i 0)), 0 ≤ x ∧ x < 40 := by
  intro x hx
  obtain ⟨i, _, rfl⟩ := List.mem_map.1 hx
  exact playN_range _
theorem playBag_right (l : List Int) : rightB (playBag l) = true := normB_right _
theorem playBag_eq (l : List Int) : playBag l = cutB ((List.range 4).map fun i => playN (l.getD i 0)) :=
  normB_eq (by simp) (fun x hx => by have := playList_ok l x hx; unfold far; omega)
theorem cutB_mem {l : List Int} {x : Int} (h : x ∈ cutB l) : x ∈ l := by
  obtain ⟨k, _, hc, _⟩ := cutB_sub l
  rw [hc] at h
  exact List.mem_of_mem_take h
theorem playBag_small (l : List Int) : ∀ x ∈ playBag l, 0 ≤ x ∧ x < 40 := by
  intro x hx
  rw [playBag_eq] at hx
  exact playList_ok l x (cutB_mem hx)
theorem cutB_length (l : List Int) : (cutB l).length ≤ l.length := by
  obtain ⟨k, hk, hc, _⟩ := cutB_sub l
  rw [hc, List.length_take]; omega
theorem playBag_len (l : List Int) : (playBag l).length ≤ 4 := by
  rw [playBag_eq]
  refine Nat.le_trans (cutB_length _) ?_
  simp

/-! ### what is cut of noughts is told by its places -/
theorem cutB_getD (l : List Int) (i : Nat) : (cutB l).getD i 0 = l.getD i 0 := by
  induction hn : l.length generalizing l with
  | zero =>
    have : l = [] := List.eq_nil_of_length_eq_zero hn
    subst this; rfl
  | succ n ih =>
    by_cases hz : l[n]'(by omega) = 0
    · have hlt : l.take n ++ [0] = l := by
        have := List.take_succ_eq_append_getElem (l := l) (i := n) (by omega)
        rw [hz, List.take_of_length_le (by omega)] at this
        exact this.symm
      have hcut : cutB l = cutB (l.take n) := by
        conv => lhs; rw [← hlt]
        unfold cutB
        rw [List.reverse_append, List.reverse_singleton, List.singleton_append, List.dropWhile_cons_of_pos (by rfl)]
      rw [hcut, ih (l.take n) (by rw [List.length_take]; omega), getD_take]
      split
      · rfl
      · by_cases h2 : i = n
        · subst h2; rw [getD_of (by omega), hz]
        · rw [getD_out (by omega)]
    · have : cutB l = l := by
        rw [cutB_eq (k := n + 1) (by omega) (by intro x hx; rw [List.drop_of_length_le (by omega)] at hx; cases hx) (.inr ⟨by omega, hz⟩), List.take_of_length_le (by omega)]
      rw [this]
/-- Two right words with the same numbers are one. -/
theorem right_ext {a b : List Int} (ha : rightB a = true) (hb : rightB b = true) (h : ∀ i, a.getD i 0 = b.getD i 0) : a = b := by
  have key : ∀ {a b : List Int}, rightB b = true → (∀ i, a.getD i 0 = b.getD i 0) → b.length ≤ a.length := by
    intro a b hb h
    rcases Nat.lt_or_ge a.length b.length with hl | hl
    · exfalso
      unfold rightB at hb
      simp only [Bool.and_eq_true] at hb
      have h2 := hb.1.2
      rw [List.getLast?_eq_getElem?, List.getElem?_eq_getElem (by omega)] at h2
      have h3 := h (b.length - 1)
      rw [getD_out (by omega), getD_of (by omega)] at h3
      rw [← h3] at h2
      simp at h2
    · exact hl
  have h1 := key hb h
  have h2 := key ha (fun i => (h i).symm)
  exact list_ext (by omega) (fun i _ => h i)
theorem addB_right {a b : List Int} (h : (addB a b).2 = true) : rightB (addB a b).1 = true := by
  unfold addB at *
  split at h
  · rename_i hc
    obtain ⟨ha, hb, hall⟩ := hc
    rw [if_pos ⟨ha, hb, hall⟩]
    show rightB (addP a b) = true
    unfold rightB
    simp only [Bool.and_eq_true, List.all_eq_true]
    have la := right_len ha
    have lb := right_len hb
    refine ⟨⟨decide_eq_true (by rw [addP_length]; omega), ?_⟩, fun x hx => ?_⟩
    · by_cases h0 : max a.length b.length = 0
      · have h1 : addP a b = [] := List.eq_nil_of_length_eq_zero (by rw [addP_length]; exact h0)
        rw [h1]; rfl
      · rw [List.getLast?_eq_getElem?, List.getElem?_eq_getElem (by rw [addP_length]; omega)]
        have hlt : (addP a b).length - 1 < (addP a b).length := by rw [addP_length]; omega
        have he : (addP a b)[(addP a b).length - 1] = a.getD ((addP a b).length - 1) 0 + b.getD ((addP a b).length - 1) 0 := by rw [← addP_get, getD_of hlt]
        rw [he]
        generalize hk : (addP a b).length - 1 = k
        have hkk : k = max a.length b.length - 1 := by rw [← hk, addP_length]
        have ra := right_getD ha k
        have rb := right_getD hb k
        have ne : ∀ {c : List Int}, rightB c = true → c.length ≠ 0 → k = c.length - 1 → c.getD k 0 ≠ 0 := by
          intro c hc h0 hk2
          unfold rightB at hc
          simp only [Bool.and_eq_true] at hc
          have h2 := hc.1.2
          rw [List.getLast?_eq_getElem?, List.getElem?_eq_getElem (by omega)] at h2
          subst hk2
          rw [getD_of (by omega)]
          simpa using h2
        have : a.getD k 0 + b.getD k 0 ≠ 0 := by
          by_cases hl : b.length ≤ a.length
          · have := ne ha (by omega) (by omega); omega
          · have := ne hb (by omega) (by omega); omega
        simpa using this
    · obtain ⟨i, hi, rfl⟩ := List.getElem_of_mem hx
      rw [List.all_eq_true] at hall
      have h1 := of_decide_eq_true (hall _ (List.getElem_mem hi))
      refine (okN_iff _).2 ⟨?_, h1⟩
      rw [← getD_of hi, addP_get]
      have := right_getD ha i
      have := right_getD hb i
      omega
  · cases h
theorem addB_getD {a b : List Int} (h : (addB a b).2 = true) (i : Nat) : (addB a b).1.getD i 0 = a.getD i 0 + b.getD i 0 := by
  unfold addB at *
  split at h
  · rename_i hc
    rw [if_pos hc]; exact addP_get a b i
  · cases h
/-- Small words have a sum. -/
theorem addB_small {a b : List Int} (ha : rightB a = true) (hb : rightB b = true) (h : ∀ i, a.getD i 0 + b.getD i 0 ≤ far) : (addB a b).2 = true := by
  rw [addB_all ha hb (fun i _ => h i)]
theorem subB_add {a b : List Int} (ha : rightB a = true) (hb : rightB b = true) (h : (addB a b).2 = true) : subB (addB a b).1 b = (a, true) := by
  have hr := addB_right h
  have hg := addB_getD h
  have hle : leP (addB a b).1 b = true := by
    rw [leP_iff]
    constructor
    · unfold addB at *
      split at h
      · rename_i hc
        rw [if_pos hc]; show b.length ≤ (addP a b).length; rw [addP_length]; omega
      · cases h
    · intro i _
      rw [hg]
      have := right_getD ha i
      omega
  rw [subB_yes hr hb hle]
  have hl := ((leP_iff _ _).1 hle).1
  have : cutB (subP (addB a b).1 b) = a := by
    apply right_ext _ ha
    · intro i
      rw [cutB_getD, subP_get _ _ hl, hg]; omega
    · apply cutB_right
      · rw [subP_length _ _ hl]; exact right_len hr
      · intro x hx
        obtain ⟨i, hi, rfl⟩ := List.getElem_of_mem hx
        rw [← getD_of hi, subP_get _ _ hl, hg]
        have := right_getD ha i
        omega
  rw [this]
theorem addB_sub {a b : List Int} (ha : rightB a = true) (hb : rightB b = true) (h : leP a b = true) : addB (subB a b).1 b = (a, true) := by
  have hl := ((leP_iff _ _).1 h)
  rw [subB_yes ha hb h]
  show addB (cutB (subP a b)) b = (a, true)
  have hr : rightB (cutB (subP a b)) = true := by
    apply cutB_right
    · rw [subP_length _ _ hl.1]; exact right_len ha
    · intro x hx
      obtain ⟨i, hi, rfl⟩ := List.getElem_of_mem hx
      rw [← getD_of hi, subP_get _ _ hl.1]
      have h1 := right_getD ha i
      have h2 := right_getD hb i
      have h3 : b.getD i 0 ≤ a.getD i 0 := by
        by_cases hib : i < b.length
        · exact hl.2 i hib
        · rw [getD_out (by omega)]; omega
      omega
  have hsum : ∀ i, (cutB (subP a b)).getD i 0 + b.getD i 0 = a.getD i 0 := by
    intro i; rw [cutB_getD, subP_get _ _ hl.1]; omega
  have h2 : (addB (cutB (subP a b)) b).2 = true := addB_small hr hb (fun i => by rw [hsum]; exact (right_getD ha i).2)
  have h3 : (addB (cutB (subP a b)) b).1 = a := right_ext (addB_right h2) ha (fun i => by rw [addB_getD h2, hsum])
  exact Prod.ext h3 h2
theorem addB_assoc {a b c : List Int} (h1 : (addB a b).2 = true) (h2 : (addB (addB a b).1 c).2 = true) (h3 : (addB b c).2 = true) (h4 : (addB a (addB b c).1).2 = true) : (addB (addB a b).1 c).1 = (addB a (addB b c).1).1 :=
  right_ext (addB_right h2) (addB_right h4) (fun i => by rw [addB_getD h2, addB_getD h1, addB_getD h4, addB_getD h3]; omega)
theorem sum_addP : ∀ a b : List Int, (addP a b).sum = a.sum + b.sum
  | [], b => by simp [addP]
  | x :: a, [] => by simp [addP]
  | x :: a, y :: b => by simp [addP, sum_addP a b]; omega
theorem addB_sum {a b : List Int} (h : (addB a b).2 = true) : (addB a b).1.sum = a.sum + b.sum := by
  unfold addB at *
  split at h
  · rename_i hc
    rw [if_pos hc]; exact sum_addP a b
  · cases h
theorem sum_small : ∀ {l : List Int} {m : Int}, (∀ x ∈ l, 0 ≤ x ∧ x < m) → 0 ≤ m → 0 ≤ l.sum ∧ l.sum ≤ m * l.length
  | [], m, _, hm => by simp
  | x :: l, m, h, hm => by
    have h1 := h x List.mem_cons_self
    have h2 := sum_small (l := l) (fun y hy => h y (List.mem_cons_of_mem _ hy)) hm
    rw [List.sum_cons, List.length_cons]
    have : m * ((l.length + 1 : Nat) : Int) = m * l.length + m := by rw [Int.natCast_add, Int.mul_add]; simp
    omega
end Go.Cb
