/- Plain laws: words put into rising ones rise; linear sets that are made are right; their order. -/
import Derived.Test.YtghdleofbkalbaaPure7
namespace Go.Cb
theorem cmpB_ltt {a b c : List Int} (ha : rightB a = true) (hb : rightB b = true) (hc : rightB c = true) (h1 : cmpB a b < 0) (h2 : cmpB b c < 0) : cmpB a c < 0 := by
  have h3 := cmpB_trans ha hb hc (by omega) (by omega)
  rcases Int.lt_or_eq_of_le h3 with h | h
  · exact h
  · have := (cmpB_zero ha hc).1 h
    subst this
    have := cmpB_neg a b
    omega
/-- Rising words, none empty, all right. -/
structure Good (ps : List (List Int)) : Prop where
  each : ∀ p ∈ ps, p.isEmpty = false ∧ rightB p = true
  up : ps.Pairwise fun a b => cmpB a b < 0
theorem Good.nil : Good [] := ⟨fun _ h => by simp at h, .nil⟩
theorem Good.tail {p : List Int} {ps : List (List Int)} (h : Good (p :: ps)) : Good ps := ⟨fun q hq => h.each q (by simp [hq]), (List.pairwise_cons.1 h.up).2⟩
theorem Good.at {ps : List (List Int)} (h : Good ps) {k : Nat} (hk : k < ps.length) : okAt ps k = true := by
  have he := h.each ps[k] (List.getElem_mem hk)
  by_cases h0 : 0 < k
  · rw [okAt_next hk h0, he.1, he.2, decide_eq_true (List.pairwise_iff_getElem.1 h.up (k - 1) k (by omega) hk (by omega))]; rfl
  · rw [okAt_first hk h0, he.1, he.2]; rfl
theorem Good.ok {ps : List (List Int)} (h : Good ps) : okTo ps ps.length = true := by
  unfold okTo
  rw [List.all_eq_true]
  intro i hi
  exact h.at (List.mem_range.1 hi)
theorem okTo_at {ps : List (List Int)} (h : okTo ps ps.length = true) {k : Nat} (hk : k < ps.length) : okAt ps k = true := by
  unfold okTo at h
  rw [List.all_eq_true] at h
  exact h k (List.mem_range.2 hk)
theorem okTo_each {ps : List (List Int)} (h : okTo ps ps.length = true) : ∀ p ∈ ps, p.isEmpty = false ∧ rightB p = true := by
  intro p hp
  obtain ⟨k, hk, rfl⟩ := List.mem_iff_getElem.1 hp
  have := okTo_at h hk
  unfold okAt at this
  rw [getDl_of hk] at this
  simp only [Bool.and_eq_true, Bool.not_eq_true'] at this
  exact this.1
theorem Good.of {ps : List (List Int)} (h : okTo ps ps.length = true) : Good ps := by
  have he := okTo_each h
  refine ⟨he, List.pairwise_iff_getElem.2 ?_⟩
  intro i j hi hj hij
  induction j with
  | zero => omega
  | succ j ih =>
    have hs := okTo_at h hj
    rw [okAt_succ hj] at hs
    simp only [Bool.and_eq_true, decide_eq_true_eq] at hs
    by_cases e : i = j
    · subst e; exact hs.2
    · exact cmpB_ltt (he _ (List.getElem_mem _)).2 (he _ (List.getElem_mem _)).2 (he _ (List.getElem_mem _)).2 (ih (by omega) (by omega)) hs.2
theorem mem_putB : ∀ {ps : List (List Int)} {b x : List Int}, x ∈ putB ps b → x ∈ ps ∨ x = b
  | [], b, x, h => by simp [putB] at h; exact .inr h
  | p :: ps, b, x, h => by
    rw [putB] at h
    split at h
    · rcases List.mem_cons.1 h with rfl | h
      · exact .inl (by simp)
      · rcases mem_putB h with h | h
        · exact .inl (by simp [h])
        · exact .inr h
    · split at h
      · exact .inl h
      · rcases List.mem_cons.1 h with h | h
        · exact .inr h
        · exact .inl h
theorem Good.put : ∀ {ps : List (List Int)} {b : List Int}, Good ps → b.isEmpty = false → rightB b = true → Good (putB ps b)
  | [], b, _, h1, h2 => ⟨fun q hq => by simp [putB] at hq; subst hq; exact ⟨h1, h2⟩, by simp [putB]⟩
  | p :: ps, b, h, h1, h2 => by
    have hp := h.each p (by simp)
    have hup := List.pairwise_cons.1 h.up
    rw [putB]
    split
    · rename_i hlt
      have ih := Good.put h.tail h1 h2
      refine ⟨fun q hq => ?_, List.pairwise_cons.2 ⟨fun q hq => ?_, ih.up⟩⟩
      · rcases List.mem_cons.1 hq with rfl | hq
        · exact hp
        · exact ih.each q hq
      · rcases mem_putB hq with hq | rfl
        · exact hup.1 q hq
        · exact hlt
    · split
      · exact h
      · rename_i hn hz
        have hbp : cmpB b p < 0 := by have := cmpB_neg p b; omega
        refine ⟨fun q hq => ?_, List.pairwise_cons.2 ⟨fun q hq => ?_, h.up⟩⟩
        · rcases List.mem_cons.1 hq with rfl | hq
          · exact ⟨h1, h2⟩
          · exact h.each q hq
        · rcases List.mem_cons.1 hq with rfl | hq
          · exact hbp
          · exact cmpB_ltt h2 hp.2 (h.each q (by simp [hq])).2 hbp (hup.1 q hq)
theorem ofF_good : ∀ {ps acc q : List (List Int)}, Good acc → ofF acc ps = some q → Good q
  | [], acc, q, h, e => by rw [ofF] at e; injection e with e; subst e; exact h
  | p :: ps, acc, q, h, e => by
    rw [ofF] at e
    split at e
    · cases e
    · refine ofF_good (ps := ps) ?_ e
      split
      · exact h
      · rename_i hn
        exact h.put (by simpa using hn) (normB_right p)
theorem rightL_mk {b : List Int} {ps : List (List Int)} (h : rightB b = true) (h2 : Good ps) : rightL (b, ps) = true := by
  unfold rightL
  rw [h, h2.ok]; rfl
theorem ofLin_right (b : List Int) (ps : List (List Int)) : rightL (ofLin b ps).1 = true := by
  unfold ofLin
  split
  · decide
  · split
    · decide
    · rename_i q hq
      exact rightL_mk (normB_right b) (ofF_good Good.nil hq)
theorem madeL_right (l : List Int) : rightL (madeL l) = true := ofLin_right _ _
theorem rightL_iff {b : List Int} {ps : List (List Int)} : rightL (b, ps) = true ↔ rightB b = true ∧ Good ps := by
  constructor
  · intro h
    unfold rightL at h
    rw [Bool.and_eq_true] at h
    exact ⟨h.1, Good.of h.2⟩
  · rintro ⟨h1, h2⟩; exact rightL_mk h1 h2
/-- Orders of lists, one by one. -/
theorem cmpBy_zero {α : Type} {f : α → α → Int} {R : α → Prop} (hf : ∀ x y, R x → R y → (f x y = 0 ↔ x = y)) : ∀ {a b : List α}, (∀ x ∈ a, R x) → (∀ x ∈ b, R x) → (cmpBy f a b = 0 ↔ a = b)
  | [], [], _, _ => by simp [cmpBy]
  | [], _ :: _, _, _ => by simp [cmpBy]
  | _ :: _, [], _, _ => by simp [cmpBy]
  | x :: a, y :: b, ha, hb => by
    rw [cmpBy]
    by_cases h : f x y = 0
    · rw [if_pos h, cmpBy_zero hf (fun z hz => ha z (by simp [hz])) (fun z hz => hb z (by simp [hz])), (hf x y (ha x (by simp)) (hb y (by simp))).1 h]; simp
    · rw [if_neg h]
      constructor
      · intro h2; exact absurd h2 h
      · intro h2; injection h2 with h2 _; exact absurd ((hf x y (ha x (by simp)) (hb y (by simp))).2 h2) h
theorem cmpBy_trans {α : Type} {f : α → α → Int} {R : α → Prop} (hz : ∀ x y, R x → R y → (f x y = 0 ↔ x = y)) (hn : ∀ x y, f y x = -f x y) (ht : ∀ x y z, R x → R y → R z → f x y ≤ 0 → f y z ≤ 0 → f x z ≤ 0) :
    ∀ {a b c : List α}, (∀ x ∈ a, R x) → (∀ x ∈ b, R x) → (∀ x ∈ c, R x) → cmpBy f a b ≤ 0 → cmpBy f b c ≤ 0 → cmpBy f a c ≤ 0
  | [], _, [], _, _, _, _, _ => by simp [cmpBy]
  | [], _, _ :: _, _, _, _, _, _ => by simp [cmpBy]
  | _ :: _, [], _, _, _, _, h, _ => by simp [cmpBy] at h
  | _ :: _, _ :: _, [], _, _, _, _, h => by simp [cmpBy] at h
  | x :: a, y :: b, z :: c, ha, hb, hc, h1, h2 => by
    have rx := ha x (by simp)
    have ry := hb y (by simp)
    have rz := hc z (by simp)
    rw [cmpBy] at h1 h2 ⊢
    by_cases e1 : f x y = 0
    · rw [if_pos e1] at h1
      have exy := (hz x y rx ry).1 e1
      subst exy
      by_cases e2 : f x z = 0
      · rw [if_pos e2] at h2 ⊢
        exact cmpBy_trans hz hn ht (fun w hw => ha w (by simp [hw])) (fun w hw => hb w (by simp [hw])) (fun w hw => hc w (by simp [hw])) h1 h2
      · rw [if_neg e2] at h2 ⊢; exact h2
    · rw [if_neg e1] at h1
      by_cases e2 : f y z = 0
      · have eyz := (hz y z ry rz).1 e2
        subst eyz
        rw [if_neg e1]; exact h1
      · rw [if_neg e2] at h2
        have h3 := ht x y z rx ry rz h1 h2
        by_cases e3 : f x z = 0
        · have exz := (hz x z rx rz).1 e3
          subst exz
          have := hn x y
          omega
        · rw [if_neg e3]; exact h3
theorem cmpLin_zero {x y : Lin} (hx : rightL x = true) (hy : rightL y = true) : cmpLin x y = 0 ↔ x = y := by
  obtain ⟨a, ps⟩ := x
  obtain ⟨b, qs⟩ := y
  rw [cmpLin_yes hx hy]
  have rx := rightL_iff.1 hx
  have ry := rightL_iff.1 hy
  unfold or3
  by_cases h : cmpB a b = 0
  · rw [if_pos h]
    have e := (cmpB_zero rx.1 ry.1).1 h
    subst e
    by_cases h2 : cmpI (ps.length : Int) (qs.length : Int) = 0
    · rw [if_pos h2, cmpBy_zero (R := fun p => rightB p = true) (fun p q hp hq => cmpB_zero hp hq) (fun p hp => (rx.2.each p hp).2) (fun p hp => (ry.2.each p hp).2)]
      simp
    · rw [if_neg h2]
      constructor
      · intro h3; exact absurd h3 h2
      · intro h3; injection h3 with _ h3; subst h3; exact absurd (cmpI_self _) h2
  · rw [if_neg h]
    constructor
    · intro h3; exact absurd h3 h
    · intro h3; injection h3 with h3 _; subst h3; exact absurd ((cmpB_zero rx.1 rx.1).2 rfl) h
theorem or3_le {a b c : Int} : or3 a b c ≤ 0 ↔ a < 0 ∨ (a = 0 ∧ (b < 0 ∨ (b = 0 ∧ c ≤ 0))) := by
  unfold or3
  split
  · split <;> omega
  · omega
theorem cmpLin_trans {x y z : Lin} (hx : rightL x = true) (hy : rightL y = true) (hz : rightL z = true) (h1 : cmpLin x y ≤ 0) (h2 : cmpLin y z ≤ 0) : cmpLin x z ≤ 0 := by
  obtain ⟨a, ps⟩ := x
  obtain ⟨b, qs⟩ := y
  obtain ⟨c, rs⟩ := z
  rw [cmpLin_yes hx hy] at h1
  rw [cmpLin_yes hy hz] at h2
  rw [cmpLin_yes hx hz]
  have rx := rightL_iff.1 hx
  have ry := rightL_iff.1 hy
  have rz := rightL_iff.1 hz
  rw [or3_le] at *
  dsimp only at *
  have t1 := fun h h' => cmpB_ltt (a := a) (b := b) (c := c) rx.1 ry.1 rz.1 h h'
  have e1 := cmpB_zero rx.1 ry.1
  have e2 := cmpB_zero ry.1 rz.1
  rcases h1 with h1 | ⟨h1, h1'⟩
  · rcases h2 with h2 | ⟨h2, _⟩
    · exact .inl (t1 h1 h2)
    · have := e2.1 h2; subst this; exact .inl h1
  · have := e1.1 h1
    subst this
    rcases h2 with h2 | ⟨h2, h2'⟩
    · exact .inl h2
    · refine .inr ⟨h2, ?_⟩
      have c1 := cmpI_zero (a := (ps.length : Int)) (b := qs.length)
      have c2 := cmpI_zero (a := (qs.length : Int)) (b := rs.length)
      have d1 := cmpI_le (a := (ps.length : Int)) (b := qs.length)
      have d2 := cmpI_le (a := (qs.length : Int)) (b := rs.length)
      have d3 := cmpI_le (a := (ps.length : Int)) (b := rs.length)
      have c3 := cmpI_zero (a := (ps.length : Int)) (b := rs.length)
      rcases h1' with h3 | ⟨h3, h3'⟩
      · left; rcases h2' with h4 | ⟨h4, _⟩ <;> omega
      · rcases h2' with h4 | ⟨h4, h4'⟩
        · left; omega
        · right
          refine ⟨by omega, ?_⟩
          exact cmpBy_trans (R := fun p => rightB p = true) (fun p q hp hq => cmpB_zero hp hq) (fun p q => cmpB_neg p q) (fun p q r hp hq hr => cmpB_trans hp hq hr) (fun p hp => (rx.2.each p hp).2) (fun p hp => (ry.2.each p hp).2) (fun p hp => (rz.2.each p hp).2) h3' h4'
theorem cmpBy_range {α : Type} {f : α → α → Int} (hf : ∀ x y, -1 ≤ f x y ∧ f x y ≤ 1) : ∀ a b : List α, -1 ≤ cmpBy f a b ∧ cmpBy f a b ≤ 1
  | [], [] => by simp [cmpBy]
  | [], _ :: _ => by simp [cmpBy]
  | _ :: _, [] => by simp [cmpBy]
  | x :: a, y :: b => by
    rw [cmpBy]
    split
    · exact cmpBy_range hf a b
    · exact hf x y
theorem cmpLin_range (x y : Lin) : -1 ≤ cmpLin x y ∧ cmpLin x y ≤ 1 := by
  unfold cmpLin or3
  have h1 := cmpB_range x.1 y.1
  have h2 := cmpI_range (x.2.length : Int) y.2.length
  have h3 := cmpBy_range cmpB_range x.2 y.2
  split
  · split
    · split
      · exact h3
      · exact h2
    · exact h1
  · omega
end Go.Cb
