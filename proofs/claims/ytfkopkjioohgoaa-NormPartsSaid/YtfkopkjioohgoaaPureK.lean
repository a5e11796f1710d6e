/- Plain laws: what a pattern's words cost does not hang on the budget. -/
import Derived.Test.YtfkopkjioohgoaaPureY
set_option linter.unusedVariables false
set_option linter.unusedSimpArgs false
set_option linter.all false
namespace Go.Cb
def nodeCost (x : PN) (L : List SemS) : Nat :=
  if x.k = 5 then (L.getD x.a.toNat []).length * (L.getD x.b.toNat []).length
  else if x.k = 6 then (L.getD x.a.toNat []).length else 0
def costF : List PN → List SemS → Nat
  | [], _ => 0
  | x :: r, L => 1 + nodeCost x L + costF r (L ++ [(nodeF x L none).2.1])
theorem pay_yes {B S : Int} {n : Nat} (h : S + n ≤ B) : spendM (some (B, S, false)) (n : Int) = (some (B, S + n, false), true) := by
  unfold spendM spendS spendO spendOk
  simp
  omega
theorem pay_no {B S : Int} {n : Nat} (h : B < S + n) : (spendM (some (B, S, false)) (n : Int)).2 = false := by
  unfold spendM spendOk
  simp
  omega
theorem nodeF_yes {x : PN} {L : List SemS} {s : SemS} (h : nodeF x L none = (none, s, 0)) {B S : Int} (hB : S + nodeCost x L ≤ B) : nodeF x L (some (B, S, false)) = (some (B, S + nodeCost x L, false), s, 0) := by
  have hsp : ∀ n : Int, (spendM none n).2 = true := fun _ => rfl
  unfold nodeF nodeCost at *
  by_cases k2 : x.k = 2
  · rw [if_pos k2] at h ⊢
    rw [if_neg (by omega), if_neg (by omega)]
    injection h with _ h
    injection h with h _
    subst h; simp
  · rw [if_neg k2] at h ⊢
    by_cases k3 : x.k = 3
    · rw [if_pos k3] at h ⊢
      rw [if_neg (by omega), if_neg (by omega)]
      injection h with _ h
      injection h with h _
      subst h; simp
    · rw [if_neg k3] at h ⊢
      by_cases k4 : x.k = 4
      · rw [if_pos k4] at h ⊢
        rw [if_neg (by omega), if_neg (by omega)]
        injection h with _ h
        injection h with h _
        subst h; simp
      · rw [if_neg k4] at h ⊢
        by_cases k5 : x.k = 5
        · rw [if_pos k5] at h ⊢ hB
          rw [if_pos k5]
          generalize L.getD x.a.toNat [] = a at *
          generalize L.getD x.b.toNat [] = b at *
          unfold catS at *
          split at h
          · rename_i h1
            rw [if_pos h1, pay_yes hB, if_pos rfl]
            rw [if_pos (hsp _)] at h
            split at h
            · rename_i h2
              rw [if_pos h2]
              injection h with _ h
              injection h with h _
              subst h; rfl
            · injection h with _ h; injection h with _ h; cases h
          · injection h with _ h; injection h with _ h; cases h
        · rw [if_neg k5] at h ⊢ hB
          rw [if_neg k5]
          by_cases k6 : x.k = 6
          · rw [if_pos k6] at h ⊢ hB
            rw [if_pos k6]
            generalize L.getD x.a.toNat [] = a at *
            unfold starS at *
            split at h
            · rename_i h1
              rw [if_pos h1, pay_yes hB, if_pos rfl]
              rw [if_pos (hsp _)] at h
              injection h with _ h
              injection h with h _
              subst h; rfl
            · injection h with _ h; injection h with _ h; cases h
          · rw [if_neg k6] at h ⊢
            rw [if_neg k6]
            injection h with _ h
            injection h with h _
            subst h; simp
theorem nodeF_no {x : PN} {L : List SemS} {s : SemS} (h : nodeF x L none = (none, s, 0)) {B S : Int} (hS : S ≤ B) (hB : B < S + nodeCost x L) : (nodeF x L (some (B, S, false))).2 = ([], 7) := by
  unfold nodeF nodeCost at *
  by_cases k5 : x.k = 5
  · rw [if_neg (by omega), if_neg (by omega), if_neg (by omega), if_pos k5] at h ⊢
    rw [if_pos k5] at hB
    generalize L.getD x.a.toNat [] = a at *
    generalize L.getD x.b.toNat [] = b at *
    unfold catS at *
    split at h
    · rename_i h1
      rw [if_pos h1, if_neg (by rw [pay_no hB]; decide)]
    · injection h with _ h; injection h with _ h; cases h
  · rw [if_neg k5] at hB
    by_cases k6 : x.k = 6
    · rw [if_neg (by omega), if_neg (by omega), if_neg (by omega), if_neg k5, if_pos k6] at h ⊢
      rw [if_pos k6] at hB
      generalize L.getD x.a.toNat [] = a at *
      unfold starS at *
      split at h
      · rename_i h1
        rw [if_pos h1, if_neg (by rw [pay_no hB]; decide)]
      · injection h with _ h; injection h with _ h; cases h
    · rw [if_neg k6] at hB
      omega
theorem nodeF_none (x : PN) (L : List SemS) : (nodeF x L none).1 = none := by
  unfold nodeF catS starS
  split <;> (try rfl)
  split <;> (try rfl)
  split <;> (try rfl)
  split
  · split
    · split
      · split <;> rfl
      · rfl
    · rfl
  · split
    · split
      · split <;> rfl
      · rfl
    · rfl
theorem normF_cost : ∀ (r : List PN) (L : List SemS) (s : SemS), normF r L none = (none, s, 0) → ∀ (B S : Int), S ≤ B → (S + costF r L ≤ B → normF r L (some (B, S, false)) = (some (B, S + costF r L, false), s, 0)) ∧ (B < S + costF r L → (normF r L (some (B, S, false))).2 = ([], 7))
  | [], L, s, h, B, S, hS => by
    refine ⟨fun _ => ?_, fun h2 => by rw [costF] at h2; omega⟩
    rw [normF] at h
    injection h with _ h
    injection h with h _
    rw [normF, costF, h]; simp
  | x :: r, L, s, h, B, S, hS => by
    obtain ⟨s1, e1, hn⟩ : ∃ s1 e1, nodeF x L none = (none, s1, e1) := ⟨(nodeF x L none).2.1, (nodeF x L none).2.2, Prod.ext (nodeF_none x L) rfl⟩
    rw [normF, if_pos (show (spendM none 1).2 = true from rfl)] at h
    have hn' : nodeF x L (spendM none 1).1 = (none, s1, e1) := hn
    rw [hn'] at h
    by_cases he : e1 = 0
    · subst he
      rw [if_pos rfl] at h
      have ih := normF_cost r (L ++ [s1]) s h
      have hc : costF (x :: r) L = 1 + nodeCost x L + costF r (L ++ [s1]) := by rw [costF, hn]
      rw [hc]
      refine ⟨fun h2 => ?_, fun h2 => ?_⟩
      · have p1 : spendM (some (B, S, false)) 1 = (some (B, S + 1, false), true) := pay_yes (n := 1) (by omega)
        rw [normF, p1, if_pos rfl]
        rw [nodeF_yes hn (by omega), if_pos rfl, ((ih B (S + 1 + nodeCost x L) (by omega)).1 (by omega))]
        rw [show S + 1 + (nodeCost x L : Int) + (costF r (L ++ [s1]) : Int) = S + ((1 + nodeCost x L + costF r (L ++ [s1]) : Nat) : Int) by omega]
      · by_cases h3 : S + 1 ≤ B
        · have p1 : spendM (some (B, S, false)) 1 = (some (B, S + 1, false), true) := pay_yes (n := 1) (by omega)
          rw [normF, p1, if_pos rfl]
          by_cases h4 : S + 1 + nodeCost x L ≤ B
          · rw [nodeF_yes hn h4, if_pos rfl]
            exact (ih B (S + 1 + nodeCost x L) h4).2 (by omega)
          · have h5 := nodeF_no hn (B := B) (S := S + 1) h3 (by omega)
            rw [h5, if_neg (by decide)]
        · have p1 : (spendM (some (B, S, false)) 1).2 = false := pay_no (n := 1) (by omega)
          rw [normF, if_neg (by rw [p1]; decide)]
    · rw [if_neg he] at h
      injection h with _ h
      injection h with _ h
      exact absurd h he
theorem cost_ge : ∀ (r : List PN) (L : List SemS), r.length ≤ costF r L
  | [], _ => Nat.zero_le _
  | x :: r, L => by
    have := cost_ge r (L ++ [(nodeF x L none).2.1])
    rw [costF, List.length_cons]; omega
theorem nodeCost_le {x : PN} {L : List SemS} (h : NodeFit x L none) : nodeCost x L ≤ 4294967296 := by
  unfold nodeCost
  split
  · rename_i k5
    have := (h.cat k5).prod rfl
    omega
  · split
    · rename_i k6
      exact h.star k6
    · omega
theorem cost_le : ∀ (r : List PN) (L : List SemS) (s : SemS), normF r L none = (none, s, 0) → NormFit r L none → costF r L ≤ r.length * 4294967297
  | [], _, _, _, _ => Nat.zero_le _
  | x :: r, L, s, h, hf => by
    obtain ⟨h1, h2⟩ := hf rfl
    have h1 : NodeFit x L none := h1
    rw [normF, if_pos (show (spendM none 1).2 = true from rfl)] at h
    by_cases he : (nodeF x L (spendM none 1).1).2.2 = 0
    · rw [if_pos he] at h
      have h3 := h2 he
      have h4 : (nodeF x L (spendM none 1).1).1 = none := nodeF_none x L
      rw [h4] at h h3
      have ih := cost_le r _ s h h3
      have h5 := nodeCost_le h1
      have h6 : costF (x :: r) L = 1 + nodeCost x L + costF r (L ++ [(nodeF x L (spendM none 1).1).2.1]) := rfl
      rw [h6, List.length_cons, Nat.add_mul]
      omega
    · rw [if_neg he] at h
      injection h with _ h
      injection h with _ h
      exact absurd h he
end Go.Cb
