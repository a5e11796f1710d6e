/- Plain laws of words (bags), without Go: what the program's functions compute. -/
import Derived.KernelRfl
set_option linter.unusedVariables false
set_option linter.unusedSimpArgs false
set_option linter.all false
namespace Go.Cb

/-! ### numbers -/
def far : Int := 1152921504606846976
def okN (n : Int) : Bool := decide (0 ≤ n) && decide (n ≤ far)
def addN (a b : Int) : Int × Bool := if okN a = true ∧ okN b = true ∧ a + b ≤ far then (a + b, true) else (0, false)
def mulN (a b : Int) : Int × Bool := if okN a = true ∧ okN b = true ∧ a * b ≤ far then (a * b, true) else (0, false)
theorem okN_iff (n : Int) : okN n = true ↔ 0 ≤ n ∧ n ≤ far := by simp [okN]

/-! ### words -/
def rightB (b : List Int) : Bool := decide (b.length ≤ 12) && (b.getLast? != some 0) && b.all okN
def cutB (b : List Int) : List Int := (b.reverse.dropWhile (· == 0)).reverse
def normB (b : List Int) : List Int := if rightB (cutB b) then cutB b else []
def oneB (tag n : Int) : List Int := if 0 ≤ tag ∧ tag < 12 ∧ 1 ≤ n ∧ n ≤ far then List.replicate tag.toNat 0 ++ [n] else []

theorem all_snoc {α : Type} {p : α → Bool} {l : List α} {k : Nat} (hk : k < l.length) (h : ∀ x ∈ l.take k, p x = true) (hx : p l[k] = true) : ∀ x ∈ l.take (k + 1), p x = true := by
  intro x hm
  rw [List.take_succ_eq_append_getElem hk] at hm
  rcases List.mem_append.1 hm with hm | hm
  · exact h x hm
  · rw [List.mem_singleton.1 hm]; exact hx
theorem idx_no {α : Type} {p : α → Bool} {l : List α} {k : Nat} (hk : k < l.length) (hx : p l[k] = false) : decide (0 ≤ (k : Int)) = !l.all p := by
  have : l.all p = false := by
    rw [← Bool.not_eq_true, List.all_eq_true]
    intro h
    rw [h _ (List.getElem_mem hk)] at hx
    cases hx
  rw [this]; simp
theorem idx_yes {α : Type} {p : α → Bool} {l : List α} {k : Nat} (hk : l.length ≤ k) (h : ∀ x ∈ l.take k, p x = true) : decide (0 ≤ (-1 : Int)) = !l.all p := by
  rw [List.take_of_length_le hk] at h
  rw [List.all_eq_true.2 h]; rfl
theorem cut_snoc {l : List Int} {k : Nat} (h0 : 0 < k) (hk : k ≤ l.length) (hz : l[k - 1] = 0) (h : ∀ x ∈ l.drop k, x = 0) : ∀ x ∈ l.drop (k - 1), x = 0 := by
  intro x hx
  rw [List.drop_eq_getElem_cons (by omega)] at hx
  rcases List.mem_cons.1 hx with hx | hx
  · rw [hx]; exact hz
  · rw [show k - 1 + 1 = k from by omega] at hx
    exact h x hx
theorem cutB_eq {l : List Int} {k : Nat} (hk : k ≤ l.length) (h : ∀ x ∈ l.drop k, x = 0) (he : k = 0 ∨ ∃ h0 : 0 < k, l[k - 1] ≠ 0) : cutB l = l.take k := by
  have hsplit : l = l.take k ++ l.drop k := (List.take_append_drop k l).symm
  have hrev : l.reverse = (l.drop k).reverse ++ (l.take k).reverse := by
    conv => lhs; rw [hsplit]
    rw [List.reverse_append]
  unfold cutB
  rw [hrev, List.dropWhile_append_of_pos (by intro x hx; simpa using h x (List.mem_reverse.1 hx))]
  rcases he with rfl | ⟨h0, hne⟩
  · simp
  · have htk : l.take k = l.take (k - 1) ++ [l[k - 1]] := by
      have := List.take_succ_eq_append_getElem (l := l) (i := k - 1) (by omega)
      rwa [show k - 1 + 1 = k from by omega] at this
    rw [htk, List.reverse_append, List.reverse_singleton, List.singleton_append, List.dropWhile_cons_of_neg (by simpa using hne), List.reverse_cons, List.reverse_reverse]
theorem oneB_eq {t : Nat} {k : Int} (h1 : t < 12) (h2 : 1 ≤ k) (h3 : k ≤ 1152921504606846976) : oneB (t : Int) k = (List.replicate (t + 1) (0 : Int)).set t k := by
  unfold oneB far
  rw [if_pos (by omega), List.replicate_succ', List.set_append_right _ _ (by simp)]
  simp
theorem oneB_no {t k : Int} (h : ¬ (0 ≤ t ∧ t < 12 ∧ 1 ≤ k ∧ k ≤ 1152921504606846976)) : oneB t k = [] := by
  unfold oneB far
  rw [if_neg h]

/-! ### meters -/
def spendOk (b s : Int) (o : Bool) (n : Int) : Bool := !o && decide (max n 0 ≤ b - s)
def spendS (b s : Int) (o : Bool) (n : Int) : Int := if spendOk b s o n then s + max n 0 else s
def spendO (b s : Int) (o : Bool) (n : Int) : Bool := !spendOk b s o n
theorem spendS_range {b s : Int} (o : Bool) (n : Int) (h1 : s ≤ b) : s ≤ spendS b s o n ∧ spendS b s o n ≤ b := by
  unfold spendS
  split
  · rename_i h
    simp [spendOk] at h
    omega
  · omega
theorem none_snoc {α : Type} {p : α → Bool} {l : List α} {k : Nat} (hk : k < l.length) (h : ∀ x ∈ l.take k, p x = false) (hx : p l[k] = false) : ∀ x ∈ l.take (k + 1), p x = false := by
  intro x hm
  rw [List.take_succ_eq_append_getElem hk] at hm
  rcases List.mem_append.1 hm with hm | hm
  · exact h x hm
  · rw [List.mem_singleton.1 hm]; exact hx
theorem any_yes {α : Type} {p : α → Bool} {l : List α} {k : Nat} (hk : k < l.length) (hx : p l[k] = true) : decide (0 ≤ (k : Int)) = l.any p := by
  have : l.any p = true := List.any_eq_true.2 ⟨_, List.getElem_mem hk, hx⟩
  rw [this]; simp
theorem any_no {α : Type} {p : α → Bool} {l : List α} {k : Nat} (hk : l.length ≤ k) (h : ∀ x ∈ l.take k, p x = false) : decide (0 ≤ (-1 : Int)) = l.any p := by
  rw [List.take_of_length_le hk] at h
  have : l.any p = false := by
    rw [← Bool.not_eq_true, List.any_eq_true]
    rintro ⟨x, hx, h2⟩
    rw [h x hx] at h2; cases h2
  rw [this]; rfl
end Go.Cb
