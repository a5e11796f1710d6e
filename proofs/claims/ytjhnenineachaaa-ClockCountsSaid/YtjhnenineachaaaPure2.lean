/- Plain laws of words: sums, differences, order. -/
import Derived.Test.YtjhnenineachaaaPure
set_option linter.unusedVariables false
set_option linter.unusedSimpArgs false
set_option linter.all false
namespace Go.Cb

def addP : List Int → List Int → List Int
  | [], b => b
  | a, [] => a
  | x :: a, y :: b => (x + y) :: addP a b
def subP : List Int → List Int → List Int
  | [], _ => []
  | a, [] => a
  | x :: a, y :: b => (x - y) :: subP a b
def leP : List Int → List Int → Bool
  | _, [] => true
  | [], _ :: _ => false
  | x :: a, y :: b => decide (y ≤ x) && leP a b
def addB (a b : List Int) : List Int × Bool := if rightB a = true ∧ rightB b = true ∧ (addP a b).all (fun n => decide (n ≤ far)) = true then (addP a b, true) else ([], false)
def subB (a b : List Int) : List Int × Bool := if rightB a = true ∧ rightB b = true ∧ leP a b = true then (cutB (subP a b), true) else ([], false)
def cmpI (a b : Int) : Int := if a < b then -1 else if b < a then 1 else 0
def cmpL : List Int → List Int → Int
  | [], [] => 0
  | [], _ :: _ => -1
  | _ :: _, [] => 1
  | x :: a, y :: b => if cmpI x y = 0 then cmpL a b else cmpI x y
def cmpB (a b : List Int) : Int := if rightB a = true ∧ rightB b = true then (if a.length = b.length then cmpL a b else cmpI a.length b.length) else 0
def totalB (b : List Int) : Int × Bool := if rightB b = true ∧ b.sum ≤ far then (b.sum, true) else (0, false)

theorem addP_nil (a : List Int) : addP a [] = a := by cases a <;> rfl
theorem addP_comm : ∀ a b : List Int, addP a b = addP b a
  | [], b => by rw [addP_nil]; rfl
  | a :: as, [] => rfl
  | x :: a, y :: b => by rw [addP, addP, addP_comm a b, Int.add_comm]
theorem addB_comm (a b : List Int) : addB a b = addB b a := by
  unfold addB
  rw [addP_comm a b]
  by_cases h : rightB a = true ∧ rightB b = true ∧ (addP b a).all (fun n => decide (n ≤ far)) = true
  · rw [if_pos h, if_pos ⟨h.2.1, h.1, h.2.2⟩]
  · rw [if_neg h, if_neg (fun h2 => h ⟨h2.2.1, h2.1, h2.2.2⟩)]
theorem addP_length : ∀ a b : List Int, (addP a b).length = max a.length b.length
  | [], b => by simp [addP]
  | x :: a, [] => by simp [addP]
  | x :: a, y :: b => by simp [addP, addP_length a b]
theorem addP_get : ∀ (a b : List Int) (i : Nat), (addP a b).getD i 0 = a.getD i 0 + b.getD i 0
  | [], b, i => by simp [addP]
  | x :: a, [], i => by simp [addP]
  | x :: a, y :: b, 0 => by simp [addP]
  | x :: a, y :: b, i + 1 => by simpa [addP] using addP_get a b i
theorem list_ext {a b : List Int} (hl : a.length = b.length) (h : ∀ i, i < a.length → a.getD i 0 = b.getD i 0) : a = b := by
  apply List.ext_getElem hl
  intro i h1 h2
  have := h i h1
  rw [List.getD_eq_getElem?_getD, List.getD_eq_getElem?_getD, List.getElem?_eq_getElem h1, List.getElem?_eq_getElem h2] at this
  exact this
theorem getD_of {l : List Int} {k : Nat} (h : k < l.length) : l.getD k 0 = l[k] := by rw [List.getD_eq_getElem?_getD, List.getElem?_eq_getElem h]; rfl
theorem getD_out {l : List Int} {k : Nat} (h : l.length ≤ k) : l.getD k 0 = 0 := by rw [List.getD_eq_getElem?_getD, List.getElem?_eq_none h]; rfl
theorem getD_take (l : List Int) (k i : Nat) : (l.take k).getD i 0 = if i < k then l.getD i 0 else 0 := by
  rw [List.getD_eq_getElem?_getD, List.getElem?_take]
  split
  · rw [List.getD_eq_getElem?_getD]
  · rfl
theorem getD_set (l : List Int) (k i : Nat) (x : Int) (hk : k < l.length) : (l.set k x).getD i 0 = if i = k then x else l.getD i 0 := by
  rw [List.getD_eq_getElem?_getD, List.getElem?_set, List.getD_eq_getElem?_getD]
  by_cases h : k = i
  · rw [if_pos h, if_pos h.symm, if_pos (by omega)]; rfl
  · rw [if_neg h, if_neg (fun e => h e.symm)]
theorem addP_step {a b : List Int} {k : Nat} (hk : k < b.length) (hl : b.length ≤ a.length) : addP a (b.take (k + 1)) = (addP a (b.take k)).set k (a[k] + b[k]) := by
  apply list_ext
  · rw [List.length_set, addP_length, addP_length, List.length_take, List.length_take]; omega
  · intro i hi
    rw [addP_length, List.length_take] at hi
    rw [getD_set _ _ _ _ (by rw [addP_length]; omega), addP_get, addP_get, getD_take, getD_take]
    by_cases h : i = k
    · subst h; rw [if_pos (by omega), if_pos rfl, getD_of (by omega), getD_of hk]
    · rw [if_neg h]
      by_cases h2 : i < k
      · rw [if_pos (by omega), if_pos h2]
      · rw [if_neg (by omega), if_neg h2]
theorem right_ok {b : List Int} (h : rightB b = true) : ∀ x ∈ b, 0 ≤ x ∧ x ≤ far := by
  unfold rightB at h
  simp only [Bool.and_eq_true, List.all_eq_true] at h
  exact fun x hx => (okN_iff _).1 (h.2 _ hx)
theorem right_len {b : List Int} (h : rightB b = true) : b.length ≤ 12 := by
  unfold rightB at h
  simp only [Bool.and_eq_true] at h
  exact of_decide_eq_true h.1.1
/-- What the loop of sums comes to. -/
theorem addB_yes {a b : List Int} (ha : rightB a = true) (hb : rightB b = true) (hl : b.length ≤ a.length) (h : ∀ i, i < b.length → a.getD i 0 + b.getD i 0 ≤ far) : addB a b = (addP a b, true) := by
  have hall : (addP a b).all (fun n => decide (n ≤ far)) = true := by
    rw [List.all_eq_true]
    intro x hx
    obtain ⟨i, hi, rfl⟩ := List.getElem_of_mem hx
    have hm : i < a.length := by rw [addP_length] at hi; omega
    have h2 : (addP a b)[i] = a.getD i 0 + b.getD i 0 := by rw [← addP_get, getD_of hi]
    rw [h2]
    apply decide_eq_true
    by_cases hib : i < b.length
    · exact h i hib
    · rw [getD_out (l := b) (by omega), Int.add_zero, getD_of hm]
      exact (right_ok ha _ (List.getElem_mem hm)).2
  unfold addB
  rw [if_pos ⟨ha, hb, hall⟩]
theorem addB_no {a b : List Int} {i : Nat} (h : far < a.getD i 0 + b.getD i 0) : addB a b = ([], false) := by
  unfold addB
  rw [if_neg]
  rintro ⟨_, _, h3⟩
  rw [List.all_eq_true] at h3
  have hi : i < (addP a b).length := by
    rw [addP_length]
    rcases Nat.lt_or_ge i (max a.length b.length) with h4 | h4
    · exact h4
    · rw [getD_out (by omega), getD_out (by omega)] at h
      simp [far] at h
  have := of_decide_eq_true (h3 _ (List.getElem_mem hi))
  rw [← getD_of hi, addP_get] at this
  omega

/-! ### order -/
theorem cmpI_self (a : Int) : cmpI a a = 0 := by unfold cmpI; simp
theorem cmpI_lt {a b : Int} (h : a < b) : cmpI a b = -1 := by unfold cmpI; rw [if_pos h]
theorem cmpI_gt {a b : Int} (h : b < a) : cmpI a b = 1 := by unfold cmpI; rw [if_neg (by omega), if_pos h]
theorem cmpI_zero {a b : Int} : cmpI a b = 0 ↔ a = b := by
  unfold cmpI
  split
  · omega
  · split <;> omega
theorem cmpL_drop : ∀ (k : Nat) (a b : List Int), k ≤ a.length → k ≤ b.length → (∀ i, i < k → a.getD i 0 = b.getD i 0) → cmpL a b = cmpL (a.drop k) (b.drop k)
  | 0, a, b, _, _, _ => by simp
  | k + 1, [], b, h, _, _ => by simp at h
  | k + 1, a :: as, [], _, h, _ => by simp at h
  | k + 1, x :: a, y :: b, h1, h2, h => by
    have h0 := h 0 (by omega)
    simp at h0
    subst h0
    rw [cmpL, cmpI_self, if_pos rfl]
    exact cmpL_drop k a b (by simpa using h1) (by simpa using h2) (fun i hi => by simpa using h (i + 1) (by omega))
theorem cmpL_at {a b : List Int} {k : Nat} (h1 : k < a.length) (h2 : k < b.length) (h : ∀ i, i < k → a.getD i 0 = b.getD i 0) (hne : a[k] ≠ b[k]) : cmpL a b = cmpI a[k] b[k] := by
  rw [cmpL_drop k a b (by omega) (by omega) h, List.drop_eq_getElem_cons h1, List.drop_eq_getElem_cons h2, cmpL, if_neg (fun e => hne (cmpI_zero.1 e))]
theorem cmpL_short {a b : List Int} (h1 : a.length < b.length) (h : ∀ i, i < a.length → a.getD i 0 = b.getD i 0) : cmpL a b = -1 := by
  rw [cmpL_drop a.length a b (by omega) (by omega) h, List.drop_length, List.drop_eq_getElem_cons h1]; rfl
theorem cmpL_long {a b : List Int} (h1 : b.length < a.length) (h : ∀ i, i < b.length → a.getD i 0 = b.getD i 0) : cmpL a b = 1 := by
  rw [cmpL_drop b.length a b (by omega) (by omega) h, List.drop_length, List.drop_eq_getElem_cons h1]; rfl
theorem cmpL_same {a b : List Int} (h1 : a.length = b.length) (h : ∀ i, i < a.length → a.getD i 0 = b.getD i 0) : cmpL a b = 0 := by
  rw [cmpL_drop a.length a b (by omega) (by omega) h, List.drop_length, h1, List.drop_length]; rfl
theorem agree_snoc {a b : List Int} {k : Nat} (h1 : k < a.length) (h2 : k < b.length) (h : ∀ i, i < k → a.getD i 0 = b.getD i 0) (he : a[k] = b[k]) : ∀ i, i < k + 1 → a.getD i 0 = b.getD i 0 := by
  intro i hi
  by_cases hik : i < k
  · exact h i hik
  · obtain rfl : i = k := by omega
    rw [getD_of h1, getD_of h2, he]

/-! ### totals -/
theorem sum_take {b : List Int} {k : Nat} (h : k < b.length) : (b.take (k + 1)).sum = (b.take k).sum + b[k] := by
  rw [List.take_succ_eq_append_getElem h, List.sum_append]; simp
theorem sum_nonneg : ∀ {b : List Int}, (∀ x ∈ b, 0 ≤ x) → 0 ≤ b.sum
  | [], _ => by simp
  | x :: b, h => by
    rw [List.sum_cons]
    have := h x List.mem_cons_self
    have := sum_nonneg (b := b) (fun y hy => h y (List.mem_cons_of_mem _ hy))
    omega
theorem sum_take_le {b : List Int} (h : ∀ x ∈ b, 0 ≤ x) (k : Nat) : (b.take k).sum ≤ b.sum := by
  have h1 : b.sum = (b.take k).sum + (b.drop k).sum := by rw [← List.sum_append, List.take_append_drop]
  have h2 := sum_nonneg (b := b.drop k) (fun x hx => h x (List.mem_of_mem_drop hx))
  omega

/-! ### differences -/
theorem subP_length : ∀ a b : List Int, b.length ≤ a.length → (subP a b).length = a.length
  | [], b, _ => by simp [subP]
  | x :: a, [], _ => by simp [subP]
  | x :: a, y :: b, h => by simp [subP, subP_length a b (by simpa using h)]
theorem subP_get : ∀ (a b : List Int), b.length ≤ a.length → ∀ i, (subP a b).getD i 0 = a.getD i 0 - b.getD i 0
  | [], b, h, i => by
    have : b = [] := List.eq_nil_of_length_eq_zero (by simpa using h)
    subst this; simp [subP]
  | x :: a, [], _, i => by simp [subP]
  | x :: a, y :: b, _, 0 => by simp [subP]
  | x :: a, y :: b, h, i + 1 => by simpa [subP] using subP_get a b (by simpa using h) i
theorem leP_iff : ∀ (a b : List Int), leP a b = true ↔ b.length ≤ a.length ∧ ∀ i, i < b.length → b.getD i 0 ≤ a.getD i 0
  | a, [] => by simp [leP]
  | [], y :: b => by simp [leP]
  | x :: a, y :: b => by
    simp only [leP, Bool.and_eq_true, decide_eq_true_eq, leP_iff a b, List.length_cons]
    constructor
    · rintro ⟨h1, h2, h3⟩
      refine ⟨by omega, fun i hi => ?_⟩
      cases i with
      | zero => simpa using h1
      | succ i => simpa using h3 i (by omega)
    · rintro ⟨h1, h2⟩
      exact ⟨by simpa using h2 0 (by omega), by omega, fun i hi => by simpa using h2 (i + 1) (by omega)⟩
theorem subP_nil (a : List Int) : subP a [] = a := by cases a <;> rfl
theorem subP_step {a b : List Int} {k : Nat} (hk : k < b.length) (hl : b.length ≤ a.length) : subP a (b.take (k + 1)) = (subP a (b.take k)).set k (a[k] - b[k]) := by
  have e1 : (b.take (k + 1)).length ≤ a.length := by rw [List.length_take]; omega
  have e2 : (b.take k).length ≤ a.length := by rw [List.length_take]; omega
  apply list_ext
  · rw [List.length_set, subP_length _ _ e1, subP_length _ _ e2]
  · intro i hi
    rw [getD_set _ _ _ _ (by rw [subP_length _ _ e2]; omega), subP_get _ _ e1, subP_get _ _ e2, getD_take, getD_take]
    by_cases h : i = k
    · subst h; rw [if_pos (by omega), if_pos rfl, getD_of (by omega), getD_of hk]
    · rw [if_neg h]
      by_cases h2 : i < k
      · rw [if_pos (by omega), if_pos h2]
      · rw [if_neg (by omega), if_neg h2]
theorem subP_at {a b : List Int} {k : Nat} (hk : k < a.length) (hb : k < b.length) (hl : b.length ≤ a.length) (h : k < (subP a (b.take k)).length) : (subP a (b.take k))[k] = a[k] := by
  have e2 : (b.take k).length ≤ a.length := by rw [List.length_take]; omega
  rw [← getD_of h, subP_get _ _ e2, getD_take, if_neg (by omega), getD_of hk]; omega
theorem subB_no {a b : List Int} (h : leP a b = false) : subB a b = ([], false) := by
  unfold subB; rw [if_neg (by simp [h])]
theorem subB_yes {a b : List Int} (ha : rightB a = true) (hb : rightB b = true) (h : leP a b = true) : subB a b = (cutB (subP a b), true) := by
  unfold subB; rw [if_pos ⟨ha, hb, h⟩]
/-- A word without its noughts is right, if its numbers are. -/
theorem cutB_sub (l : List Int) : ∃ k, k ≤ l.length ∧ cutB l = l.take k ∧ (k = 0 ∨ l.getD (k - 1) 0 ≠ 0) := by
  induction hn : l.length generalizing l with
  | zero =>
    have : l = [] := List.eq_nil_of_length_eq_zero hn
    subst this
    exact ⟨0, by simp, rfl, .inl rfl⟩
  | succ n ih =>
    by_cases hz : l[n]'(by omega) = 0
    · obtain ⟨k, hk, hc, he⟩ := ih (l.take n) (by rw [List.length_take]; omega)
      have hlt : l.take n ++ [0] = l := by
        have := List.take_succ_eq_append_getElem (l := l) (i := n) (by omega)
        rw [hz, List.take_of_length_le (by omega)] at this
        exact this.symm
      have hcut : cutB l = cutB (l.take n) := by
        conv => lhs; rw [← hlt]
        unfold cutB
        rw [List.reverse_append, List.reverse_singleton, List.singleton_append, List.dropWhile_cons_of_pos (by rfl)]
      refine ⟨k, by omega, ?_, ?_⟩
      · rw [hcut, hc, List.take_take]; congr 1; omega
      · rcases he with he | he
        · exact .inl he
        · rw [getD_take] at he
          split at he
          · exact .inr he
          · exact absurd rfl he
    · refine ⟨n + 1, by omega, ?_, .inr (by rw [show n + 1 - 1 = n from rfl, getD_of (by omega)]; exact hz)⟩
      exact cutB_eq (by omega) (by intro x hx; rw [List.drop_of_length_le (by omega)] at hx; cases hx) (.inr ⟨by omega, hz⟩)
theorem cutB_right {l : List Int} (hl : l.length ≤ 12) (h : ∀ x ∈ l, 0 ≤ x ∧ x ≤ far) : rightB (cutB l) = true := by
  obtain ⟨k, hk, hc, he⟩ := cutB_sub l
  rw [hc]
  unfold rightB
  simp only [Bool.and_eq_true, List.all_eq_true]
  refine ⟨⟨decide_eq_true (by rw [List.length_take]; omega), ?_⟩, fun x hx => (okN_iff x).2 (h x (List.mem_of_mem_take hx))⟩
  rcases he with rfl | h2
  · simp
  · by_cases hk0 : k = 0
    · subst hk0; simp
    · rw [getD_of (by omega)] at h2
      rw [List.getLast?_eq_getElem?, List.length_take, Nat.min_eq_left hk, List.getElem?_take, if_pos (by omega), List.getElem?_eq_getElem (by omega)]
      simpa using h2
theorem normB_eq {l : List Int} (hl : l.length ≤ 12) (h : ∀ x ∈ l, 0 ≤ x ∧ x ≤ far) : normB l = cutB l := by
  unfold normB; rw [if_pos (cutB_right hl h)]
theorem rightB_bad {l : List Int} {k : Nat} (hk : k < l.length) (hok : okN l[k] = false) : rightB l = false := by
  unfold rightB
  have : l.all okN = false := by
    rw [← Bool.not_eq_true, List.all_eq_true]
    intro h
    rw [h _ (List.getElem_mem hk)] at hok
    cases hok
  rw [this, Bool.and_false]
theorem totalB_yes {b : List Int} (h : rightB b = true) (hs : b.sum ≤ far) : totalB b = (b.sum, true) := by unfold totalB; rw [if_pos ⟨h, hs⟩]
theorem totalB_no {b : List Int} {k : Nat} (hr : rightB b = true) (hk : k < b.length) (hs : ¬ (b.take k).sum + b[k] ≤ far) : totalB b = (0, false) := by
  unfold totalB
  rw [if_neg]
  rintro ⟨_, h2⟩
  rw [← sum_take hk] at hs
  have := sum_take_le (b := b) (fun x hx => (right_ok hr x hx).1) (k + 1)
  omega

/-! ### what the statements' own helps make -/
def withinI (v n : Int) : Int := if n < 1 then 0 else v % n
theorem withinI_range {v n : Int} (h : 1 ≤ n) : 0 ≤ withinI v n ∧ withinI v n < n := by
  unfold withinI
  rw [if_neg (by omega)]
  exact ⟨Int.emod_nonneg _ (by omega), Int.emod_lt_of_pos _ (by omega)⟩
theorem tmod_neg {v n : Int} (hv : v < 0) : v.tmod n = -((-v) % n) := by
  have h1 : (-v).tmod n = (-v) % n := Int.tmod_eq_emod_of_nonneg (by omega)
  have h2 : (-v).tmod n = -(v.tmod n) := Int.neg_tmod v n
  omega
theorem emod_neg2 {v n : Int} (hn : 1 ≤ n) : ((-v) % n = 0 → v % n = 0) ∧ (0 < (-v) % n → v % n = n - (-v) % n) := by
  have h := Int.neg_emod (a := -v) (b := n)
  rw [Int.neg_neg] at h
  by_cases hd : n ∣ -v
  · rw [if_pos hd] at h
    have := Int.emod_eq_zero_of_dvd hd
    omega
  · rw [if_neg hd] at h
    have h3 : (n.natAbs : Int) = n := by omega
    constructor
    · intro h0; exact absurd (Int.dvd_of_emod_eq_zero h0) hd
    · intro _; omega
theorem withinI_neg {v n : Int} (hn : 1 ≤ n) (hv : v < 0) : v.tmod n ≤ 0 ∧ -n < v.tmod n ∧ (v.tmod n < 0 → v.tmod n + n = withinI v n) ∧ (¬ v.tmod n < 0 → v.tmod n = withinI v n) := by
  have e := tmod_neg (n := n) hv
  have h0 := Int.emod_nonneg (-v) (b := n) (by omega)
  have h1 := Int.emod_lt_of_pos (-v) (b := n) (by omega)
  have h2 := emod_neg2 (v := v) hn
  unfold withinI
  rw [if_neg (by omega), e]
  omega
def playN (n : Int) : Int := if 0 ≤ n ∧ n % 11 = 10 then withinI n 40 else withinI n 4
def playBag (l : List Int) : List Int := normB ((List.range 4).map fun i => playN (l.getD i 0))
theorem playN_range (n : Int) : 0 ≤ playN n ∧ playN n < 40 := by
  unfold playN
  split
  · exact withinI_range (by omega)
  · have := withinI_range (v := n) (n := 4) (by omega); omega
def playF (l : List Int) (k : Nat) : List Int := (List.range 4).map fun i => if i < k then playN (l.getD i 0) else 0
theorem playF_len (l : List Int) (k : Nat) : (playF l k).length = 4 := by simp [playF]
theorem playF_zero (l : List Int) : playF l 0 = List.replicate 4 0 := by simp [playF, List.range_succ]
theorem playF_four (l : List Int) : playF l 4 = (List.range 4).map fun i => playN (l.getD i 0) := by simp [playF, List.range_succ]
theorem playF_step (l : List Int) {k : Nat} (hk : k < 4) : (playF l k).set k (playN (l.getD k 0)) = playF l (k + 1) := by
  apply list_ext
  · rw [List.length_set, playF_len, playF_len]
  · intro i hi
    rw [List.length_set, playF_len] at hi
    rw [getD_set _ _ _ _ (by rw [playF_len]; exact hk)]
    have e : ∀ k, (playF l k).getD i 0 = if i < k then playN (l.getD i 0) else 0 := by
      intro k
      rw [getD_of (by rw [playF_len]; exact hi)]
      simp [playF]
    rw [e, e]
    by_cases h : i = k
    · subst h; rw [if_pos rfl, if_pos (by omega)]
    · rw [if_neg h]
      by_cases h2 : i < k
      · rw [if_pos h2, if_pos (by omega)]
      · rw [if_neg h2, if_neg (by omega)]
theorem normB_sub {a b : List Int} (ha : rightB a = true) (hb : rightB b = true) (hl : b.length ≤ a.length) (h : ∀ i, i < b.length → b.getD i 0 ≤ a.getD i 0) : normB (subP a b) = cutB (subP a b) := by
  apply normB_eq
  · rw [subP_length _ _ hl]; exact right_len ha
  · intro x hx
    obtain ⟨i, hi, rfl⟩ := List.getElem_of_mem hx
    have hia : i < a.length := by rw [subP_length _ _ hl] at hi; exact hi
    rw [← getD_of hi, subP_get _ _ hl]
    have h1 := right_ok ha _ (List.getElem_mem hia)
    rw [← getD_of hia] at h1
    by_cases hib : i < b.length
    · have h2 := right_ok hb _ (List.getElem_mem hib)
      rw [← getD_of hib] at h2
      have := h i hib
      omega
    · rw [getD_out (l := b) (by omega)]; omega
end Go.Cb
