/- Plain laws: sorted words without what comes twice are those that were put in one by one. -/
import Derived.Test.YtghdleofbkalbaaPure8
namespace Go.Cb
theorem ext_rise : ∀ {a b : List (List Int)}, (a.Pairwise fun x y => cmpB x y < 0) → (b.Pairwise fun x y => cmpB x y < 0) → (∀ x, x ∈ a ↔ x ∈ b) → a = b
  | [], [], _, _, _ => rfl
  | [], y :: b, _, _, h => by have := (h y).2 (by simp); simp at this
  | x :: a, [], _, _, h => by have := (h x).1 (by simp); simp at this
  | x :: a, y :: b, ha, hb, h => by
    have ha' := List.pairwise_cons.1 ha
    have hb' := List.pairwise_cons.1 hb
    have e : x = y := by
      rcases List.mem_cons.1 ((h x).1 (by simp)) with e | hx
      · exact e
      · rcases List.mem_cons.1 ((h y).2 (by simp)) with e | hy
        · exact e.symm
        · have h1 := hb'.1 x hx
          have h2 := ha'.1 y hy
          have := cmpB_neg x y
          omega
    subst e
    have hirr : ∀ z, ¬ cmpB z z < 0 := fun z => by have := cmpB_neg z z; omega
    rw [ext_rise ha'.2 hb'.2 (fun z => by
      constructor
      · intro hz
        rcases List.mem_cons.1 ((h z).1 (by simp [hz])) with e | hz2
        · subst e; exact absurd (ha'.1 z hz) (hirr z)
        · exact hz2
      · intro hz
        rcases List.mem_cons.1 ((h z).2 (by simp [hz])) with e | hz2
        · subst e; exact absurd (hb'.1 z hz) (hirr z)
        · exact hz2)]
theorem mem_putB_iff {ps : List (List Int)} {b x : List Int} (hp : ∀ p ∈ ps, rightB p = true) (hb : rightB b = true) : x ∈ putB ps b ↔ x ∈ ps ∨ x = b := by
  refine ⟨mem_putB, ?_⟩
  induction ps with
  | nil => rintro (h | rfl)
           · simp at h
           · simp [putB]
  | cons p ps ih =>
    have ih := ih (fun q hq => hp q (by simp [hq]))
    rw [putB]
    rintro h
    split
    · rcases h with h | h
      · rcases List.mem_cons.1 h with rfl | h
        · simp
        · exact List.mem_cons.2 (.inr (ih (.inl h)))
      · exact List.mem_cons.2 (.inr (ih (.inr h)))
    · split
      · rename_i h2
        have e := (cmpB_zero (hp p (by simp)) hb).1 h2
        rcases h with h | h
        · exact h
        · rw [h, ← e]; simp
      · rcases h with h | h
        · exact List.mem_cons.2 (.inr h)
        · rw [h]; simp
/-- The words that are, of some that may be none or no words. -/
def nzB (ps : List (List Int)) : List (List Int) := (ps.map normB).filter fun p => !p.isEmpty
theorem nzB_ok (ps : List (List Int)) : ∀ p ∈ nzB ps, p.isEmpty = false ∧ rightB p = true := by
  intro p hp
  obtain ⟨h1, h2⟩ := List.mem_filter.1 hp
  obtain ⟨q, _, rfl⟩ := List.mem_map.1 h1
  exact ⟨by simpa using h2, normB_right q⟩
theorem ofF_mems : ∀ {ps acc r : List (List Int)}, Good acc → ofF acc ps = some r → Good r ∧ ∀ x, x ∈ r ↔ x ∈ acc ∨ x ∈ nzB ps
  | [], acc, r, h, e => by
    simp only [ofF] at e
    injection e with e
    subst e
    exact ⟨h, fun x => by simp [nzB]⟩
  | p :: ps, acc, r, h, e => by
    rw [ofF] at e
    split at e
    · cases e
    · by_cases hz : (normB p).isEmpty = true
      · rw [if_pos hz] at e
        obtain ⟨g, m⟩ := ofF_mems h e
        refine ⟨g, fun x => ?_⟩
        rw [m x]
        have : nzB (p :: ps) = nzB ps := by simp [nzB, hz]
        rw [this]
      · rw [if_neg hz] at e
        have hz2 : (normB p).isEmpty = false := by simpa using hz
        obtain ⟨g, m⟩ := ofF_mems (h.put hz2 (normB_right p)) e
        refine ⟨g, fun x => ?_⟩
        rw [m x, mem_putB_iff (fun q hq => (h.each q hq).2) (normB_right p)]
        have : nzB (p :: ps) = normB p :: nzB ps := by simp [nzB, hz2]
        rw [this, List.mem_cons, or_assoc]
theorem ofF_none {ps acc : List (List Int)} : ofF acc ps = none ↔ ∃ p ∈ ps, badB p = true := by
  induction ps generalizing acc with
  | nil => simp [ofF]
  | cons p ps ih =>
    rw [ofF]
    by_cases h : badB p = true
    · rw [if_pos h]; simp [h]
    · rw [if_neg h, ih]; simp [h]
/-- What stands next to its like is left out. -/
def cmpct : List (List Int) → List (List Int)
  | [] => []
  | [x] => [x]
  | x :: y :: r => if x = y then cmpct (y :: r) else x :: cmpct (y :: r)
theorem cmpct_mem : ∀ {l : List (List Int)} {x : List Int}, x ∈ cmpct l ↔ x ∈ l
  | [], x => by simp [cmpct]
  | [y], x => by simp [cmpct]
  | y :: z :: r, x => by
    rw [cmpct]
    split
    · rename_i e
      rw [cmpct_mem (l := z :: r), e]
      simp
    · rw [List.mem_cons, cmpct_mem (l := z :: r), List.mem_cons (l := z :: r)]
theorem cmpct_rise : ∀ {l : List (List Int)}, (∀ p ∈ l, rightB p = true) → (l.Pairwise fun x y => ¬ cmpB y x < 0) → (cmpct l).Pairwise fun x y => cmpB x y < 0
  | [], _, _ => by simp [cmpct]
  | [x], _, _ => by simp [cmpct]
  | x :: y :: r, hr, h => by
    have h' := List.pairwise_cons.1 h
    have ih := cmpct_rise (l := y :: r) (fun p hp => hr p (by simp [hp])) h'.2
    rw [cmpct]
    split
    · exact ih
    · rename_i hne
      have hxy : cmpB x y < 0 := by
        have h1 := h'.1 y (by simp)
        have h2 := cmpB_neg x y
        rcases Int.lt_or_le (cmpB x y) 0 with h3 | h3
        · exact h3
        · exact absurd ((cmpB_zero (hr x (by simp)) (hr y (by simp))).1 (by omega)) hne
      refine List.pairwise_cons.2 ⟨fun z hz => ?_, ih⟩
      have hz' := cmpct_mem.1 hz
      rcases List.mem_cons.1 hz' with rfl | hz2
      · exact hxy
      · have h1 := (List.pairwise_cons.1 h'.2).1 z hz2
        have h2 := cmpB_neg y z
        rcases Int.lt_or_le (cmpB y z) 0 with h3 | h3
        · exact cmpB_ltt (hr x (by simp)) (hr y (by simp)) (hr z (by simp [hz2])) hxy h3
        · have e := (cmpB_zero (hr y (by simp)) (hr z (by simp [hz2]))).1 (by omega)
          rw [← e]; exact hxy
/-- Sorted, and what comes twice left out: just what the document's putting makes. -/
theorem ofF_sorted {ps q : List (List Int)} (hno : ∀ p ∈ ps, badB p = false) (hp : q.Perm (nzB ps)) (hs : q.Pairwise fun x y => ¬ cmpB y x < 0) : ofF [] ps = some (cmpct q) := by
  cases e : ofF [] ps with
  | none =>
    obtain ⟨p, h1, h2⟩ := ofF_none.1 e
    rw [hno p h1] at h2; cases h2
  | some r =>
    obtain ⟨g, m⟩ := ofF_mems Good.nil e
    have hr : ∀ p ∈ q, rightB p = true := fun p h => (nzB_ok ps p (hp.mem_iff.1 h)).2
    rw [ext_rise g.up (cmpct_rise hr hs) (fun x => by rw [m x, cmpct_mem, hp.mem_iff]; simp)]
theorem cmpct_snoc : ∀ (l : List (List Int)) (x : List Int), cmpct (l ++ [x]) = if l.getLast? = some x then cmpct l else cmpct l ++ [x]
  | [], x => by simp [cmpct]
  | [y], x => by
    show cmpct [y, x] = _
    by_cases e : y = x
    · subst e; simp [cmpct]
    · simp [cmpct, e]
  | y :: z :: r, x => by
    have ih := cmpct_snoc (z :: r) x
    have hl : (y :: z :: r).getLast? = (z :: r).getLast? := by simp [List.getLast?_cons_cons]
    rw [hl]
    show cmpct (y :: z :: (r ++ [x])) = _
    rw [cmpct, cmpct]
    rw [show z :: (r ++ [x]) = (z :: r) ++ [x] from rfl, ih]
    by_cases e : y = z
    · rw [if_pos e, if_pos e]
    · rw [if_neg e, if_neg e]
      split <;> simp
theorem cmpct_length : ∀ l : List (List Int), (cmpct l).length ≤ l.length
  | [] => by simp [cmpct]
  | [x] => by simp [cmpct]
  | x :: y :: r => by
    have := cmpct_length (y :: r)
    rw [cmpct]
    split <;> simp at this ⊢ <;> omega
theorem take_last {l : List (List Int)} {k : Nat} (h0 : 0 < k) (hk : k ≤ l.length) : (l.take k).getLast? = l[k - 1]? := by
  rw [List.getLast?_eq_getElem?, List.length_take, Nat.min_eq_left hk, List.getElem?_take, if_pos (by omega)]
theorem cmpct_take {l : List (List Int)} {k : Nat} {x y : List Int} (h0 : 0 < k) (hy : l[k - 1]? = some y) (hx : l[k]? = some x) : cmpct (l.take (k + 1)) = if y = x then cmpct (l.take k) else cmpct (l.take k) ++ [x] := by
  have hk := (List.getElem?_eq_some_iff.1 hx).1
  rw [List.take_add_one, hx]
  show cmpct (l.take k ++ [x]) = _
  rw [cmpct_snoc, take_last h0 (by omega), hy]
  by_cases e : y = x
  · rw [if_pos e, if_pos (by rw [e])]
  · rw [if_neg e, if_neg (fun h => e (Option.some.inj h))]
end Go.Cb
