/- Plain laws: words put into rising ones; the linear set of a base and periods. -/
import Derived.Test.YtghdleofbkalbaaPure6
namespace Go.Cb
def zeroB (b : List Int) : Bool := b.all (· == 0)
def putB : List (List Int) → List Int → List (List Int)
  | [], b => [b]
  | p :: ps, b => if cmpB p b < 0 then p :: putB ps b else if cmpB p b = 0 then p :: ps else b :: p :: ps
def allBelow (ps : List (List Int)) (b : List Int) (k : Nat) : Prop := ∀ i, i < k → ∀ h : i < ps.length, cmpB ps[i] b < 0
theorem allBelow_zero (ps : List (List Int)) (b : List Int) : allBelow ps b 0 := fun i hi => absurd hi (by omega)
theorem allBelow_snoc {ps : List (List Int)} {b : List Int} {k : Nat} (h : allBelow ps b k) (hk : k < ps.length) (hc : cmpB ps[k] b < 0) : allBelow ps b (k + 1) := by
  intro i hi hl
  by_cases e : i = k
  · subst e; exact hc
  · exact h i (by omega) hl
theorem putB_skip : ∀ (k : Nat) (ps : List (List Int)) (b : List Int), k ≤ ps.length → allBelow ps b k → putB ps b = ps.take k ++ putB (ps.drop k) b
  | 0, _, _, _, _ => rfl
  | k + 1, p :: ps, b, hk, h => by
    have h0 : cmpB p b < 0 := h 0 (by omega) (by simp)
    rw [putB, if_pos h0, putB_skip k ps b (by simpa using hk) (fun i hi hl => h (i + 1) (by omega) (by simpa using hl))]
    rfl
  | k + 1, [], _, hk, _ => by simp at hk
theorem putB_end {ps : List (List Int)} {b : List Int} (h : allBelow ps b ps.length) : putB ps b = ps.take ps.length ++ [b] ++ ps.drop ps.length := by
  rw [putB_skip ps.length ps b (Nat.le_refl _) h, List.drop_eq_nil_of_le (Nat.le_refl ps.length), putB]; simp
theorem putB_same {ps : List (List Int)} {b : List Int} {k : Nat} (hk : k < ps.length) (h : allBelow ps b k) (hc : cmpB ps[k] b = 0) : putB ps b = ps := by
  rw [putB_skip k ps b (by omega) h, List.drop_eq_getElem_cons hk, putB, if_neg (by omega), if_pos hc, ← List.drop_eq_getElem_cons hk, List.take_append_drop]
theorem putB_in {ps : List (List Int)} {b : List Int} {k : Nat} (hk : k < ps.length) (h : allBelow ps b k) (hc : 0 < cmpB ps[k] b) : putB ps b = ps.take k ++ [b] ++ ps.drop k := by
  rw [putB_skip k ps b (by omega) h, List.drop_eq_getElem_cons hk, putB, if_neg (by omega), if_neg (by omega)]; simp
theorem putB_length : ∀ (ps : List (List Int)) (b : List Int), (putB ps b).length ≤ ps.length + 1
  | [], b => by simp [putB]
  | p :: ps, b => by
    rw [putB]
    split
    · simp only [List.length_cons]; have := putB_length ps b; omega
    · split <;> simp
def badB (p : List Int) : Bool := (normB p).isEmpty && !zeroB p
def ofF : List (List Int) → List (List Int) → Option (List (List Int))
  | acc, [] => some acc
  | acc, p :: ps => if badB p = true then none else ofF (if (normB p).isEmpty = true then acc else putB acc (normB p)) ps
def ofLin (base : List Int) (ps : List (List Int)) : Lin × Bool :=
  if badB base = true then (([], []), false) else
    match ofF [] ps with
    | none => (([], []), false)
    | some q => ((normB base, q), true)
theorem ofLin_no {base : List Int} {ps : List (List Int)} (h : badB base = true) : ofLin base ps = (([], []), false) := by unfold ofLin; rw [if_pos h]
theorem ofLin_no2 {base : List Int} {ps : List (List Int)} (h : badB base = false) (h2 : ofF [] ps = none) : ofLin base ps = (([], []), false) := by unfold ofLin; rw [if_neg (by simp [h]), h2]
theorem ofLin_yes {base : List Int} {ps q : List (List Int)} (h : badB base = false) (h2 : ofF [] ps = some q) : ofLin base ps = ((normB base, q), true) := by unfold ofLin; rw [if_neg (by simp [h]), h2]
theorem ofF_at (acc : List (List Int)) {ps : List (List Int)} {k : Nat} (hk : k < ps.length) : ofF acc (ps.drop k) = if badB ps[k] = true then none else ofF (if (normB ps[k]).isEmpty = true then acc else putB acc (normB ps[k])) (ps.drop (k + 1)) := by
  rw [List.drop_eq_getElem_cons hk, ofF]
theorem normB_len (b : List Int) : (normB b).length ≤ 12 := by
  unfold normB
  split
  · rename_i h; exact right_len h
  · simp
def madeTo (l : List Int) (k : Nat) : List (List Int) := (List.range k).map fun i => playBag (l.drop (4 * i + 4))
def madeN (l : List Int) : Nat := if 12 < l.length then 3 else if 8 < l.length then 2 else if 4 < l.length then 1 else 0
def madeL (l : List Int) : Lin := (ofLin (playBag l) (madeTo l (madeN l))).1
theorem madeTo_succ (l : List Int) (k : Nat) : madeTo l (k + 1) = madeTo l k ++ [playBag (l.drop (4 * k + 4))] := by
  unfold madeTo
  rw [List.range_succ, List.map_append]; rfl
theorem madeTo_length (l : List Int) (k : Nat) : (madeTo l k).length = k := by simp [madeTo]
theorem madeN_at {l : List Int} {k : Nat} (hk : k ≤ 3) (h0 : k = 0 ∨ 4 * k < l.length) (h : k = 3 ∨ l.length ≤ 4 * k + 4) : madeN l = k := by
  unfold madeN
  split
  · omega
  · split
    · omega
    · split <;> omega
theorem madeTo_len (l : List Int) (k : Nat) : ∀ p ∈ madeTo l k, p.length ≤ 12 := by
  intro p hp
  unfold madeTo at hp
  obtain ⟨i, _, rfl⟩ := List.mem_map.1 hp
  exact right_len (playBag_right _)
end Go.Cb
