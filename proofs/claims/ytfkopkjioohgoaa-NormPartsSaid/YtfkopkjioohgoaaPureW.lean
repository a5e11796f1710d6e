/- The plain law: what powers of small sets ask for, by a budget. -/
import Derived.Test.YtfkopkjioohgoaaPureL
set_option linter.unusedVariables false
set_option linter.unusedSimpArgs false
set_option linter.all false
namespace Go.Cb
open Go.RowKit
theorem spendM_some (b s : Int) (o : Bool) (n : Int) : spendM (some (b, s, o)) n = (some (b, spendS b s o n, spendO b s o n), spendOk b s o n) := rfl
theorem spendOk_yes {b s : Int} {o : Bool} {n : Int} (hn : 0 ≤ n) (h : spendOk b s o n = true) : n ≤ b - s ∧ spendS b s o n = s + n := by
  unfold spendS
  rw [h]
  simp [spendOk] at h
  constructor
  · omega
  · show s + max n 0 = _
    omega
theorem catS_bud (b s : Int) (o : Bool) (h : s ≤ b) (x y : SemS) : ∃ s' o', (catS (some (b, s, o)) x y).1 = some (b, s', o') ∧ s ≤ s' ∧ s' ≤ b := by
  have h1 := spendS_range o ((x.length * y.length : Nat) : Int) h
  unfold catS
  split
  · split
    · split
      · exact ⟨_, _, rfl, h1.1, h1.2⟩
      · exact ⟨_, _, rfl, h1.1, h1.2⟩
    · exact ⟨_, _, rfl, h1.1, h1.2⟩
  · exact ⟨_, _, rfl, Int.le_refl _, h⟩
theorem starS_bud (b s : Int) (o : Bool) (h : s ≤ b) (x : SemS) : ∃ s' o', (starS (some (b, s, o)) x).1 = some (b, s', o') ∧ s ≤ s' ∧ s' ≤ b := by
  have h1 := spendS_range o ((x.length : Nat) : Int) h
  unfold starS
  split
  · split
    · exact ⟨_, _, rfl, h1.1, h1.2⟩
    · exact ⟨_, _, rfl, h1.1, h1.2⟩
  · exact ⟨_, _, rfl, Int.le_refl _, h⟩
theorem catS_yes {st : MSt} {a b : SemS} (h : (catS st a b).2.2 = 0) : (spendM st (a.length * b.length : Nat)).2 = true ∧ catS st a b = ((spendM st (a.length * b.length : Nat)).1, (ofS ((prodL a b).map (fun p => p.1))).1, 0) := by
  unfold catS at h ⊢
  split at h
  · rename_i h1
    split at h
    · rename_i h2
      split at h
      · rename_i h3
        rw [if_pos h1, if_pos h2, if_pos h3]
        exact ⟨h2, rfl⟩
      · cases h
    · cases h
  · cases h
/-- The powers of a small one, by a budget: how great they are. -/
theorem powF_work {y : SemS} (hy : ∀ v ∈ y, v.2.length ≤ 8) {b : Int} : ∀ (k : Nat) (s : Int) (o : Bool), 0 ≤ s → s ≤ b → (powF y k (some (b, s, o))).2.2 = 0 →
    ∃ s' o', (powF y k (some (b, s, o))).1 = some (b, s', o') ∧ s ≤ s' ∧ s' ≤ b ∧ (((powF y k (some (b, s, o))).2.1.length : Int) ≤ 1 + b) ∧ ∀ u ∈ (powF y k (some (b, s, o))).2.1, u.2.length ≤ 8 * k ∧ (k : Int) ≤ s' - s
  | 0, s, o, h0, h1, _ => ⟨s, o, rfl, Int.le_refl _, h1, by show ((1 : Nat) : Int) ≤ _; omega, fun u hu => by
      obtain rfl : u = ([], []) := by simpa [powF, oneS] using hu
      exact ⟨Nat.zero_le _, by omega⟩⟩
  | k + 1, s, o, h0, h1, he => by
    by_cases hk : (powF y k (some (b, s, o))).2.2 = 0
    · obtain ⟨s1, o1, e1, l1, l2, l3, l4⟩ := powF_work hy k s o h0 h1 hk
      have hp : powF y (k + 1) (some (b, s, o)) = catS (some (b, s1, o1)) (powF y k (some (b, s, o))).2.1 y := by rw [powF, if_pos hk, e1]
      rw [hp] at he ⊢
      obtain ⟨a, ha⟩ : ∃ a, (powF y k (some (b, s, o))).2.1 = a := ⟨_, rfl⟩
      rw [ha] at he l3 l4 ⊢
      obtain ⟨c1, c2⟩ := catS_yes he
      rw [c2]
      rw [spendM_some] at c1 ⊢
      obtain ⟨d1, d2⟩ := spendOk_yes (by omega) c1
      have hl := ofS_length ((prodL a y).map (fun p => p.1))
      rw [List.length_map, prodL_length] at hl
      refine ⟨_, _, rfl, by omega, by omega, ?_, fun u hu => ?_⟩
      · show (((ofS ((prodL a y).map (fun p => p.1))).1.length : Nat) : Int) ≤ _
        omega
      · obtain ⟨p, hp1, rfl⟩ := List.mem_map.1 (ofS_mem hu)
        obtain ⟨x, hx, z, hz, rfl⟩ := prodL_mem hp1
        have g1 := catL_len x z
        obtain ⟨g2, g3⟩ := l4 x hx
        have g4 := hy z hz
        have g5 : 1 ≤ a.length * y.length := Nat.mul_pos (List.length_pos_of_mem hx) (List.length_pos_of_mem hz)
        exact ⟨by omega, by omega⟩
    · have h2 := (powF_bad hk 1).2
      rw [h2] at he
      exact absurd he hk
theorem pow_work {y : SemS} (hy : ∀ v ∈ y, v.2.length ≤ 8) (hy6 : y.length ≤ 6) {b s : Int} {o : Bool} (h0 : 0 ≤ s) (h1 : s ≤ b) (hb : b ≤ 400) (k : Nat) (he : (powF y k (some (b, s, o))).2.2 = 0) :
    CatFit (powF y k (some (b, s, o))).1 (powF y k (some (b, s, o))).2.1 y := by
  obtain ⟨s', o', e1, l1, l2, l3, l4⟩ := powF_work hy k s o h0 h1 he
  refine ⟨by omega, by omega, fun _ => ?_, fun u hu v hv => ?_⟩
  · exact Nat.le_trans (Nat.mul_le_mul (show _ ≤ 401 by omega) hy6) (by decide)
  · obtain ⟨g1, g2⟩ := l4 u hu
    have := hy v hv
    omega
theorem powF_bud (y : SemS) (b : Int) : ∀ (k : Nat) (s : Int) (o : Bool), s ≤ b → ∃ s' o', (powF y k (some (b, s, o))).1 = some (b, s', o') ∧ s ≤ s' ∧ s' ≤ b
  | 0, s, o, h1 => ⟨s, o, rfl, Int.le_refl _, h1⟩
  | k + 1, s, o, h1 => by
    obtain ⟨s1, o1, e1, l1, l2⟩ := powF_bud y b k s o h1
    rw [powF]
    split
    · rw [e1]
      obtain ⟨s2, o2, e2, l3, l4⟩ := catS_bud b s1 o1 l2 (powF y k (some (b, s, o))).2.1 y
      exact ⟨s2, o2, e2, by omega, l4⟩
    · exact ⟨s1, o1, e1, l1, l2⟩
theorem powS_bud (b s : Int) (o : Bool) (h : s ≤ b) (y : SemS) (n : Int) : ∃ s' o', (powS (some (b, s, o)) y n).1 = some (b, s', o') ∧ s ≤ s' ∧ s' ≤ b := by
  unfold powS
  split
  · split
    · exact powF_bud y b _ s o h
    · exact powF_bud y b _ s o h
  · exact ⟨s, o, rfl, Int.le_refl _, h⟩
/-- A budget, where it lies. -/
theorem MetO.at1 {w : World} {t : TypeId} {v : Value} {mb : Option Nat} {b s : Int} {o : Bool} (h : MetO w t v mb (some (b, s, o))) {g : Nat} (hv : v = .pointer (some ⟨g, 0, none⟩)) : Met w t g b s o ∧ 0 ≤ s ∧ s ≤ b ∧ b ≤ 9223372036854775807 := by
  subst hv
  obtain ⟨g', e1, e2, h⟩ := h
  injection e1 with e1
  injection e1 with e1
  injection e1 with e1
  subst e1
  exact h
theorem MetO.of1 {w : World} {t : TypeId} {g : Nat} {b s : Int} {o : Bool} (h : Met w t g b s o) (h0 : 0 ≤ s) (h1 : s ≤ b) (h2 : b ≤ 9223372036854775807) : MetO w t (.pointer (some ⟨g, 0, none⟩)) (some g) (some (b, s, o)) := ⟨g, rfl, rfl, h, h0, h1, h2⟩
/-- A budget stays where another's is spent. -/
theorem Met.by_ {w w' : World} {t : TypeId} {g g' : Nat} {b s : Int} {o : Bool} (h : Met w t g b s o) (hg : w.grownBy w' (some g')) (hne : g ≠ g') : Met w' t g b s o :=
  (hg.block g h.lt (fun e => by injection e with e; exact hne e)).trans h
end Go.Cb
