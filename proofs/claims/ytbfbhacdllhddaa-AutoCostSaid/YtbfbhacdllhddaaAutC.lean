/- Plain laws: what a step costs. -/
import Derived.Test.YtbfbhacdllhddaaAutL
set_option linter.unusedVariables false
set_option linter.unusedSimpArgs false
set_option linter.all false
namespace Go.Cb
def costS (s : SemS) : Nat := (s.map fun x => 2 ^ x.2.length).sum
theorem costS_take {s : SemS} {k : Nat} {x : Lin} (h : s[k]? = some x) : costS (s.take (k + 1)) = costS (s.take k) + 2 ^ x.2.length := by
  unfold costS
  rw [List.take_add_one, h]; simp
theorem costS_le {s : SemS} (h : ∀ x ∈ s, x.2.length ≤ 8) : costS s ≤ s.length * 256 := by
  induction s with
  | nil => simp [costS]
  | cons x r ih =>
    have h1 := ih (fun y hy => h y (by simp [hy]))
    have h2 := (pow_8 (h x (by simp))).2
    unfold costS at h1 ⊢
    simp only [List.map_cons, List.sum_cons, List.length_cons]
    omega
theorem costI_start {s : SemS} (hr : rightS s = true) : costI s (startS s) = costS s := by
  have e : startS s = s.mapIdx fun j x => ((j : Int), x.1) := by unfold startS; rw [if_pos hr]
  have h : (s.mapIdx fun j x => ((j : Int), x.1)).map (fun x => 2 ^ (psOf s x).length) = s.map fun x => 2 ^ x.2.length := by
    apply List.ext_getElem
    · simp
    · intro i h1 h2
      have hi : i < s.length := by simpa using h2
      simp only [List.getElem_map, List.getElem_mapIdx]
      unfold psOf
      dsimp only
      rw [Int.toNat_natCast, getDs_of hi]
  unfold costI costS
  rw [e, h]
theorem next_pay {s : SemS} (hs : SetP s) {l : List Itm} (h : BoxI s l) (letter B : Int) :
    ((costI s l : Nat) ≤ B → ∃ l', nextS (some (B, 0, false)) s l letter = (some (B, ((costI s l : Nat) : Int), false), l', 0)) ∧
    (0 ≤ B → B < (costI s l : Nat) → ∃ st', nextS (some (B, 0, false)) s l letter = (st', [], 7)) := by
  have hr := h.right hs.right
  obtain ⟨p1, p2⟩ := itemsF_pay (s := s) (letter := letter) (B := B) l 0 [] (Int.le_refl _) (box_all hs h)
  constructor
  · intro hc
    obtain ⟨h1, h2⟩ := p1 (by omega)
    obtain ⟨st', acc, e0, hq⟩ : ∃ st' acc e0, itemsF s letter l (some (B, 0, false)) [] = (st', acc, e0) := ⟨_, _, _, rfl⟩
    rw [hq] at h1 h2
    dsimp only at h1 h2
    refine ⟨acc.foldl (putO cmpItem) [], ?_⟩
    have h3 : itemsF s letter l (some (B, 0, false)) [] = (some (B, ((costI s l : Nat) : Int), false), acc, 0) := by
      rw [hq, h1, h2, Int.zero_add]
    exact nextS_ok hr h3
  · intro h0 hc
    have h1 := p2 h0 (by omega)
    obtain ⟨st', acc, e0, hq⟩ : ∃ st' acc e0, itemsF s letter l (some (B, 0, false)) [] = (st', acc, e0) := ⟨_, _, _, rfl⟩
    rw [hq] at h1
    dsimp only at h1
    rw [h1] at hq
    exact ⟨_, nextS_bad hr hq (by decide)⟩
theorem MetO.at2 {w : World} {t : TypeId} {v : Value} {mb : Option Nat} {b s : Int} {o : Bool} (h : MetO w t v mb (some (b, s, o))) {g : Nat} (hv : v = .pointer (some ⟨g, 0, none⟩)) : Met w t g b s o ∧ 0 ≤ s ∧ s ≤ b ∧ b ≤ 9223372036854775807 := by
  subst hv
  obtain ⟨g', e1, e2, h⟩ := h
  injection e1 with e1
  injection e1 with e1
  injection e1 with e1
  subst e1
  exact h
theorem MetO.of2 {w : World} {t : TypeId} {g : Nat} {b s : Int} {o : Bool} (h : Met w t g b s o) (h0 : 0 ≤ s) (h1 : s ≤ b) (h2 : b ≤ 9223372036854775807) : MetO w t (.pointer (some ⟨g, 0, none⟩)) (some g) (some (b, s, o)) := ⟨g, rfl, rfl, h, h0, h1, h2⟩
/-- A budget stays where another's is spent. -/
theorem Met.by2 {w w' : World} {t : TypeId} {g g' : Nat} {b s : Int} {o : Bool} (h : Met w t g b s o) (hg : w.grownBy w' (some g')) (hne : g ≠ g') : Met w' t g b s o :=
  (hg.block g h.lt (fun e => by injection e with e; exact hne e)).trans h
end Go.Cb
