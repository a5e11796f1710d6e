/- Walks for TablePlays: a plain list beside a table. -/
import Derived.Test.YtamihjibdcccmaaTab9
import Derived.Test.YtamihjibdcccmaaCB
set_option linter.unusedVariables false
set_option linter.unusedSimpArgs false
set_option linter.all false
namespace Go.Cb
open Go.RowKit
def keptT : Ty (Int × Int) := two intT intT
theorem kept_rd {w : World} {S : Nat → Prop} {x : Int × Int} {cs : List Value} : keptT.rd w S x cs ↔ cs = [.int .i64 x.1, .int .i64 x.2] := by
  constructor
  · rintro ⟨c0, c1, rfl, h0, h1⟩
    have e0 : c0 = [Value.int .i64 x.1] := h0
    have e1 : c1 = [Value.int .i64 x.2] := h1
    rw [e0, e1]; rfl
  · rintro rfl
    exact ⟨[_], [_], rfl, rfl, rfl⟩
theorem flat2_of {inner : List Value} : ∀ {xs : List (Int × Int)}, inner.length = xs.length * 2 → (∀ j x, xs[j]? = some x → (inner.drop (j * 2)).take 2 = [.int .i64 x.1, .int .i64 x.2]) → inner = flat2 (Value.int .i64) (Value.int .i64) xs := by
  intro xs
  induction xs generalizing inner with
  | nil => intro hl _; exact List.eq_nil_of_length_eq_zero (by simpa using hl)
  | cons x xs ih =>
    intro hl hr
    rw [List.length_cons] at hl
    rcases inner with _ | ⟨a, _ | ⟨b, inner⟩⟩
    · simp at hl
    · simp at hl; omega
    · have h0 := hr 0 x rfl
      simp at h0
      rw [flat2_cons, ← ih (inner := inner) (by simp at hl; omega) (fun j y hy => by
        have := hr (j + 1) y (by simpa using hy)
        rw [show (j + 1) * 2 = j * 2 + 1 + 1 by omega] at this
        simpa using this), h0.1, h0.2]
theorem kept_row {e : TypeId} {w : World} {base : Nat} {S : Nat → Prop} {v : Value} {xs : List (Int × Int)} (h : Own keptT e w base S v xs) : RowP (Value.int .i64) (Value.int .i64) e w base v xs := by
  obtain ⟨inner, ho, hr⟩ := h
  have hl := ho.1
  have e1 := flat2_of hl (fun j x hj => kept_rd.1 (hr j x hj))
  unfold RowP
  rw [← e1]
  exact ho
theorem kept_own {e : TypeId} {w : World} {base : Nat} {S : Nat → Prop} {v : Value} {xs : List (Int × Int)} (h : RowP (Value.int .i64) (Value.int .i64) e w base v xs) : Own keptT e w base S v xs := by
  refine ⟨_, h, fun j x hj => kept_rd.2 ?_⟩
  show ((flat2 _ _ xs).drop (j * 2)).take 2 = _
  have hlt := (List.getElem?_eq_some_iff.1 hj).1
  rw [flat2_drop, List.drop_eq_getElem_cons hlt, flat2_cons, (List.getElem?_eq_some_iff.1 hj).2]
  rfl
theorem RowP.prefix_ {κ β : Type} {eK : κ → Value} {eV : β → Value} {e : TypeId} {w : World} {base g n c : Nat} {xs : List (κ × β)} (h : RowP eK eV e w base (.slice (some ⟨g, 0, none⟩) n c) xs) (hn : n = xs.length) {i : Nat} (hi : i ≤ n) : RowP eK eV e w base (.slice (some ⟨g, 0, none⟩) i c) (xs.take i) := by
  subst hn
  have h1 := ownsRow_prefix h hi
  unfold RowP
  rw [← flat2_take, List.length_take, Nat.min_eq_left hi]
  exact h1
theorem Tab.grown {κ β : Type} {eK : κ → Value} {eV : β → Value} {T e : TypeId} {w w' : World} {base g : Nat} {v : Value} {xs : List (κ × β)} {row : Option Nat} (h : Tab eK eV T e w base g v xs) (hg : w.grownBy w' row) (h1 : row ≠ some g) (h2 : ∀ q, v.ownBlock = some q → row ≠ some q) : Tab eK eV T e w' base g v xs :=
  ⟨(hg.block g h.lt (fun e => h1 e.symm)).trans h.box, h.low, h.row.step (fun k hk => hg.block k (World.ownsRow.lt h.row k hk).2 (fun e => h2 k hk e.symm)), h.ne⟩
theorem cmpI_ltd {a b : Int} : decide (a < b) = decide (cmpI a b < 0) := by
  have := cmpI_neg1 (a := a) (b := b)
  have := cmpI_range a b
  by_cases h : a < b
  · rw [decide_eq_true h, decide_eq_true]
    have := this; rw [cmpI_lt h]; omega
  · rw [decide_eq_false h, decide_eq_false]
    intro h2
    have e : cmpI a b = -1 := by omega
    exact h (cmpI_neg1.1 e)
end Go.Cb
namespace Go.Proofs.Ytamihjibdcccmaa
open Go.RowKit Go.Cb
end Go.Proofs.Ytamihjibdcccmaa
