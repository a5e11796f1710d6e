/- The library: slices of slices; pairs. -/
import Derived.Test.YtjhnenineachaaaLib2
set_option linter.unusedVariables false
set_option linter.unusedSimpArgs false
set_option linter.all false
namespace Go.Cb
open Go.RowKit
def bagT : Ty (List Int) := sl intT
def bagsT : Ty (List (List Int)) := sl bagT
def linT : Ty (List Int × List (List Int)) := two bagT bagsT
theorem Rd.row {α : Type} {d : Ty α} {w : World} {S : Nat → Prop} {A : Option Addr} {c : Nat} {xs : List (List α)} (h : Rd (sl d) w S A c xs) {k : Nat} (hk : k < xs.length) :
    ∃ ad B cb, A = some ad ∧ w.cell? (ad.add k) = some (.slice B xs[k].length cb) ∧ Rd d w S B cb xs[k] := by
  obtain ⟨ad, cs, e, ⟨B, cb, he, hr⟩, hc⟩ := h.get (List.getElem?_eq_getElem hk)
  refine ⟨ad, B, cb, e, ?_, hr⟩
  have := hc 0 (.slice B xs[k].length cb) (by rw [he]; rfl)
  simpa [sl] using this
theorem lin_rd {w : World} {S : Nat → Prop} {l : List Int × List (List Int)} {cs : List Value} (h : linT.rd w S l cs) :
    ∃ A0 c0 A1 c1, cs = [.slice A0 l.1.length c0, .slice A1 l.2.length c1] ∧ Rd intT w S A0 c0 l.1 ∧ Rd bagT w S A1 c1 l.2 := by
  obtain ⟨x, y, rfl, ⟨A0, c0, rfl, h0⟩, ⟨A1, c1, rfl, h1⟩⟩ := h
  exact ⟨A0, c0, A1, c1, rfl, h0, h1⟩
theorem lin_mk {w : World} {S : Nat → Prop} {b : List Int} {ps : List (List Int)} {A0 A1 : Option Addr} {c0 c1 : Nat} (h0 : Rd intT w S A0 c0 b) (h1 : Rd bagT w S A1 c1 ps) :
    linT.rd w S (b, ps) [.slice A0 b.length c0, .slice A1 ps.length c1] :=
  ⟨[_], [_], rfl, ⟨A0, c0, rfl, h0⟩, ⟨A1, c1, rfl, h1⟩⟩
theorem Ty.rdNil {α : Type} (d : Ty α) {W : World} {S S' : Nat → Prop} (h : ∀ k, S' k → k < W.heap.size → S k) : ∀ x cs, d.rd W S' x cs → d.rd W (fun k => S k ∧ some k ≠ (Value.slice none 0 0).ownBlock) x cs :=
  d.rdS (fun k h1 h2 => ⟨h k h1 h2, fun e => absurd (show some k = none from e) (by simp)⟩)
theorem Rd.drop_nil {α : Type} (d : Ty α) (w : World) (S : Nat → Prop) (A : Option Addr) (c : Nat) (xs : List α) (hc : c ≤ maxLen) : Rd d w S A c (xs.drop xs.length) := by
  rw [List.drop_eq_nil_of_le (Nat.le_refl _)]
  exact Rd.nil d w S A c hc
/-- At block g lie two values. -/
def Box (w : World) (t : TypeId) (g : Nat) (a b : Value) : Prop := w.heap[g]? = some (.cells #[a, b] t (0, 0))
theorem Box.cells {w : World} {t : TypeId} {g : Nat} {a b : Value} (h : Box w t g a b) : w.cell? ⟨g, 0, none⟩ = some a ∧ w.cell? ⟨g, 1, none⟩ = some b ∧ w.frozen? ⟨g, 0, none⟩ = false ∧ w.frozen? ⟨g, 1, none⟩ = false :=
  ⟨cellAt h 0, cellAt h 1, frozenAt h 0, frozenAt h 1⟩
theorem Box.lt {w : World} {t : TypeId} {g : Nat} {a b : Value} (h : Box w t g a b) : g < w.heap.size := blk_lt h
theorem Box.to {w w' : World} {t : TypeId} {g : Nat} {a b : Value} (h : Box w t g a b) (hb : Bel w w') : Box w' t g a b := (hb.block h.lt).trans h
theorem Box.other {w w' : World} {t : TypeId} {g g' : Nat} {a b : Value} (h : Box w t g a b) (hu : Upd g' w w') (hne : g ≠ g') : Box w' t g a b := (hu.block g hne).trans h
theorem Box.set0 {w : World} {t : TypeId} {g : Nat} {a b : Value} (h : Box w t g a b) (v : Value) : Box (w.setCell ⟨g, 0, none⟩ v) t g v b := by
  unfold Box at *
  simp [World.setCell, Array.getElem?_modify, h]
theorem Box.set1 {w : World} {t : TypeId} {g : Nat} {a b : Value} (h : Box w t g a b) (v : Value) : Box (w.setCell ⟨g, 1, none⟩ v) t g a v := by
  unfold Box at *
  simp [World.setCell, Array.getElem?_modify, h]
theorem Box.new (w : World) (t : TypeId) (a b : Value) : Box (w.alloc (.cells #[a, b] t)) t w.heap.size a b := heap_alloc_new w _
theorem Rd.upd {α : Type} {d : Ty α} {w w' : World} {S : Nat → Prop} {A : Option Addr} {c g : Nat} {xs : List α} (h : Rd d w S A c xs) (hu : Upd g w w') (hg : ¬ S g) : Rd d w' S A c xs :=
  h.step' (fun k hk => hu.block k (fun e => hg (e ▸ hk)))
theorem Upd.one (w : World) (g i : Nat) (v : Value) : Upd g w (w.setCell ⟨g, i, none⟩ v) := (Upd.refl g w).set rfl v
theorem Own.rdOne {α : Type} {enc : α → Value} {h1 : ∀ x, (enc x).oneCell' = true} {e : TypeId} {w : World} {base : Nat} {S : Nat → Prop} {v : Value} {xs : List α} (h : Own (scalar enc h1) e w base S v xs) :
    ∃ A c, v = .slice A xs.length c ∧ Rd (scalar enc h1) w (fun k => base ≤ k ∧ k < w.heap.size) A c xs := by
  obtain ⟨A, c, e, hr⟩ := (h.any (S' := fun _ => False)).rd
  refine ⟨A, c, e, hr.mono (fun k hk => ?_)⟩
  rcases hk with hk | hk
  · exact hk.elim
  · exact ⟨h.ge hk.symm, h.lt hk.symm⟩
theorem results_cell1 {fn : Func} {p : Tmp} {ty : TypeId} (h : fn.results = #[.cell p ty]) (tmps : Array Value) (P : Program) (w : World) :
    (results fn tmps).run P w = ((asAddr (tmps.getD p undef)).run P w).andThen fun a w₁ => (loadVar ty a).run P w₁ := by
  simp only [results, h]
  simp [Sem.run_bind, Result.andThen]
end Go.Cb
