/- The library, more. -/
import Derived.Test.YtjhnenineachaaaLib
set_option linter.unusedVariables false
set_option linter.unusedSimpArgs false
set_option linter.all false
namespace Go.Cb
open Go.RowKit
theorem Rd.ofBlock {α : Type} {enc : α → Value} {h1 : ∀ x, (enc x).oneCell' = true} {w : World} {g : Nat} {e : TypeId} {fr : Nat × Nat} (xs : List α) (c : Nat) (h : w.heap[g]? = some (.cells (xs.map enc).toArray e fr)) (hc : xs.length ≤ c) (hm : c ≤ maxLen) :
    Rd (scalar enc h1) w All (some ⟨g, 0, none⟩) c xs := by
  refine ⟨hc, hm, fun j x hj => ⟨⟨g, 0, none⟩, [enc x], rfl, trivial, rfl, fun i u hu => ?_⟩⟩
  cases i with
  | succ i => simp at hu
  | zero =>
    have hu2 : u = enc x := by simpa using hu.symm
    subst hu2
    rw [add_plain, cellAt h]
    simp [scalar, hj]
theorem Rd.lit {α : Type} {enc : α → Value} {h1 : ∀ x, (enc x).oneCell' = true} (W : World) (e : TypeId) (xs : List α) (hm : xs.length ≤ maxLen) :
    Rd (scalar enc h1) (W.alloc (.cells (xs.map enc).toArray e)) All (some ⟨W.heap.size, 0, none⟩) xs.length xs :=
  Rd.ofBlock xs xs.length (heap_alloc_new W _) (Nat.le_refl _) hm
/-- Nothing but draws lies between. -/
def Dr (w w' : World) : Prop := ∃ q, w' = w.drewN q
theorem Dr.refl (w : World) : Dr w w := ⟨0, rfl⟩
theorem Dr.drewN {w w' : World} (h : Dr w w') (n : Nat) : Dr w (w'.drewN n) := by obtain ⟨q, rfl⟩ := h; exact ⟨q + n, World.drewN_drewN _ _ _⟩
theorem Dr.trans {a b c : World} (h : Dr a b) (k : Dr b c) : Dr a c := by obtain ⟨q, rfl⟩ := k; exact h.drewN q
theorem Dr.bel {w w' : World} (h : Dr w w') : Bel w w' := by obtain ⟨q, rfl⟩ := h; exact (Bel.refl _).drewN q
/-- Two boxed parameters. -/
theorem twoBoxes (w : World) (a b : Array Value) (t : TypeId) :
    Bel w ((w.alloc (.cells a t)).alloc (.cells b t)) ∧ (∀ i, ((w.alloc (.cells a t)).alloc (.cells b t)).cell? ⟨w.heap.size, i, none⟩ = a[i]?) ∧
    (∀ i, ((w.alloc (.cells a t)).alloc (.cells b t)).cell? ⟨w.heap.size + 1, i, none⟩ = b[i]?) ∧ ((w.alloc (.cells a t)).alloc (.cells b t)).heap.size = w.heap.size + 2 := by
  refine ⟨((Bel.refl _).alloc _).alloc _, fun i => ?_, fun i => ?_, ?_⟩
  · exact (World.cell?_of_block (((Bel.refl (w.alloc (.cells a t))).alloc (.cells b t)).block (by simp))).trans (cellAt (heap_alloc_new w _) i)
  · rw [show w.heap.size + 1 = (w.alloc (.cells a t)).heap.size by simp]
    exact cellAt (heap_alloc_new _ _) i
  · simp
end Go.Cb
