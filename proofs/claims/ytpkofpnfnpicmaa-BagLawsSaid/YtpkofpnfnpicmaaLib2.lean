/- The library, more. -/
import Derived.Test.YtpkofpnfnpicmaaLib
namespace Go.Cb
open Go.RowKit
theorem Rd.ofBlock {α : Type} {enc : α → Value} {h1 : ∀ x, (enc x).oneCell' = true} {w : World} {g : Nat} {e : TypeId} {fr : Nat × Nat} (xs : List α) (c : Nat) (h : w.heap[g]? = some (.cells (xs.map enc).toArray e fr)) (hc : xs.length ≤ c) (hm : c ≤ maxLen) :
    Rd (scalar enc h1) w All (some ⟨g, 0, none⟩) c xs := by
  refine ⟨hc, hm, fun j x hj => ⟨⟨g, 0, none⟩, [enc x], rfl, trivial, rfl, fun i u hu => ?_⟩⟩
  cases i with
  | succ i => simp at hu
  | zero =>
    have hu2 : u = enc x := by simpa using hu.symm
    subst hu2
    rw [add_plain, cellAt h]
    simp [scalar, hj]
theorem Rd.lit {α : Type} {enc : α → Value} {h1 : ∀ x, (enc x).oneCell' = true} (W : World) (e : TypeId) (xs : List α) (hm : xs.length ≤ maxLen) :
    Rd (scalar enc h1) (W.alloc (.cells (xs.map enc).toArray e)) All (some ⟨W.heap.size, 0, none⟩) xs.length xs :=
  Rd.ofBlock xs xs.length (heap_alloc_new W _) (Nat.le_refl _) hm
end Go.Cb
