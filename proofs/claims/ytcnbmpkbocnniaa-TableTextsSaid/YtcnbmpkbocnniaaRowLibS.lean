/- What the rows' proofs use: slices of texts, opened. -/
import Derived.Test.YtcnbmpkbocnniaaRowLib
import Derived.SliceStrings
namespace Go.Cb
open Go.ChangeShapes Go.WideShapes Go.RowKit
theorem open_rdS {H : Type} {enc : TypeId × Value → H} {P : Program} {W : World} {base : Nat} {spare : Nat → Bool} {held : Bool} {t e : TypeId} {a : Option Addr} {len cap : Nat} {d : DataW H} {ps : List MemPlace} {ts : List TypeId} {ds : List (DataW H)} {j : Nat}
    (hsz : (DataW.weightsEach P ts ds).all (· ≤ reachBytes) = true) (ht : ts[j]? = some t) (hd : ds[j]? = some d) (hu : P.underlying t = some (.slice e)) (he : P.underlying e = some .string) (hc : P.cellsOf e = 1) (hB : P.bytesOf e = 16)
    (h : DataW.Trod enc P W base spare held t (.slice a len cap) d ps) :
    ∃ l : List ByteArray, len = l.length ∧ Rd strT W All a cap l ∧ l.length * 16 ≤ 140737488355328 := by
  obtain ⟨fuel, hf⟩ := h
  rcases open_strings hu he hc hf with ⟨hcs, _⟩ | ⟨x, n, c, zs, hcs, _, hl, hm, hz, hx, hcell, hwf⟩
  · simp [Value.cells] at hcs
    obtain ⟨rfl, rfl, rfl⟩ := hcs
    exact ⟨[], rfl, Rd.nil _ _ _ _ _ (by simp [maxLen]), by simp⟩
  · simp [Value.cells] at hcs
    obtain ⟨rfl, rfl, rfl⟩ := hcs
    obtain ⟨hx, _⟩ := Prod.mk.inj hx
    subst hx
    have hl2 : len ≤ zs.length := by
      rw [hz]
      split
      · exact hl
      · exact Nat.le_refl _
    have hlen : (zs.take len).length = len := by simp; omega
    refine ⟨zs.take len, hlen.symm, ⟨by omega, hm, fun i y hy => ?_⟩, ?_⟩
    · have hi : i < len := by have := (List.getElem?_eq_some_iff.1 hy).1; omega
      rw [List.getElem?_take, if_pos hi] at hy
      refine ⟨x, [.string y], rfl, trivial, rfl, fun i' u hu' => ?_⟩
      cases i' with
      | succ i' => simp at hu'
      | zero =>
        have hu2 : u = .string y := by simpa using hu'.symm
        subst hu2
        have := hcell i (by omega)
        rw [List.getD_eq_getElem?_getD, hy] at this
        simpa [strT, scalar] using this
    · have z := sized_slice hsz ht hd hu
      rw [hB] at z
      have h1 : (strs (H := H) (zs.take len)).length + (strs (H := H) (zs.drop len)).length = zs.length := by
        simp [strs]
        omega
      rw [h1] at z
      rw [hlen]
      have : len * 16 ≤ 140737488351232 := Nat.le_trans (Nat.mul_le_mul_right _ hl2) z
      omega
end Go.Cb
