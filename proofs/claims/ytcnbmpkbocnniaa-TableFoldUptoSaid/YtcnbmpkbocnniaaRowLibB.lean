/- What the rows' proofs of the second form use: slices, opened; their bulk. -/
import Derived.Test.YtcnbmpkbocnniaaRowLib
import Derived.Test.YtcnbmpkbocnniaaRows
import Derived.JoinedCond
import Derived.Deep.CondSized
namespace Go.Cb
open Go.ChangeShapes Go.WideShapes Go.RowKit
theorem open_rdB {H : Type} {enc : TypeId × Value → H} {P : Program} {W : World} {base : Nat} {spare : Nat → Bool} {held : Bool} {t e : TypeId} {k : IntKind} {a : Option Addr} {len cap : Nat} {d : DataW H} {ps : List MemPlace} {ts : List TypeId} {ds : List (DataW H)} {j : Nat}
    (hsz : (DataW.weightsEach P ts ds).all (· ≤ reachBytes) = true) (ht : ts[j]? = some t) (hd : ds[j]? = some d) (hu : P.underlying t = some (.slice e)) (he : P.underlying e = some (.int k)) (hc : P.cellsOf e = 1) (hB : P.bytesOf e = 8)
    (h : DataW.Trod enc P W base spare held t (.slice a len cap) d ps) :
    ∃ l : List Int, len = l.length ∧ Rd (scalar (Value.int k) (fun _ => rfl)) W All a cap l ∧ (∀ x ∈ l, (Lit.int k x).wf = true) ∧ l.length * 8 ≤ 140737488351232 ∧ (l = [] ∨ ∃ elems spare, d = .slice elems spare ∧ elems.length = l.length) := by
  obtain ⟨fuel, hf⟩ := h
  rcases open_ints hu he hc hf with ⟨hcs, _⟩ | ⟨x, n, c, zs, hcs, _, hl, hm, hz, hx, hcell, hwf⟩
  · simp [Value.cells] at hcs
    obtain ⟨rfl, rfl, rfl⟩ := hcs
    exact ⟨[], rfl, Rd.nil _ _ _ _ _ (by simp [maxLen]), by simp, by simp, .inl rfl⟩
  · simp [Value.cells] at hcs
    obtain ⟨rfl, rfl, rfl⟩ := hcs
    obtain ⟨hx, _⟩ := Prod.mk.inj hx
    subst hx
    have hl2 : len ≤ zs.length := by
      rw [hz]
      split
      · exact hl
      · exact Nat.le_refl _
    have hlen : (zs.take len).length = len := by simp; omega
    refine ⟨zs.take len, hlen.symm, ⟨by omega, hm, fun i y hy => ?_⟩, fun y hy => hwf y (List.mem_of_mem_take hy), ?_, .inr ⟨_, _, rfl, by simp [lits]⟩⟩
    · have hi : i < len := by have := (List.getElem?_eq_some_iff.1 hy).1; omega
      rw [List.getElem?_take, if_pos hi] at hy
      refine ⟨x, [.int k y], rfl, trivial, rfl, fun i' u hu' => ?_⟩
      cases i' with
      | succ i' => simp at hu'
      | zero =>
        have hu2 : u = .int k y := by simpa using hu'.symm
        subst hu2
        have := hcell i (by omega)
        rw [List.getD_eq_getElem?_getD, hy] at this
        simpa [scalar] using this
    · have z := sized_slice hsz ht hd hu
      rw [hB] at z
      have h1 : (lits (H := H) k (zs.take len)).length + (lits (H := H) k (zs.drop len)).length = zs.length := by
        simp [lits]
        omega
      rw [h1] at z
      rw [hlen]
      exact Nat.le_trans (Nat.mul_le_mul_right _ hl2) z
end Go.Cb
namespace Go.Proofs.Ytcnbmpkbocnniaa
open Go.Cb
theorem bulk_one {H : Type} (d : DataW H) : 1 ≤ Rows.uptoBulk d := by
  cases d with
  | lit l => cases l <;> simp [Rows.uptoBulk]
  | nil => simp [Rows.uptoBulk]
  | ptr d => simp [Rows.uptoBulk]
  | slice elems spare => simp [Rows.uptoBulk]
  | agg parts => simp [Rows.uptoBulk]
  | iface t d => simp [Rows.uptoBulk]
  | map entries => simp [Rows.uptoBulk]
  | held h => simp [Rows.uptoBulk]
theorem bulk_all {H : Type} : ∀ l : List (DataW H), l.length ≤ Rows.uptoBulkAll l
  | [] => by simp [Rows.uptoBulkAll]
  | x :: r => by
    have := bulk_one x
    have := bulk_all r
    simp only [Rows.uptoBulkAll, List.length_cons]
    omega
theorem bulk_len {H : Type} {d : DataW H} {l : List Int} (h : l = [] ∨ ∃ elems spare, d = .slice elems spare ∧ elems.length = l.length) : l.length ≤ Rows.uptoBulk d := by
  rcases h with rfl | ⟨elems, spare, rfl, he⟩
  · simp
  · have := bulk_all elems
    simp only [Rows.uptoBulk]
    omega
end Go.Proofs.Ytcnbmpkbocnniaa
