/- The library: worlds whose numbers alone have turned, in blocks from s on; blocks may have been made. -/
import Derived.Test.YtghdleofbkalbaaCat2
namespace Go.Cb
open Go.RowKit
structure Shp (s : Nat) (w w' : World) : Prop where
  os : w'.os = w.os
  tape : w'.tape = w.tape
  output : w'.output = w.output
  size : w.heap.size ≤ w'.heap.size
  block : ∀ k, k < s → w'.heap[k]? = w.heap[k]?
  cells : ∀ a v, w.cell? a = some v → (∀ i, v ≠ .int .i64 i) → w'.cell? a = some v
  ints : ∀ a i, w.cell? a = some (.int .i64 i) → ∃ j, w'.cell? a = some (.int .i64 j)
  frz : ∀ (a : Addr) v, w.cell? a = some v → w'.frozen? a = w.frozen? a
section
variable {s : Nat} {w w' a b c : World}
theorem Shp.refl (s : Nat) (w : World) : Shp s w w := ⟨rfl, rfl, rfl, Nat.le_refl _, fun _ _ => rfl, fun _ _ h _ => h, fun _ i h => ⟨i, h⟩, fun _ _ _ => rfl⟩
theorem Shp.has (h : Shp s a b) {x : Addr} {v : Value} (hx : a.cell? x = some v) : ∃ u, b.cell? x = some u := by
  by_cases e : ∃ i, v = .int .i64 i
  · obtain ⟨i, rfl⟩ := e
    obtain ⟨j, hj⟩ := h.ints x i hx
    exact ⟨_, hj⟩
  · exact ⟨v, h.cells x v hx (fun i e3 => e ⟨i, e3⟩)⟩
theorem Shp.trans (h : Shp s a b) (k : Shp s b c) : Shp s a c :=
  ⟨k.os.trans h.os, k.tape.trans h.tape, k.output.trans h.output, Nat.le_trans h.size k.size, fun i hi => (k.block i hi).trans (h.block i hi), fun x v hx hn => k.cells x v (h.cells x v hx hn) hn,
    fun x i hx => let ⟨j, hj⟩ := h.ints x i hx; k.ints x j hj, fun x v hx => by
      obtain ⟨u, hu⟩ := h.has hx
      exact (k.frz x u hu).trans (h.frz x v hx)⟩
theorem Shp.of (h : Bel a b) (hs : s ≤ a.heap.size) : Shp s a b :=
  ⟨h.out.os, h.out.tape, h.out.output, h.size, fun k hk => h.block (by omega), fun x v hx _ => cell_keep hx (h.block (World.block_lt_of_cell? a x hx)), fun x i hx => ⟨i, cell_keep hx (h.block (World.block_lt_of_cell? a x hx))⟩,
    fun x v hx => World.frozen?_of_block (w := a) (h.block (World.block_lt_of_cell? a x hx))⟩
theorem Shp.set {g i : Nat} {n m : Int} (hg : s ≤ g) (hc : w.cell? ⟨g, i, none⟩ = some (.int .i64 n)) : Shp s w (w.setCell ⟨g, i, none⟩ (.int .i64 m)) :=
  ⟨rfl, rfl, rfl, by simp [World.setCell], fun k hk => Below.heap_setCell w ⟨g, i, none⟩ _ k (by simp only; omega), fun x v hx hn => by
    by_cases e : (⟨g, i, none⟩ : Addr) = x
    · subst e
      rw [hc] at hx
      injection hx with hx
      exact absurd hx.symm (hn n)
    · rw [World.cell?_setCell_other _ _ _ _ e]; exact hx,
    fun x j hx => by
      by_cases e : (⟨g, i, none⟩ : Addr) = x
      · subst e
        exact ⟨m, World.cell?_setCell_same _ _ _ hx⟩
      · exact ⟨j, by rw [World.cell?_setCell_other _ _ _ _ e]; exact hx⟩,
    fun x v hx => World.frozen?_setCell _ _ _ _⟩
/-- A row of words that was, in a world whose numbers alone have turned: it has as many words, as long as they were, and they may be written to. -/
theorem Shp.slot {A : Option Addr} {cp : Nat} {xs : List Int} (h : Shp s w w') (hr : RdW w (Ge s) A cp xs) {i : Nat} (hi : i < xs.length) : ∃ g j, A = some ⟨g, 0, none⟩ ∧ s ≤ g ∧ w'.cell? ⟨g, i, none⟩ = some (.int .i64 j) ∧ w'.frozen? ⟨g, i, none⟩ = false := by
  obtain ⟨g, rfl, hf⟩ := hr.wr i hi
  obtain ⟨ad, cs, e, hS, hcs, hc⟩ := hr.rd.2.2 i _ (List.getElem?_eq_getElem hi)
  injection e with e
  subst e
  have h2 : cs = [.int .i64 xs[i]] := hcs
  have h3 := hc 0 (.int .i64 xs[i]) (by rw [h2]; rfl)
  rw [add_plain, show i * intT.sz + 0 = i by simp [intT, scalar]] at h3
  obtain ⟨j, hj⟩ := h.ints _ _ h3
  exact ⟨g, j, rfl, hS, hj, (h.frz _ _ h3).trans hf⟩
theorem Rd.rowW {S : Nat → Prop} {A : Option Addr} {cp : Nat} {xs : List (List Int)} (h : Rd wbT w S A cp xs) {k : Nat} (hk : k < xs.length) :
    ∃ ad B cb, A = some ad ∧ w.cell? (ad.add k) = some (.slice B xs[k].length cb) ∧ RdW w S B cb xs[k] := by
  obtain ⟨ad, cs, e, ⟨B, cb, he, hr⟩, hc⟩ := h.get (List.getElem?_eq_getElem hk)
  refine ⟨ad, B, cb, e, ?_, hr⟩
  have := hc 0 (.slice B xs[k].length cb) (by rw [he]; rfl)
  simpa [wbT] using this
theorem Rd.low {α : Type} {d : Ty α} {A : Option Addr} {cp : Nat} {xs : List α} (h : Rd d w (fun k => k < s) A cp xs) (hs : Shp s w w') : Rd d w' (fun k => k < s) A cp xs := h.step' (fun k hk => hs.block k hk)
theorem Bel.shp (h : Bel a b) (hs : Shp s b c) (ha : a.heap.size ≤ s) : Bel a c :=
  h.heap hs.os hs.tape hs.output hs.size (fun k hk => hs.block k (by omega))
theorem Box.low {t : TypeId} {g : Nat} {x y : Value} (h : Box w t g x y) (hs : Shp s w w') (hg : g < s) : Box w' t g x y := (hs.block g hg).trans h
end
end Go.Cb
