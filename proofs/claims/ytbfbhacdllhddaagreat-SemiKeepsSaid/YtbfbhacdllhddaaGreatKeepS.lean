/- The library: rows of linear sets that may be written to, in worlds whose numbers alone have turned. -/
import Derived.Test.YtbfbhacdllhddaaGreatMK
import Derived.Test.YtbfbhacdllhddaaGreatMG
set_option linter.unusedVariables false
set_option linter.unusedSimpArgs false
set_option linter.all false
namespace Go.Cb
open Go.RowKit
section
variable {s : Nat} {w w' : World}
/-- A slice's cell stays as it was. -/
theorem Shp.slc {a : Addr} {A : Option Addr} {n c : Nat} (h : Shp s w w') (hc : w.cell? a = some (.slice A n c)) : w'.cell? a = some (.slice A n c) := h.cells a _ hc (fun i e => by cases e)
/-- A row of sets: its k-th, in such a world. -/
theorem Shp.setAt {S : Nat → Prop} {A : Option Addr} {c : Nat} {xs : List SemS} (h : Shp s w w') (hr : Rd (sl wlinT) w S A c xs) {k : Nat} (hk : k < xs.length) :
    ∃ ad B cb, A = some ad ∧ w'.cell? (ad.add k) = some (.slice B xs[k].length cb) ∧ Rd wlinT w S B cb xs[k] := by
  obtain ⟨ad, B, cb, e, h1, h2⟩ := hr.row hk
  exact ⟨ad, B, cb, e, h.slc h1, h2⟩
/-- A row of linear sets: its k-th, in such a world. -/
theorem Shp.linAt {S : Nat → Prop} {A : Option Addr} {c : Nat} {xs : SemS} (h : Shp s w w') (hr : Rd wlinT w S A c xs) {k : Nat} (hk : k < xs.length) :
    ∃ ad A0 c0 A1 c1, A = some ad ∧ w'.cell? (ad.add (k * 2)) = some (.slice A0 xs[k].1.length c0) ∧ w'.cell? ⟨(ad.add (k * 2)).block, (ad.add (k * 2)).off + 1, none⟩ = some (.slice A1 xs[k].2.length c1) ∧ RdW w S A0 c0 xs[k].1 ∧ Rd wbT w S A1 c1 xs[k].2 := by
  obtain ⟨ad, cs, e, _, ⟨d0, d1, rfl, ⟨A0, c0, rfl, h0⟩, ⟨A1, c1, rfl, h1⟩⟩, hc⟩ := hr.2.2 k _ (List.getElem?_eq_getElem hk)
  exact ⟨ad, A0, c0, A1, c1, e, h.slc (hc 0 _ rfl), h.slc (next_cell (hc 1 _ rfl)), h0, h1⟩
/-- A row of words: its k-th, in such a world. -/
theorem Shp.wordAt {S : Nat → Prop} {A : Option Addr} {c : Nat} {xs : List (List Int)} (h : Shp s w w') (hr : Rd wbT w S A c xs) {k : Nat} (hk : k < xs.length) :
    ∃ ad B cb, A = some ad ∧ w'.cell? (ad.add k) = some (.slice B xs[k].length cb) ∧ RdW w S B cb xs[k] := by
  obtain ⟨ad, B, cb, e, h1, h2⟩ := hr.rowW hk
  exact ⟨ad, B, cb, e, h.slc h1, h2⟩
end
end Go.Cb
