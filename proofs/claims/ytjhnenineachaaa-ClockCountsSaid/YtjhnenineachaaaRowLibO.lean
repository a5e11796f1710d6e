/- What the rows' proofs use: arguments of whatever shape, opened. -/
import Derived.Test.YtjhnenineachaaaRowLib
import Derived.Test.YtjhnenineachaaaLib3
set_option linter.unusedVariables false
set_option linter.unusedSimpArgs false
set_option linter.all false
namespace Go.Cb
open Go.ChangeShapes Go.WideShapes Go.RowKit
/-- What is read as data of type t reads as a value of kind d, its numbers as they should be. -/
def Opens (P : Program) {α : Type} (d : Ty α) (ok : α → Prop) (t : TypeId) : Prop :=
  ∀ (H : Type) (enc : TypeId × Value → H) (W : World) (base : Nat) (spare : Nat → Bool) (held : Bool) (fuel : Nat) (cs : List Value) (x : DataW H × List MemPlace),
    DataW.trod enc P W base spare held fuel t cs = some x → ∃ v, d.rd W All v cs ∧ ok v
theorem opens_int {P : Program} {t : TypeId} (hu : P.underlying t = some (.int .i64)) : Opens P intT inI64 t := fun H enc W base spare held fuel cs x h => by
  obtain ⟨n, rfl, _, hw⟩ := DataW.trod_int hu h
  exact ⟨n, rfl, inI64_wf hw⟩
theorem opens_slice {P : Program} {α : Type} {d : Ty α} {ok : α → Prop} {t e : TypeId} (hu : P.underlying t = some (.slice e)) (hc : P.cellsOf e = d.sz) (h : Opens P d ok e) : Opens P (sl d) (fun l => ∀ x ∈ l, ok x) t := fun H enc W base spare held fuel cs x hx => by
  rcases DataW.trod_slice hu hx with ⟨rfl, _⟩ | ⟨a, len, cap, elems, rest, n, _, rfl, _, _, hl, hm, hel, he, _⟩
  · exact ⟨[], ⟨none, 0, rfl, Rd.nil _ _ _ _ _ (by decide)⟩, fun x hx => by simp at hx⟩
  · have key : ∀ i : Fin len, ∃ v, ok v ∧ ∃ cs, d.rd W All v cs ∧ ∀ j u, cs[j]? = some u → W.cell? (a.add (i.1 * d.sz + j)) = some u := fun i => by
      have h1 := he i.1 i.2
      rw [List.getElem?_eq_getElem (by omega), Option.bind_eq_some_iff] at h1
      obtain ⟨cs, h2, h3⟩ := h1
      obtain ⟨_, h4, h5⟩ := World.cells?_some h2
      obtain ⟨v, hv, hok⟩ := h H enc W base spare held n cs _ h3
      refine ⟨v, hok, cs, hv, fun j u hu => ?_⟩
      have hj := (List.getElem?_eq_some_iff.1 hu).1
      have h6 := h5 j (by omega)
      rw [add_add, hc] at h6
      rw [h6, hu]
    obtain ⟨f, hf⟩ := Classical.axiomOfChoice key
    have hlen : (List.ofFn f).length = len := List.length_ofFn
    refine ⟨List.ofFn f, ⟨some a, cap, by rw [hlen], by rw [hlen]; exact hl, hm, fun j x hj => ?_⟩, fun x hx => ?_⟩
    · obtain ⟨hj1, hj2⟩ := List.getElem?_eq_some_iff.1 hj
      rw [hlen] at hj1
      rw [List.getElem_ofFn] at hj2
      obtain ⟨_, cs, h1, h2⟩ := hf ⟨j, hj1⟩
      rw [hj2] at h1
      exact ⟨a, cs, rfl, trivial, h1, h2⟩
    · obtain ⟨i, rfl⟩ := List.mem_ofFn.1 hx
      exact (hf i).1
theorem opens_struct2 {P : Program} {α β : Type} {d : Ty α} {b : Ty β} {ok : α → Prop} {okb : β → Prop} {t : TypeId} {f0 f1 : Field} (hu : P.underlying t = some (.struct #[f0, f1])) (h0 : P.cellsOf f0.type = d.sz) (h1 : P.cellsOf f1.type = b.sz) (ho0 : f0.offset = 0) (ho1 : f1.offset = d.sz) (hc : P.cellsOf t = d.sz + b.sz)
    (hd : Opens P d ok f0.type) (hb : Opens P b okb f1.type) : Opens P (two d b) (fun x => ok x.1 ∧ okb x.2) t := fun H enc W base spare held fuel cs x hx => by
  obtain ⟨xs, n, _, _, hl, hlen, hf⟩ := DataW.trod_struct hu hx
  have e0 := hf 0 f0 rfl
  have e1 := hf 1 f1 rfl
  have hl0 : 0 < xs.length := by rw [hlen]; simp
  have hl1 : 1 < xs.length := by rw [hlen]; simp
  rw [List.getElem?_eq_getElem hl0] at e0
  rw [List.getElem?_eq_getElem hl1] at e1
  obtain ⟨v0, r0, k0⟩ := hd H enc W base spare held n _ _ e0
  obtain ⟨v1, r1, k1⟩ := hb H enc W base spare held n _ _ e1
  rw [ho0, h0, List.drop_zero] at r0
  rw [ho1, h1, List.take_of_length_le (by rw [List.length_drop]; omega)] at r1
  exact ⟨(v0, v1), ⟨_, _, (List.take_append_drop d.sz cs).symm, r0, r1⟩, k0, k1⟩
end Go.Cb
