/- Walks: what a pattern stands for, the document's. -/
import Derived.Test.YtfkopkjioohgoaaMH
set_option linter.unusedVariables false
set_option linter.unusedSimpArgs false
set_option linter.all false
namespace Go.Cb
open Go.RowKit
/-- A row of the call's own, and a budget that was spent of: the row is as it was. -/
theorem own_spent {α : Type} {d : Ty α} {e : TypeId} {w w' : World} {base : Nat} {mb : Option Nat} {v : Value} {xs : List α} (h : Own d e w base (Ge base) v xs) (hg : w.grownBy w' mb) (hm : ∀ g, mb = some g → g < base) : Own d e w' base (Ge base) v xs :=
  h.step (fun k hk => hg.block k (h.lt hk) (fun e => by have := hm k e.symm; have := h.ge hk; omega)) (fun k hk hl _ => hg.block k hl (fun e => by have := hm k e.symm; unfold Ge at hk; omega))
/-- The world's blocks up to n alone: what a row that lies from n on may be told to be behind. -/
def cutW (W : World) (n : Nat) : World := { W with heap := W.heap.extract 0 n }
theorem cutW_size {W : World} {n : Nat} (h : n ≤ W.heap.size) : (cutW W n).heap.size = n := by
  show (W.heap.extract 0 n).size = n
  rw [Array.size_extract]; omega
theorem cutW_bel {W : World} {n : Nat} (h : n ≤ W.heap.size) : Bel (cutW W n) W := ⟨⟨rfl, rfl, rfl, by rw [cutW_size h]; exact h, fun k hk => by
  rw [cutW_size h] at hk
  show W.heap[k]? = (W.heap.extract 0 n)[k]?
  rw [Array.getElem?_extract, if_pos (by omega), Nat.zero_add]⟩⟩
section
variable {P : Program} {ops : Array Oper} {rest : List Oper} {o : Oper} {a : Act} {Q : Exit → Act → World → Prop}
/-- append(v, y) in a world in which a budget may have been spent: the row lies from b on. -/
theorem wp_append1c {α : Type} (d : Ty α) {W : World} (b : Nat) (t e : TypeId) (z : Value) (bytes : Nat) (hgd : o.guard = none) (s x : Operand)
    (ho : o.op = .call { callee := .builtin .append, args := #[s, x], argTypes := #[t, t] })
    (ht : P.underlying t = some (.slice e)) (hinfo : (P.info? e).map (fun i => (i.zero, i.size, i.bytes)) = some (some z, d.sz, bytes)) (hz : z.cells.size = d.sz)
    (S : Nat → Prop) (v : Value) (xs : List α) (y : α) (cs : List Value) (N : Nat) (hN : N = W.heap.size) (hs : a.eval s = v) (hx : a.eval x = .slice (some ⟨N, 0, none⟩) 1 1) (HO : Own d e W b S v xs) (hb : b ≤ W.heap.size) (HR : d.rd W (fun k => S k ∧ some k ≠ v.ownBlock) y cs)
    (hl : xs.length + 1 ≤ maxLen) (hl2 : (xs.length + 1) * bytes ≤ 140737488355328)
    (h : ∀ v1 w1, Own d e w1 b S v1 (xs ++ [y]) → W.grownBy w1 v.ownBlock → wpList P ops Q rest (a.put o.dst v1) w1) :
    wpList P ops Q (o :: rest) a (W.alloc (.cells cs.toArray e)) := by
  have hc := cutW_size hb
  refine wp_append1 d (w0 := cutW W b) t e z bytes hgd s x ho ht hinfo hz S v xs y cs hs (by rw [← hN]; exact hx) (by rw [hc]; exact HO) HR (cutW_bel hb) hl hl2 (fun v1 w1 h1 _ h3 _ => h v1 w1 ?_ h3)
  rw [hc] at h1
  exact h1
end
theorem grown_own {w W W2 : World} {mb own : Option Nat} (h : w.grownBy W mb) (k : W.grownBy W2 own) (ho : ∀ g, own = some g → w.heap.size ≤ g) : w.grownBy W2 mb :=
  ⟨k.os.trans h.os, k.tape.trans h.tape, k.output.trans h.output, Nat.le_trans h.size k.size, fun q hq hn => (k.block q (Nat.lt_of_lt_of_le hq h.size) (fun e => by have := ho q e.symm; omega)).trans (h.block q hq hn)⟩
theorem MetO.row {w w' : World} {t : TypeId} {v : Value} {mb own : Option Nat} {st : MSt} (h : MetO w t v mb st) (hg : w.grownBy w' own) (hne : ∀ g, mb = some g → own ≠ some g) : MetO w' t v mb st := by
  cases st with
  | none => exact h
  | some x =>
    obtain ⟨g, e1, e2, hm, h0⟩ := h
    exact ⟨g, e1, e2, (hg.block g hm.lt (fun e => hne g e2 e.symm)).trans hm, h0⟩
theorem normF_at {p : List PN} {i : Nat} {x : PN} {L : List SemS} {st : MSt} (h : p[i]? = some x) : normF (p.drop i) L st = normF (x :: p.drop (i + 1)) L st := by
  have hlt := (List.getElem?_eq_some_iff.1 h).1
  rw [List.drop_eq_getElem_cons hlt, (List.getElem?_eq_some_iff.1 h).2]
theorem normFit_at {p : List PN} {i : Nat} {x : PN} {L : List SemS} {st : MSt} (h : p[i]? = some x) (hf : NormFit (p.drop i) L st) (h2 : (spendM st 1).2 = true) : NodeFit x L (spendM st 1).1 ∧ ((nodeF x L (spendM st 1).1).2.2 = 0 → NormFit (p.drop (i + 1)) (L ++ [(nodeF x L (spendM st 1).1).2.1]) (nodeF x L (spendM st 1).1).1) := by
  have hlt := (List.getElem?_eq_some_iff.1 h).1
  rw [List.drop_eq_getElem_cons hlt, (List.getElem?_eq_some_iff.1 h).2] at hf
  exact hf h2
theorem normF_out {x : PN} {r : List PN} {L : List SemS} {st : MSt} (h : (spendM st 1).2 = false) : normF (x :: r) L st = ((spendM st 1).1, [], 7) := by rw [normF, if_neg (by rw [h]; decide)]
theorem normF_bad {x : PN} {r : List PN} {L : List SemS} {st : MSt} (h : (spendM st 1).2 = true) (h2 : (nodeF x L (spendM st 1).1).2.2 ≠ 0) : normF (x :: r) L st = ((nodeF x L (spendM st 1).1).1, [], (nodeF x L (spendM st 1).1).2.2) := by rw [normF, if_pos h, if_neg h2]
theorem normF_next {x : PN} {r : List PN} {L : List SemS} {st : MSt} (h : (spendM st 1).2 = true) (h2 : (nodeF x L (spendM st 1).1).2.2 = 0) : normF (x :: r) L st = normF r (L ++ [(nodeF x L (spendM st 1).1).2.1]) (nodeF x L (spendM st 1).1).1 := by rw [normF, if_pos h, if_pos h2]
end Go.Cb

/- Walks: what a pattern stands for, the document's: the walk. -/
namespace Go.Proofs.Ytfkopkjioohgoaa
open Go.RowKit Go.Cb Go.Sort
end Go.Proofs.Ytfkopkjioohgoaa
