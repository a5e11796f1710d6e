/- The library: a table's steps. -/
import Derived.Test.YtjhnenineachaaaTabLib
set_option linter.unusedVariables false
set_option linter.unusedSimpArgs false
set_option linter.all false
namespace Go.Cb
open Go.RowKit
section
variable {κ β : Type} {eK : κ → Value} {eV : β → Value}
theorem cells_set1 {w : World} {T : TypeId} {g : Nat} {v : Value} (h : w.heap[g]? = some (.cells #[v] T (0, 0))) (v2 : Value) : (w.setCell ⟨g, 0, none⟩ v2).heap[g]? = some (.cells #[v2] T (0, 0)) := by
  simp [World.setCell, Array.getElem?_modify, h]
theorem Tab.store {T e : TypeId} {w W w2 : World} {base g : Nat} {v v2 : Value} {xs ys : List (κ × β)} (h : Tab eK eV T e w base g v xs) (hw : Bel w W) (g2 : W.grownBy w2 v.ownBlock) (r2 : RowP eK eV e w2 base v2 ys) (f2 : ∀ q, v2.ownBlock = some q → v.ownBlock = some q ∨ W.heap.size ≤ q) :
    w2.heap[g]? = some (.cells #[v] T (0, 0)) ∧ Tab eK eV T e (w2.setCell ⟨g, 0, none⟩ v2) base g v2 ys ∧ Step g v v2 w (w2.setCell ⟨g, 0, none⟩ v2) := by
  have hW := h.to hw
  have hbx : w2.heap[g]? = some (.cells #[v] T (0, 0)) := (g2.block g hW.lt (fun e => h.ne e.symm)).trans hW.box
  have hne : v2.ownBlock ≠ some g := fun e => by
    rcases f2 g e with e | e
    · exact h.ne e
    · have := hW.lt; omega
  have hu := (Upd.refl g w2).set (p := ⟨g, 0, none⟩) rfl v2
  refine ⟨hbx, ⟨cells_set1 hbx v2, h.low, r2.step (fun k hk => hu.block k (fun e => hne (e ▸ hk))), hne⟩, ⟨?_, ?_, ?_, ?_, ?_, ?_⟩⟩
  · exact hu.os.trans (g2.os.trans hw.out.os)
  · exact hu.tape.trans (g2.tape.trans hw.out.tape)
  · exact hu.output.trans (g2.output.trans hw.out.output)
  · have := hw.size; have := g2.size; have := hu.size; omega
  · intro k hk hkg hkv
    exact (hu.block k hkg).trans ((g2.block k (Nat.lt_of_lt_of_le hk hw.size) (fun e => hkv e.symm)).trans (hw.block hk))
  · intro q hq
    rcases f2 q hq with e | e
    · exact .inl e
    · exact .inr (Nat.le_trans hw.size e)
theorem Tab.stored {T e : TypeId} {w W : World} {base g g1 n c : Nat} {xs : List (κ × β)} (h : Tab eK eV T e w base g (.slice (some ⟨g1, 0, none⟩) n c) xs) (hw : Bel w W) (hn : n = xs.length) {p : Nat} {x : κ × β} (hx : xs[p]? = some x) (u : β) :
    Tab eK eV T e (W.setCell ⟨g1, p * 2 + 1, none⟩ (eV u)) base g (.slice (some ⟨g1, 0, none⟩) n c) (xs.set p (x.1, u)) ∧ Step g (.slice (some ⟨g1, 0, none⟩) n c) (.slice (some ⟨g1, 0, none⟩) n c) w (W.setCell ⟨g1, p * 2 + 1, none⟩ (eV u)) := by
  have hW := h.to hw
  have hu := (Upd.refl g1 W).set (p := ⟨g1, p * 2 + 1, none⟩) rfl (eV u)
  have hne : g ≠ g1 := fun e => h.ne (by rw [e]; rfl)
  refine ⟨⟨(hu.block g hne).trans hW.box, h.low, hW.row.set hn hx u, h.ne⟩, ⟨hu.os.trans hw.out.os, hu.tape.trans hw.out.tape, hu.output.trans hw.out.output, by have := hw.size; have := hu.size; omega, ?_, fun q hq => .inl hq⟩⟩
  intro k hk hkg hkv
  exact (hu.block k (fun e => hkv (by rw [e]; rfl))).trans (hw.block hk)
end
section
variable {P : Program} {ops : Array Oper} {rest : List Oper} {o : Oper} {a : Act} {Q : Exit → Act → World → Prop}
/-- make([]T, 0, n), T of one cell. Ahead of it: 'at_make'. -/
theorem wp_make0 {α : Type} {enc : α → Value} (h1 : ∀ x, (enc x).oneCell' = true) {w0 W : World} (t e : TypeId) (z : Value) (bytes : Nat) (hgd : o.guard = none) (l c : Operand)
    (ho : o.op = .makeSlice t l c) (ht : P.underlying t = some (.slice e)) (hinfo : (P.info? e).map (fun i => (i.zero, i.size, i.bytes)) = some (some z, 1, bytes))
    (n : Nat) (C : Int) (hl : a.eval l = .int .i64 0) (hc : a.eval c = .int .i64 C) (hC : C = (n : Int)) (HB : Bel w0 W) (hb : bytes * n ≤ 281474976710656) (hn : n ≤ maxLen)
    (h : ∀ w1, Own (scalar enc h1) e w1 w0.heap.size All (.slice (some ⟨W.heap.size, 0, none⟩) 0 n) [] → Bel w0 w1 → wpList P ops Q rest (a.put o.dst (.slice (some ⟨W.heap.size, 0, none⟩) 0 n)) w1) :
    wpList P ops Q (o :: rest) a W := by
  obtain ⟨i0, hi, hzz⟩ := Option.map_eq_some_iff.1 hinfo
  simp only [Prod.mk.injEq] at hzz
  obtain ⟨hz0, hz1, hz2⟩ := hzz
  subst hC
  obtain ⟨w', hrun, h2, h3⟩ := run_make_own (P := P) W w0.heap.size t e i0 z 1 ht hi hz0 hz1 .i64 .i64 n (by rw [hz2]; exact hb) hn HB.size
  refine wpList_plain hgd fun K hK => ?_
  unfold Oper.wp execOp
  simp only [ho, hl, hc, Sem.run_bind, hrun, Sem.run_pure, Result.andThen_ok]
  exact hK _ _ (h _ (Own.ofRow h2) (HB.grown h3 (by intro k hk; cases hk)))
/-- wp_append1, the variadic's block being given by its number. -/
theorem wp_append1b {α : Type} (d : Ty α) {w0 W : World} (t e : TypeId) (z : Value) (bytes : Nat) (hgd : o.guard = none) (s x : Operand)
    (ho : o.op = .call { callee := .builtin .append, args := #[s, x], argTypes := #[t, t] })
    (ht : P.underlying t = some (.slice e)) (hinfo : (P.info? e).map (fun i => (i.zero, i.size, i.bytes)) = some (some z, d.sz, bytes)) (hz : z.cells.size = d.sz)
    (S : Nat → Prop) (v : Value) (xs : List α) (y : α) (cs : List Value) (b : Nat) (hb : b = W.heap.size) (hs : a.eval s = v) (hx : a.eval x = .slice (some ⟨b, 0, none⟩) 1 1) (HO : Own d e W w0.heap.size S v xs) (HR : d.rd W (fun k => S k ∧ some k ≠ v.ownBlock) y cs)
    (HB : Bel w0 W) (hl : xs.length + 1 ≤ maxLen) (hl2 : (xs.length + 1) * bytes ≤ 140737488355328)
    (h : ∀ v1 w1, Own d e w1 w0.heap.size S v1 (xs ++ [y]) → Bel w0 w1 → W.grownBy w1 v.ownBlock → (v1.ownBlock = v.ownBlock ∨ ∃ b, v1.ownBlock = some b ∧ W.heap.size ≤ b) → wpList P ops Q rest (a.put o.dst v1) w1) :
    wpList P ops Q (o :: rest) a (W.alloc (.cells cs.toArray e)) :=
  wp_append1 d t e z bytes hgd s x ho ht hinfo hz S v xs y cs hs (by rw [← hb]; exact hx) HO HR HB hl hl2 h
end
theorem delete_list {F zs : List Value} {p m : Nat} (hF : F.length = (p + 1 + m) * 2) (hz : zs.length = 2) : (setL (setL F (p * 2) (F.drop ((p + 1) * 2))) ((p + m) * 2) zs).take ((p + m) * 2) = F.take (p * 2) ++ F.drop ((p + 1) * 2) := by
  have hd : (F.drop ((p + 1) * 2)).length = m * 2 := by rw [List.length_drop]; omega
  have ht : (F.take (p * 2)).length = p * 2 := by rw [List.length_take]; omega
  have hl : (F.take (p * 2) ++ F.drop ((p + 1) * 2)).length = (p + m) * 2 := by rw [List.length_append]; omega
  rw [setL_eq _ F _ (by omega)]
  have hl2 : (F.take (p * 2) ++ F.drop ((p + 1) * 2) ++ F.drop (p * 2 + (F.drop ((p + 1) * 2)).length)).length = (p + 1 + m) * 2 := by rw [List.length_append, hl, List.length_drop]; omega
  rw [setL_eq _ _ _ (by rw [hl2]; omega), List.append_assoc (List.take _ _) zs, List.take_append_of_le_length (by rw [List.length_take, hl2]; omega), List.take_take, Nat.min_self,
    List.take_append_of_le_length (by omega), List.take_of_length_le (by omega)]
theorem run_clear1 {P : Program} (w : World) (t e ty : TypeId) (z : Value) (zs : List Value) (ht : P.underlying t = some (.slice e)) (hv : ∀ w, (zeroValue e).run P w = .ok z w) (hzc : (Builtin.zeroCells z.cells 1).toList = zs) (h1 : ∀ v ∈ zs, v.oneCell' = true) (hzl : zs.length = 2) (b o c : Nat)
    (hc : ∀ j, j < 2 → (w.cell? ⟨b, o + j, none⟩).isSome = true) (hf : ∀ j, j < 2 → w.frozen? ⟨b, o + j, none⟩ = false) :
    (Builtin.clear_ #[t] ty #[.slice (some ⟨b, o, none⟩) 1 c]).run P w = .ok (.tuple #[]) (w.setCells b o zs) := by
  have hst := run_storeCells_cells (P := P) b o zs 0 w (by rw [hzl]; simpa using hc) (by rw [hzl]; simpa using hf) h1
  simp only [Nat.add_zero] at hst
  simp [Builtin.clear_, run_underlying ht, hv, hzc, hst]
end Go.Cb
