/- What TablePlays does to its plain list: a thing put in, a thing taken out. -/
import Derived.Test.YtcnbmpkbocnniaaPlays1
namespace Go.Cb
open Go.RowKit
theorem Upd.grown {g : Nat} {w w' : World} (h : Upd g w w') : w.grownBy w' (some g) := ⟨h.os, h.tape, h.output, by rw [h.size]; exact Nat.le_refl _, fun k _ hne => h.block k (fun e => hne (by rw [e]))⟩
theorem step_append_run {P : Program} {ops : Array Oper} {o : Oper} {a : Act} {w : World} {K : Act → World → Prop} {Q : Exit → Act → World → Prop} {E : Prop}
    (hg : o.guard = none) (s x : Operand) (t : TypeId) (hop : o.op = Op.call { callee := Callee.builtin Builtin.append, args := #[s, x], argTypes := #[t, t] })
    (v u : Value) (hs : a.eval s = v) (hx : a.eval x = u) {v' : Value} {w' : World} (hr : (Builtin.append_ #[t, t] o.type #[v, u]).run P w = .ok v' w') (hK : K (a.put o.dst v') w') :
    if Region.wanted o (yielded ops a.tmps) = true then Oper.wp P o a w K Q else E := by
  have hw : Region.wanted o (yielded ops a.tmps) = true := by simp [Region.wanted, hg]
  rw [if_pos hw]
  unfold Oper.wp
  simp [execOp, hop, resolve, invoke, builtin, hs, hx, hr, Result.andThen]
  exact hK
end Go.Cb
namespace Go.Proofs.Ytcnbmpkbocnniaa
open Go.RowKit Go.Cb
theorem info_kept : (Try.prog.info? 55).map (fun i => (i.zero, i.size, i.bytes)) = some (some (.agg #[.int .i64 0, .int .i64 0]), 2, 16) := by kernel_rfl
theorem keptS {W : World} {S S' : Nat → Prop} : ∀ x cs, keptT.rd W S x cs → keptT.rd W S' x cs := fun _ _ h => kept_rd.2 (kept_rd.1 h)
theorem row_rd {w : World} {base n c : Nat} {A : Option Addr} {xs : List (Int × Int)} (h : RowP (Value.int .i64) (Value.int .i64) 55 w base (.slice A n c) xs) : n = xs.length ∧ Rd keptT w All A c xs := by
  obtain ⟨A', c', he, hr⟩ := (kept_own (S := All) h).rdAll
  injection he with e1 e2 e3
  subst e1 e3
  exact ⟨e2, hr⟩
theorem row_drop {w : World} {base n c g p : Nat} {xs : List (Int × Int)} (h : RowP (Value.int .i64) (Value.int .i64) 55 w base (.slice (some ⟨g, 0, none⟩) n c) xs) (hp : p ≤ n) :
    ∃ B, (if c = p then some (⟨g, 0, none⟩ : Addr) else some ⟨g, p * 2, none⟩) = B ∧ Rd keptT w All B (c - p) (xs.drop p) := by
  obtain ⟨h1, h2⟩ := row_rd h
  have h3 := h2.drop p (by omega)
  refine ⟨_, rfl, ?_⟩
  by_cases e : c = p
  · rw [if_pos e] at h3 ⊢; exact h3
  · rw [if_neg e] at h3 ⊢
    simp only [Option.map_some, add_plain] at h3
    exact h3
theorem listDel {w w2 : World} {A B : Option Addr} {c cB p m : Nat} {xs ys : List (Int × Int)} (hb : Bel w w2) (hA : Rd keptT w2 All A c xs) (hB : Rd keptT w2 All B cB ys) (hp : p = xs.length) (hm : m = ys.length) (hx : xs.length + ys.length ≤ 1000) :
    ∃ v1 w3 v2 w4, (Builtin.append_ #[51, 51] 51 #[.slice none 0 0, .slice A p c]).run Try.prog w2.drew = .ok v1 w3 ∧
      (Builtin.append_ #[51, 51] 51 #[v1, .slice B m cB]).run Try.prog w3 = .ok v2 w4 ∧
      RowP (Value.int .i64) (Value.int .i64) 55 w4 w.heap.size v2 (xs ++ ys) ∧ Bel w2 w4 ∧ ∀ q, v2.ownBlock = some q → w2.heap.size ≤ q := by
  subst hp hm
  obtain ⟨v1, w3, r1, o1, b1, g1, f1⟩ := run_append (P := Try.prog) keptT (w0 := w) (W := w2.drew) 51 51 55 _ 16 Try.underlying51 info_kept rfl All All (.slice none 0 0) [] xs A c (Own.nil _ _ _ _ _) (hA.step' (fun _ _ => rfl)) keptS hb.drew (by simp [maxLen]; omega) (by simp; omega)
  have b13 : Bel w2 w3 := ((Bel.refl w2).drew).grown g1 (fun q hq => by cases hq)
  obtain ⟨v2, w4, r2, o2, b2, g2, f2⟩ := run_append (P := Try.prog) keptT (w0 := w) (W := w3) 51 51 55 _ 16 Try.underlying51 info_kept rfl All All v1 ([] ++ xs) ys B cB o1 (hB.to b13) keptS b1 (by simp [maxLen]; omega) (by simp; omega)
  have hv1 : ∀ q, v1.ownBlock = some q → w2.heap.size ≤ q := fun q hq => by
    rcases f1 with f1 | f1
    · rw [f1] at hq; cases hq
    · rw [f1] at hq; injection hq with hq; exact Nat.le_of_eq hq
  refine ⟨v1, w3, v2, w4, r1, r2, by simpa using kept_row o2, b13.grown g2 (fun q hq => hv1 q hq), fun q hq => ?_⟩
  rcases f2 with f2 | f2
  · exact hv1 q (by rw [← f2]; exact hq)
  · rw [f2] at hq
    injection hq with hq
    have := b13.size
    omega
theorem listIns {w w2 : World} {A B : Option Addr} {c cB p m : Nat} {xs ys : List (Int × Int)} (hb : Bel w w2) (hA : RowP (Value.int .i64) (Value.int .i64) 55 w2 w.heap.size (.slice A p c) xs) (hB : Rd keptT w2 All B cB ys) (hm : m = ys.length) (hx : xs.length + ys.length ≤ 1000) (k u : Int) :
    ∃ v1 w3 v4 w5 v6 w6, (Builtin.append_ #[51, 51] 51 #[.slice none 0 0, .slice B m cB]).run Try.prog w2 = .ok v1 w3 ∧
      (Builtin.append_ #[51, 51] 51 #[.slice A p c, .slice (some ⟨w3.heap.size, 0, none⟩) 1 1]).run Try.prog (w3.alloc (.cells #[.int .i64 k, .int .i64 u] 55)) = .ok v4 w5 ∧
      (Builtin.append_ #[51, 51] 51 #[v4, v1]).run Try.prog w5 = .ok v6 w6 ∧
      RowP (Value.int .i64) (Value.int .i64) 55 w6 w.heap.size v6 (xs ++ (k, u) :: ys) ∧ w2.grownBy w6 (Value.slice A p c).ownBlock ∧ ∀ q, v6.ownBlock = some q → (Value.slice A p c).ownBlock = some q ∨ w2.heap.size ≤ q := by
  subst hm
  obtain ⟨v1, w3, r1, o1, b1, g1, f1⟩ := run_append (P := Try.prog) keptT (w0 := w) (W := w2) 51 51 55 _ 16 Try.underlying51 info_kept rfl All All (.slice none 0 0) [] ys B cB (Own.nil _ _ _ _ _) hB keptS hb (by simp [maxLen]; omega) (by simp; omega)
  rw [List.nil_append] at o1
  have b13 : Bel w2 w3 := (Bel.refl w2).grown g1 (fun q hq => by cases hq)
  have b14 : Bel w2 (w3.alloc (.cells #[.int .i64 k, .int .i64 u] 55)) := b13.alloc _
  have hA3 := hA.step (fun q hq => b14.block (World.ownsRow.lt hA q hq).2)
  obtain ⟨v4, w5, r2, o4, g4, f4⟩ := run_appendP (P := Try.prog) 51 51 55 _ 16 Try.underlying51 info_kept rfl hA3 k u w3.heap.size (heap_alloc_new w3 _) (fun _ => rfl) (fun _ => rfl) (by omega) (by unfold maxLen; omega) (Nat.le_trans hb.size b14.size)
  have hv1 : ∀ q, v1.ownBlock = some q → w2.heap.size ≤ q ∧ q < w3.heap.size := fun q hq => by
    refine ⟨?_, o1.lt hq⟩
    rcases f1 with f1 | f1
    · rw [f1] at hq; cases hq
    · rw [f1] at hq; injection hq with hq; exact Nat.le_of_eq hq
  have hne : ∀ q, v1.ownBlock = some q → (Value.slice A p c).ownBlock ≠ some q := fun q hq e => by
    have := (World.ownsRow.lt hA q e).2
    have := (hv1 q hq).1
    omega
  have o1' : Own keptT 55 w5 w.heap.size (fun _ => False) v1 ys := by
    have h1 : RowP (Value.int .i64) (Value.int .i64) 55 w5 w.heap.size v1 ys := (kept_row o1).step (fun q hq => (g4.block q (by have := (hv1 q hq).2; simp; omega) (fun e => hne q hq e.symm)).trans (Below.heap_alloc w3 _ _ (hv1 q hq).2))
    exact kept_own h1
  obtain ⟨A1, c1, rfl, hr1⟩ := o1'.rd
  have hb5 : Bel w w5 := (b1.alloc _).grown g4 (fun q hq => (World.ownsRow.lt hA q hq).1)
  obtain ⟨v6, w6, r3, o6, b6, g6, f6⟩ := run_append (P := Try.prog) keptT (w0 := w) (W := w5) 51 51 55 _ 16 Try.underlying51 info_kept rfl All All v4 (xs ++ [(k, u)]) ys A1 c1 (kept_own o4) hr1.all keptS hb5 (by simp [maxLen]; omega) (by simp; omega)
  have hs35 : w2.heap.size ≤ w5.heap.size := Nat.le_trans b14.size g4.size
  refine ⟨_, w3, v4, w5, v6, w6, r1, r2, r3, by simpa using kept_row o6, ⟨?_, ?_, ?_, ?_, ?_⟩, ?_⟩
  · exact g6.os.trans (g4.os.trans b14.out.os)
  · exact g6.tape.trans (g4.tape.trans b14.out.tape)
  · exact g6.output.trans (g4.output.trans b14.out.output)
  · exact Nat.le_trans hs35 g6.size
  · intro q hq hqn
    refine (g6.block q (by omega) (fun e => ?_)).trans ((g4.block q (Nat.lt_of_lt_of_le hq b14.size) hqn).trans (b14.block hq))
    rcases f4 with f4 | f4
    · rw [f4] at e; exact hqn e
    · rw [f4] at e
      injection e with e
      have := b14.size
      omega
  · intro q hq
    rcases f6 with f6 | f6
    · rw [f6] at hq
      rcases f4 with f4 | f4
      · rw [f4] at hq; exact .inl hq
      · rw [f4] at hq
        injection hq with hq
        have := b14.size
        exact .inr (by omega)
    · rw [f6] at hq
      injection hq with hq
      exact .inr (by omega)
end Go.Proofs.Ytcnbmpkbocnniaa
