/- The library: append of a row of another name's type; budgets, where they lie. -/
import Derived.Test.YtmdcgekiiopohaaGreatMF
import Derived.Test.YtmdcgekiiopohaaGreatMB
import Derived.Test.YtmdcgekiiopohaaGreatMC
set_option linter.unusedVariables false
set_option linter.unusedSimpArgs false
set_option linter.all false
namespace Go.Cb
open Go.RowKit
theorem run_append_ty {P : Program} (t t2 e e2 ty : TypeId) (ht : P.underlying t = some (.slice e)) (ht2 : P.underlying t2 = some (.slice e2)) (v x : Value) (W : World) :
    (Builtin.append_ #[t, t2] ty #[v, x]).run P W = (Builtin.append_ #[t, t] ty #[v, x]).run P W := by
  cases v <;> simp [Builtin.append_, run_underlying ht, run_underlying ht2]
section
variable {P : Program} {ops : Array Oper} {rest : List Oper} {o : Oper} {a : Act} {Q : Exit → Act → World → Prop}
theorem wp_append_ty {α : Type} (d : Ty α) {w0 W : World} (t t2 e e2 : TypeId) (z : Value) (bytes : Nat) (hgd : o.guard = none) (s x : Operand)
    (ho : o.op = .call { callee := .builtin .append, args := #[s, x], argTypes := #[t, t2] })
    (ht : P.underlying t = some (.slice e)) (ht2 : P.underlying t2 = some (.slice e2)) (hinfo : (P.info? e).map (fun i => (i.zero, i.size, i.bytes)) = some (some z, d.sz, bytes)) (hz : z.cells.size = d.sz)
    (S S' : Nat → Prop) (v : Value) (xs ys : List α) (A : Option Addr) (n c : Nat) (hs : a.eval s = v) (hx : a.eval x = .slice A n c) (hn : n = ys.length) (HO : Own d e W w0.heap.size S v xs) (HR : Rd d W S' A c ys)
    (hS : ∀ x cs, d.rd W S' x cs → d.rd W (fun k => S k ∧ some k ≠ v.ownBlock) x cs) (HB : Bel w0 W) (hl : xs.length + ys.length ≤ maxLen) (hl2 : (xs.length + ys.length) * bytes ≤ 140737488355328)
    (h : ∀ v1 w1, Own d e w1 w0.heap.size S v1 (xs ++ ys) → Bel w0 w1 → W.grownBy w1 v.ownBlock → (v1.ownBlock = v.ownBlock ∨ v1.ownBlock = some W.heap.size) → wpList P ops Q rest (a.put o.dst v1) w1) :
    wpList P ops Q (o :: rest) a W := by
  subst hn
  refine wpList_plain hgd fun K hK => ?_
  obtain ⟨v1, w1, hr, h2, h3, h4, h5⟩ := run_append (P := P) d o.type t e z bytes ht hinfo hz S S' v xs ys A c HO HR hS HB hl hl2
  have hr := (run_append_ty t t2 e e2 o.type ht ht2 v (.slice A ys.length c) W).trans hr
  unfold Oper.wp execOp
  simp only [ho, resolve, invoke, builtin, Sem.run_bind, Sem.run_pure, Result.andThen_ok, List.map_toArray, List.map_cons, List.map_nil, hs, hx, hr]
  exact hK _ _ (h v1 w1 h2 h3 h4 h5)
end
/-! ### budgets -/
/-- What a budget is: none, or so much, so much spent, out. -/
abbrev MSt := Option (Int × Int × Bool)
/-- The budget that a pointer leads to. -/
def MetO (w : World) (t : TypeId) (v : Value) (mb : Option Nat) : MSt → Prop
  | none => v = .pointer none ∧ mb = none
  | some (b, s, o) => ∃ g, v = .pointer (some ⟨g, 0, none⟩) ∧ mb = some g ∧ Met w t g b s o ∧ 0 ≤ s ∧ s ≤ b ∧ b ≤ 9223372036854775807
/-- So much is spent, or not. -/
def spendM : MSt → Int → MSt × Bool
  | none, _ => (none, true)
  | some (b, s, o), n => (some (b, spendS b s o n, spendO b s o n), spendOk b s o n)
theorem MetO.grown {w w' : World} {t : TypeId} {v : Value} {mb : Option Nat} {st : MSt} (h : MetO w t v mb st) (hb : Bel w w') : MetO w' t v mb st := by
  cases st with
  | none => exact h
  | some x =>
    obtain ⟨g, e1, e2, hm, h0⟩ := h
    exact ⟨g, e1, e2, hm.to hb, h0⟩
theorem Upd.grown {g : Nat} {w w' : World} (h : Upd g w w') : w.grownBy w' (some g) := ⟨h.os, h.tape, h.output, Nat.le_of_eq h.size.symm, fun k _ hk => h.block k (fun e => hk (by rw [e]))⟩
theorem spendS_in {b s n : Int} {o : Bool} (h0 : 0 ≤ s) (h1 : s ≤ b) : 0 ≤ spendS b s o n ∧ spendS b s o n ≤ b := by
  have := spendS_range o n h1
  omega
/-- What is below, but the budget's block, is as it was. -/
theorem grown_row {α : Type} {d : Ty α} {w w' : World} {mb : Option Nat} {S : Nat → Prop} {A : Option Addr} {c : Nat} {xs : List α} (h : Rd d w S A c xs) (hg : w.grownBy w' mb) (hS : ∀ k, S k → some k ≠ mb) : Rd d w' S A c xs :=
  (h.bound.step' (fun k hk => hg.block k hk.2 (hS k hk.1))).mono (fun _ hk => hk.1)
end Go.Cb
namespace Go.Proofs.YtmdcgekiiopohaaGreat
open Go.RowKit Go.Cb
theorem spendM_s1 (v : Value) (mb : Option Nat) (st : MSt) (n : Int) (w : World) (h : MetO w 120 v mb st) :
    Calls Tryz.prog 50 #[v, .int .i64 n] w fun e w' => e = .returned (.bool (spendM st n).2) ∧ MetO w' 120 v mb (spendM st n).1 ∧ w.grownBy w' mb ∧ w'.heap.size = w.heap.size := by
  rcases st with _ | ⟨b, s, o⟩
  · obtain ⟨rfl, rfl⟩ := h
    refine (spendNil_s1 n w).mono ?_
    rintro e w' ⟨rfl, rfl⟩
    exact ⟨rfl, ⟨rfl, rfl⟩, ⟨rfl, rfl, rfl, Nat.le_refl _, fun _ _ _ => rfl⟩, rfl⟩
  · obtain ⟨g, rfl, rfl, hm, h0, h1, h2⟩ := h
    refine (spend_s1 g b s o n w hm h0 h1 h2).mono ?_
    rintro e w' ⟨rfl, hm2, hu⟩
    exact ⟨rfl, ⟨g, rfl, rfl, hm2, (spendS_in h0 h1).1, (spendS_in h0 h1).2, h2⟩, hu.grown, hu.size⟩
theorem spendM_s2 (v : Value) (mb : Option Nat) (st : MSt) (n : Int) (w : World) (h : MetO w 82 v mb st) :
    Calls Tryz.prog 32 #[v, .int .i64 n] w fun e w' => e = .returned (.bool (spendM st n).2) ∧ MetO w' 82 v mb (spendM st n).1 ∧ w.grownBy w' mb ∧ w'.heap.size = w.heap.size := by
  rcases st with _ | ⟨b, s, o⟩
  · obtain ⟨rfl, rfl⟩ := h
    refine (spendNil_s2 n w).mono ?_
    rintro e w' ⟨rfl, rfl⟩
    exact ⟨rfl, ⟨rfl, rfl⟩, ⟨rfl, rfl, rfl, Nat.le_refl _, fun _ _ _ => rfl⟩, rfl⟩
  · obtain ⟨g, rfl, rfl, hm, h0, h1, h2⟩ := h
    refine (spend_s2 g b s o n w hm h0 h1 h2).mono ?_
    rintro e w' ⟨rfl, hm2, hu⟩
    exact ⟨rfl, ⟨g, rfl, rfl, hm2, (spendS_in h0 h1).1, (spendS_in h0 h1).2, h2⟩, hu.grown, hu.size⟩
end Go.Proofs.YtmdcgekiiopohaaGreat

/- Walks: semi.Same, the union of two. -/
namespace Go.Cb
open Go.RowKit
/-- The words of both. -/
def unionS (a b : SemS) : SemS := if (rightS a && rightS b) = true then (ofS (a ++ b)).1 else []
theorem unionS_no {a b : SemS} (h : (rightS a && rightS b) = false) : unionS a b = [] := by unfold unionS; rw [h]; rfl
theorem unionS_yes {a b : SemS} (h : rightS a = true) (h2 : rightS b = true) : unionS a b = (ofS (a ++ b)).1 := by unfold unionS; rw [h, h2]; rfl
theorem unionS_right (a b : SemS) : rightS (unionS a b) = true := by
  unfold unionS
  split
  · exact ofS_right _
  · rfl
end Go.Cb
namespace Go.Proofs.YtmdcgekiiopohaaGreat
open Go.RowKit Go.Cb Go.Sort
end Go.Proofs.YtmdcgekiiopohaaGreat

/- Walks: the union of two semilinear sets. -/
namespace Go.Cb
theorem own_new_ne {ob : Option Nat} {N j : Nat} (h : ob = none ∨ ob = some N) (hj : j < N) : some j ≠ ob := by
  rcases h with rfl | rfl
  · intro e; cases e
  · intro e; injection e with e; omega
end Go.Cb
namespace Go.Proofs.YtmdcgekiiopohaaGreat
open Go.RowKit Go.Cb Go.Sort
set_option maxRecDepth 100000 in
set_option maxHeartbeats 4000000 in
theorem refUnion_c (S S' : Nat → Prop) (A B : Option Addr) (ca cb : Nat) (a b : SemS) (w : World) (ha : Rd linT w S A ca a) (hb : Rd linT w S' B cb b) (n m : Nat) (hn : n = a.length) (hm : m = b.length) (hl : a.length + b.length ≤ 1073741824) (hl3 : ∀ x ∈ a ++ b, x.2.length ≤ 4294967296) :
    Calls Tryz.prog 35 #[.slice A n ca, .slice B m cb] w fun e w' => ∃ A' c', e = .returned (.slice A' (unionS a b).length c') ∧ Rd linT w' (Ge w.heap.size) A' c' (unionS a b) ∧ Bel w w' := by
  subst hn hm
  have Hl3 := Lib.hid hl3
  clear hl3
  have KA := Lib.hid (show ∀ W, Bel w W → Calls Tryz.prog 67 #[.slice A a.length ca] W fun e w' => e = .returned (.bool (rightS a)) ∧ Bel W w' from fun W h => refRightSem_c _ _ _ _ _ (ha.to h) _ rfl)
  have KB := Lib.hid (show ∀ W, Bel w W → Calls Tryz.prog 67 #[.slice B b.length cb] W fun e w' => e = .returned (.bool (rightS b)) ∧ Bel W w' from fun W h => refRightSem_c _ _ _ _ _ (hb.to h) _ rfl)
  cases hra : rightS a with
  | false =>
    have Hu := Lib.hid (unionS_no (a := a) (b := b) (by rw [hra]; rfl))
    rw [hra] at KA
    clear hra
    go_enter Tryz.func35, Tryz.ntmps35
    go_wp2_with fail
    refine (KA.out _ (Bel.refl _)).mono ?_
    rintro e w1 ⟨rfl, hb1⟩
    go_wp2
    go_ret
    exact ⟨none, 0, by rw [Hu.out]; rfl, by rw [Hu.out]; exact Rd.nil _ _ _ _ _ (by decide), hb1⟩
  | true =>
    cases hrb : rightS b with
    | false =>
      have Hu := Lib.hid (unionS_no (a := a) (b := b) (by rw [hra, hrb]; rfl))
      rw [hra] at KA
      rw [hrb] at KB
      clear hra hrb
      go_enter Tryz.func35, Tryz.ntmps35
      go_wp2_with fail
      refine (KA.out _ (Bel.refl _)).mono ?_
      rintro e w1 ⟨rfl, hb1⟩
      go_wp2_with fail
      refine (KB.out _ hb1).mono ?_
      rintro e w2 ⟨rfl, hb2⟩
      go_wp2
      go_ret
      exact ⟨none, 0, by rw [Hu.out]; rfl, by rw [Hu.out]; exact Rd.nil _ _ _ _ _ (by decide), hb1.trans hb2⟩
    | true =>
      have Hu := Lib.hid (unionS_yes hra hrb)
      rw [hra] at KA
      rw [hrb] at KB
      clear hra hrb
      go_enter Tryz.func35, Tryz.ntmps35
      go_wp2_with fail
      refine (KA.out _ (Bel.refl _)).mono ?_
      rintro e w1 ⟨rfl, hb1⟩
      go_wp2_with fail
      refine (KB.out _ hb1).mono ?_
      rintro e w2 ⟨rfl, hb2⟩
      have hb12 := hb1.trans hb2
      obtain ⟨ab, hab⟩ : ∃ ab, a ++ b = ab := ⟨_, rfl⟩
      have hll : ab.length ≤ 1073741824 := by rw [← hab, List.length_append]; omega
      have Hab := Lib.hid hab
      have HRA := Lib.hid ((ha.to hb12).all)
      have HRB := Lib.hid ((hb.to hb12).bound)
      clear hab ha hb
      go_wp2_with (first
        | (at_builtin; refine wp_append_ty linT (w0 := w) 23 24 30 30 (.agg #[.slice none 0 0, .slice none 0 0]) 48 rfl (.const (.slice none 0 0)) (.tmp 16) rfl Tryz.underlying23 Tryz.underlying24 info_lin rfl All All (.slice none 0 0) [] a A a.length ca rfl rfl rfl (Own.nil _ _ _ _ _) HRA.out (linT.rdS (fun j hj _ => ⟨trivial, fun e => by cases e⟩)) hb12 (by simp [maxLen]; omega) (by simp; omega) ?_; rintro v3 w3 ho3 hb3 hg3 hf3; rw [List.nil_append] at ho3; obtain ⟨A3, c3, hv3⟩ := ho3.form; subst hv3; have HO3 := Lib.hid ho3; have HF3 := Lib.hid hf3; have hb23 : Bel w2 w3 := (Bel.refl w2).grown hg3 (fun k hk => by cases hk); clear ho3 hf3 hg3)
        | (at_builtin; go_loud (refine wp_append_ty linT (w0 := w) 23 24 30 30 (.agg #[.slice none 0 0, .slice none 0 0]) 48 rfl (.tmp 17) (.tmp 18) rfl Tryz.underlying23 Tryz.underlying24 info_lin rfl All _ (.slice A3 a.length c3) a b B b.length cb rfl rfl rfl HO3.out (HRB.out.to hb23) (linT.rdS (fun j hj _ => ⟨trivial, own_new_ne HF3.out hj.2⟩)) hb3 (by unfold maxLen; omega) (by omega) ?_); rintro v4 w4 ho4 hb4 _ _; rw [Hab.out] at ho4; obtain ⟨A4, c4, hv4, hr4⟩ := ho4.rd; subst hv4; clear ho4))
      refine (refOfSem_c _ _ _ _ _ hr4 _ rfl hll (by rw [← Hab.out]; exact Hl3.out)).mono ?_
      rintro e w5 ⟨A5, c5, rfl, hr5, hb5⟩
      have hs3 := hb4.size
      go_wp2
      go_ret
      exact ⟨A5, c5, by rw [Hu.out, Hab.out]; rfl, by rw [Hu.out, Hab.out]; exact hr5.mono (fun k hk => by unfold Ge at *; omega), hb4.trans hb5⟩
end Go.Proofs.YtmdcgekiiopohaaGreat

/- The library: semilinear sets as results, the program's (one's own), the document's (read alone). -/
namespace Go.Cb
open Go.RowKit
def PLin (w : World) (b : Nat) (A0 : Option Addr) (c0 : Nat) (A1 : Option Addr) (c1 : Nat) (x : Lin) : Prop := RdW w (Ge b) A0 c0 x.1 ∧ Rd wbT w (Ge b) A1 c1 x.2
def DLin (w : World) (b : Nat) (A0 : Option Addr) (c0 : Nat) (A1 : Option Addr) (c1 : Nat) (x : Lin) : Prop := Rd intT w (Ge b) A0 c0 x.1 ∧ Rd bagT w (Ge b) A1 c1 x.2
theorem PLin.to {w w' : World} {b : Nat} {A0 : Option Addr} {c0 : Nat} {A1 : Option Addr} {c1 : Nat} {x : Lin} (h : PLin w b A0 c0 A1 c1 x) (hb : Bel w w') : PLin w' b A0 c0 A1 c1 x := ⟨h.1.to hb, h.2.to hb⟩
theorem DLin.to {w w' : World} {b : Nat} {A0 : Option Addr} {c0 : Nat} {A1 : Option Addr} {c1 : Nat} {x : Lin} (h : DLin w b A0 c0 A1 c1 x) (hb : Bel w w') : DLin w' b A0 c0 A1 c1 x := ⟨h.1.to hb, h.2.to hb⟩
theorem PLin.r {w : World} {b : Nat} {A0 : Option Addr} {c0 : Nat} {A1 : Option Addr} {c1 : Nat} {x : Lin} (h : PLin w b A0 c0 A1 c1 x) : DLin w b A0 c0 A1 c1 x := ⟨h.1.rd, h.2.bags⟩
theorem DLin.r {w : World} {b : Nat} {A0 : Option Addr} {c0 : Nat} {A1 : Option Addr} {c1 : Nat} {x : Lin} (h : DLin w b A0 c0 A1 c1 x) : DLin w b A0 c0 A1 c1 x := h
def PSem (t : TypeId) (b : Nat) (w : World) (v : Value) (s : SemS) : Prop := Own wlinT t w b (Ge b) v s
def DSem (_ : TypeId) (b : Nat) (w : World) (v : Value) (s : SemS) : Prop := ∃ A c, v = .slice A s.length c ∧ Rd linT w (Ge b) A c s
theorem PSem.nil (t : TypeId) (b : Nat) (w : World) : PSem t b w (.slice none 0 0) [] := Own.nil _ _ _ _ _
theorem DSem.nil (t : TypeId) (b : Nat) (w : World) : DSem t b w (.slice none 0 0) [] := ⟨none, 0, rfl, Rd.nil _ _ _ _ _ (by decide)⟩
theorem PSem.to {t : TypeId} {b : Nat} {w w' : World} {v : Value} {s : SemS} (h : PSem t b w v s) (hb : Bel w w') : PSem t b w' v s := Own.to h hb
theorem DSem.to {t : TypeId} {b : Nat} {w w' : World} {v : Value} {s : SemS} (h : DSem t b w v s) (hb : Bel w w') : DSem t b w' v s := by
  obtain ⟨A, c, e, r⟩ := h
  exact ⟨A, c, e, r.to hb⟩
theorem PSem.lower {t : TypeId} {b b' : Nat} {w : World} {v : Value} {s : SemS} (h : PSem t b w v s) (hb : b' ≤ b) : PSem t b' w v s := (Own.lower h hb).mono (fun k hk => by unfold Ge at *; omega)
theorem DSem.lower {t : TypeId} {b b' : Nat} {w : World} {v : Value} {s : SemS} (h : DSem t b w v s) (hb : b' ≤ b) : DSem t b' w v s := by
  obtain ⟨A, c, e, r⟩ := h
  exact ⟨A, c, e, r.mono (fun k hk => by unfold Ge at *; omega)⟩
theorem PSem.rd {t : TypeId} {b : Nat} {w : World} {v : Value} {s : SemS} (h : PSem t b w v s) : DSem t b w v s := by
  obtain ⟨A, c, e, r⟩ := Own.rdGe h
  exact ⟨A, c, e, r.as rfl (fun _ _ _ => wlin_lin)⟩
theorem DSem.rd {t : TypeId} {b : Nat} {w : World} {v : Value} {s : SemS} (h : DSem t b w v s) : DSem t b w v s := h
theorem DSem.lit {w : World} {b : Nat} {A0 : Option Addr} {c0 : Nat} {A1 : Option Addr} {c1 : Nat} {x : Lin} (h : DLin w b A0 c0 A1 c1 x) (hb : b ≤ w.heap.size) (t : TypeId) :
    DSem t b (w.alloc (.cells #[.slice A0 x.1.length c0, .slice A1 x.2.length c1] t)) (.slice (some ⟨w.heap.size, 0, none⟩) 1 1) [x] := by
  have hal : Bel w (w.alloc (.cells #[.slice A0 x.1.length c0, .slice A1 x.2.length c1] t)) := (Bel.refl _).alloc _
  have h3 := heap_alloc_new w (.cells #[.slice A0 x.1.length c0, .slice A1 x.2.length c1] t)
  refine ⟨_, 1, rfl, by simp, by decide, fun j y hj => ?_⟩
  rcases j with _ | j
  · obtain rfl : x = y := by simpa using hj
    refine ⟨_, [.slice A0 x.1.length c0, .slice A1 x.2.length c1], rfl, hb, lin_mk (h.1.to hal) (h.2.to hal), fun i u hu => ?_⟩
    rw [add_plain, cellAt h3, show 0 * linT.sz + i = i by omega]
    rcases i with _ | _ | i
    · exact hu
    · exact hu
    · simp at hu
  · simp at hj
theorem PSem.lit {w : World} {b : Nat} {A0 : Option Addr} {c0 : Nat} {A1 : Option Addr} {c1 : Nat} {x : Lin} (h : PLin w b A0 c0 A1 c1 x) (hb : b ≤ w.heap.size) (t : TypeId) :
    PSem t b (w.alloc (.cells #[.slice A0 x.1.length c0, .slice A1 x.2.length c1] t)) (.slice (some ⟨w.heap.size, 0, none⟩) 1 1) [x] := by
  have hal : Bel w (w.alloc (.cells #[.slice A0 x.1.length c0, .slice A1 x.2.length c1] t)) := (Bel.refl _).alloc _
  have ho := World.ownsRow_lit (base := b) (e := t) (size := 2) w #[.slice A0 x.1.length c0, .slice A1 x.2.length c1] 1 hb (by decide) rfl
  refine ⟨_, ho, fun j y hj => ?_⟩
  rcases j with _ | j
  · obtain rfl : x = y := by simpa using hj
    have hne : ∀ {S : Nat → Prop} k, S k ∧ k < w.heap.size → S k ∧ some k ≠ (Value.slice (some ⟨w.heap.size, 0, none⟩) 1 1).ownBlock := fun k hk => ⟨hk.1, fun e => by have e2 : k = w.heap.size := Option.some.inj e; omega⟩
    exact ⟨[_], [_], rfl, ⟨_, _, rfl, ((h.1.bound).to hal).mono hne⟩, ⟨_, _, rfl, ((h.2.bound).to hal).mono hne⟩⟩
  · simp at hj

/-! ### the product of two, the star of one, by a budget -/
/-- Each with each. -/
def prodL (a b : SemS) : List (Lin × Bool) := a.flatMap fun x => b.map fun y => catL x y
theorem prodL_length (a b : SemS) : (prodL a b).length = a.length * b.length := by
  induction a with
  | nil => simp [prodL]
  | cons x a ih =>
    show (b.map _ ++ prodL a b).length = _
    rw [List.length_append, ih, List.length_map, List.length_cons, Nat.succ_mul]; omega
theorem prodL_get : ∀ {a b : SemS} {i j : Nat} {x y : Lin}, a[i]? = some x → b[j]? = some y → (prodL a b)[i * b.length + j]? = some (catL x y)
  | [], b, i, j, x, y, h, _ => by simp at h
  | z :: a, b, 0, j, x, y, h, h2 => by
    obtain rfl : z = x := by simpa using h
    have hj := (List.getElem?_eq_some_iff.1 h2).1
    show (b.map _ ++ prodL a b)[0 * b.length + j]? = _
    rw [Nat.zero_mul, Nat.zero_add, List.getElem?_append_left (by rw [List.length_map]; exact hj), List.getElem?_map, h2]; rfl
  | z :: a, b, i + 1, j, x, y, h, h2 => by
    have ih := prodL_get (a := a) (i := i) (by simpa using h) h2
    show (b.map _ ++ prodL a b)[(i + 1) * b.length + j]? = _
    rw [List.getElem?_append_right (by rw [List.length_map, Nat.succ_mul]; omega), List.length_map, ← ih]
    congr 1
    rw [Nat.succ_mul]; omega
theorem prodL_mem {a b : SemS} {p : Lin × Bool} (h : p ∈ prodL a b) : ∃ x ∈ a, ∃ y ∈ b, p = catL x y := by
  obtain ⟨x, hx, h2⟩ := List.mem_flatMap.1 h
  obtain ⟨y, hy, rfl⟩ := List.mem_map.1 h2
  exact ⟨x, hx, y, hy, rfl⟩
/-- What the product is: what is left of the budget, the set, why not. -/
def catS (st : MSt) (a b : SemS) : MSt × SemS × Int :=
  if (rightS a && rightS b) = true then
    if (spendM st (a.length * b.length : Nat)).2 = true then
      if (prodL a b).all (fun p => p.2) = true then ((spendM st (a.length * b.length : Nat)).1, (ofS ((prodL a b).map (fun p => p.1))).1, 0)
      else ((spendM st (a.length * b.length : Nat)).1, [], 3)
    else ((spendM st (a.length * b.length : Nat)).1, [], 7)
  else (st, [], 1)
theorem catS_arg {st : MSt} {a b : SemS} (h : (rightS a && rightS b) = false) : catS st a b = (st, [], 1) := by unfold catS; rw [if_neg (by simp [h])]
theorem catS_work {st : MSt} {a b : SemS} (h : rightS a = true) (h1 : rightS b = true) (h2 : (spendM st (a.length * b.length : Nat)).2 = false) : catS st a b = ((spendM st (a.length * b.length : Nat)).1, [], 7) := by
  unfold catS; rw [if_pos (by rw [h, h1]; rfl), if_neg (by rw [h2]; decide)]
theorem catS_limit {st : MSt} {a b : SemS} (h : rightS a = true) (h1 : rightS b = true) (h2 : (spendM st (a.length * b.length : Nat)).2 = true) {p : Lin × Bool} (hp : p ∈ prodL a b) (h3 : p.2 = false) : catS st a b = ((spendM st (a.length * b.length : Nat)).1, [], 3) := by
  unfold catS
  rw [if_pos (by rw [h, h1]; rfl), if_pos h2, if_neg (fun e => by have := List.all_eq_true.1 e p hp; rw [h3] at this; cases this)]
theorem catS_ok {st : MSt} {a b : SemS} (h : rightS a = true) (h1 : rightS b = true) (h2 : (spendM st (a.length * b.length : Nat)).2 = true) (h3 : ∀ p ∈ prodL a b, p.2 = true) : catS st a b = ((spendM st (a.length * b.length : Nat)).1, (ofS ((prodL a b).map (fun p => p.1))).1, 0) := by
  unfold catS
  rw [if_pos (by rw [h, h1]; rfl), if_pos h2, if_pos (List.all_eq_true.2 h3)]
theorem catS_right (st : MSt) (a b : SemS) : rightS (catS st a b).2.1 = true := by
  unfold catS
  split
  · split
    · split
      · exact ofS_right _
      · rfl
    · rfl
  · rfl
/-- All words together of points: what is left, the set, why not. -/
def starS (st : MSt) (s : SemS) : MSt × SemS × Int :=
  if rightS s = true ∧ s.all (fun x => x.2.isEmpty) = true then
    if (spendM st (s.length : Nat)).2 = true then ((spendM st (s.length : Nat)).1, [(ofLin [] (s.map (fun x => x.1))).1], 0)
    else ((spendM st (s.length : Nat)).1, [], 7)
  else (st, [], 1)
theorem starS_arg {st : MSt} {s : SemS} (h : rightS s = false) : starS st s = (st, [], 1) := by unfold starS; rw [if_neg (by simp [h])]
theorem starS_point {st : MSt} {s : SemS} {x : Lin} (hx : x ∈ s) (h : x.2.isEmpty = false) : starS st s = (st, [], 1) := by
  unfold starS
  rw [if_neg (fun e => by have := List.all_eq_true.1 e.2 x hx; rw [h] at this; cases this)]
theorem starS_work {st : MSt} {s : SemS} (h : rightS s = true) (h1 : ∀ x ∈ s, x.2.isEmpty = true) (h2 : (spendM st (s.length : Nat)).2 = false) : starS st s = ((spendM st (s.length : Nat)).1, [], 7) := by
  unfold starS; rw [if_pos ⟨h, List.all_eq_true.2 h1⟩, if_neg (by rw [h2]; decide)]
theorem starS_ok {st : MSt} {s : SemS} (h : rightS s = true) (h1 : ∀ x ∈ s, x.2.isEmpty = true) (h2 : (spendM st (s.length : Nat)).2 = true) : starS st s = ((spendM st (s.length : Nat)).1, [(ofLin [] (s.map (fun x => x.1))).1], 0) := by
  unfold starS; rw [if_pos ⟨h, List.all_eq_true.2 h1⟩, if_pos h2]
end Go.Cb
namespace Go.Proofs.YtmdcgekiiopohaaGreat
open Go.RowKit Go.Cb Go.Sort
theorem ofP_c (S : Nat → Prop) (A : Option Addr) (c : Nat) (l : SemS) (w : World) (h : Rd linT w S A c l) (n : Nat) (hn : n = l.length) (hl : l.length ≤ 1073741824) (hl3 : ∀ x ∈ l, x.2.length ≤ 4294967296) :
    Calls Tryz.prog 25 #[.slice A n c] w fun e w' => ∃ v, e = .returned (.tuple #[v, .bool (ofS l).2]) ∧ PSem 30 w.heap.size w' v (ofS l).1 ∧ Bel w w' :=
  semiOf_c S A c l w h n hn (by omega) hl3
theorem ofD_c (S : Nat → Prop) (A : Option Addr) (c : Nat) (l : SemS) (w : World) (h : Rd linT w S A c l) (n : Nat) (hn : n = l.length) (hl : l.length ≤ 1073741824) (hl3 : ∀ x ∈ l, x.2.length ≤ 4294967296) :
    Calls Tryz.prog 68 #[.slice A n c] w fun e w' => ∃ v, e = .returned (.tuple #[v, .bool (ofS l).2]) ∧ DSem 30 w.heap.size w' v (ofS l).1 ∧ Bel w w' :=
  (refOfSem_c S A c l w h n hn hl hl3).mono fun _ _ ⟨A', c', e, r, hb⟩ => ⟨_, e, ⟨A', c', rfl, r⟩, hb⟩
theorem catD_c (S0 S1 S2 S3 : Nat → Prop) (A0 A1 B0 B1 : Option Addr) (c0 c1 d0 d1 : Nat) (x y : Lin) (w : World) (h0 : Rd intT w S0 A0 c0 x.1) (h1 : Rd bagT w S1 A1 c1 x.2) (g0 : Rd intT w S2 B0 d0 y.1) (g1 : Rd bagT w S3 B1 d1 y.2) (hlen : x.2.length + y.2.length ≤ 4294967295) :
    Calls Tryz.prog 69 #[.agg #[.slice A0 x.1.length c0, .slice A1 x.2.length c1], .agg #[.slice B0 y.1.length d0, .slice B1 y.2.length d1]] w fun e w' => ∃ C0 e0 C1 e1, e = .returned (.tuple #[.agg #[.slice C0 (catL x y).1.1.length e0, .slice C1 (catL x y).1.2.length e1], .bool (catL x y).2]) ∧ DLin w' w.heap.size C0 e0 C1 e1 (catL x y).1 ∧ Bel w w' :=
  (refCat_c S0 S1 S2 S3 A0 A1 B0 B1 c0 c1 d0 d1 x y w h0 h1 g0 g1 _ _ _ _ rfl rfl rfl rfl hlen).mono fun _ _ ⟨C0, e0, C1, e1, e, r0, r1, hb⟩ => ⟨C0, e0, C1, e1, e, ⟨r0, r1⟩, hb⟩
theorem oflD_c (S' : Nat → Prop) (B : Option Addr) (cb : Nat) (ps : List (List Int)) (w : World) (h1 : Rd bagT w S' B cb ps) (m : Nat) (hm : m = ps.length) (hl2 : ps.length ≤ 4294967296) (hl3 : ∀ p ∈ ps, p.length ≤ 4294967296) :
    Calls Tryz.prog 71 #[.slice none 0 0, .slice B m cb] w fun e w' => ∃ A0 c0 A1 c1, e = .returned (.tuple #[.agg #[.slice A0 (ofLin [] ps).1.1.length c0, .slice A1 (ofLin [] ps).1.2.length c1], .bool (ofLin [] ps).2]) ∧ DLin w' w.heap.size A0 c0 A1 c1 (ofLin [] ps).1 ∧ Bel w w' :=
  (refOfLin_c All S' none B 0 cb [] ps w (Rd.nil _ _ _ _ _ (by decide)) h1 0 m rfl hm (by simp) hl2 hl3).mono fun _ _ ⟨A0, c0, A1, c1, e, r0, r1, hb⟩ => ⟨A0, c0, A1, c1, e, ⟨r0, r1⟩, hb⟩
end Go.Proofs.YtmdcgekiiopohaaGreat

/- Walks: the star of points, the product of two semilinear sets. -/
namespace Go.Cb
open Go.RowKit
theorem DLin.bag {w : World} {b : Nat} {A0 : Option Addr} {c0 : Nat} {A1 : Option Addr} {c1 : Nat} {x : Lin} (h : DLin w b A0 c0 A1 c1 x) : Rd intT w (Ge b) A0 c0 x.1 := h.1
theorem bag_lit {w : World} {S : Nat → Prop} {A : Option Addr} {c : Nat} {x : List Int} (h : Rd intT w S A c x) (t : TypeId) :
    Rd bagT (w.alloc (.cells #[.slice A x.length c] t)) (fun k => S k ∨ k = w.heap.size) (some ⟨w.heap.size, 0, none⟩) 1 [x] := by
  have hal : Bel w (w.alloc (.cells #[.slice A x.length c] t)) := (Bel.refl _).alloc _
  have h3 := heap_alloc_new w (.cells #[.slice A x.length c] t)
  refine ⟨by simp, by decide, fun j y hj => ?_⟩
  rcases j with _ | j
  · obtain rfl : x = y := by simpa using hj
    refine ⟨_, [.slice A x.length c], rfl, .inr rfl, ⟨A, c, rfl, (h.to hal).mono (fun k hk => .inl hk)⟩, fun i u hu => ?_⟩
    rcases i with _ | i
    · rw [add_plain, cellAt h3]; exact hu
    · simp at hu
  · simp at hj
theorem map_snoc {α β : Type} (f : α → β) {l : List α} {k : Nat} {x : α} (h : l[k]? = some x) : (l.take (k + 1)).map f = (l.take k).map f ++ [f x] := by
  rw [List.take_add_one, h]; simp
theorem all_snocP {l : SemS} {k : Nat} {x : Lin} (hx : l[k]? = some x) (h : ∀ y ∈ l.take k, y.2.isEmpty = true) (hr : x.2.isEmpty = true) : ∀ y ∈ l.take (k + 1), y.2.isEmpty = true := by
  intro y hy
  rw [List.take_add_one, hx] at hy
  rcases List.mem_append.1 hy with h1 | h1
  · exact h y h1
  · simp at h1; subst h1; exact hr
theorem MetO.at_ {w : World} {t : TypeId} {v : Value} {mb : Option Nat} {st : MSt} (h : MetO w t v mb st) : ∀ g, mb = some g → g < w.heap.size := by
  intro g hg
  cases st with
  | none => obtain ⟨_, e⟩ := h; rw [hg] at e; cases e
  | some x =>
    obtain ⟨g', _, e2, hm, _⟩ := h
    rw [hg] at e2
    injection e2 with e2
    subst e2
    exact hm.lt
end Go.Cb
namespace Go.Proofs.YtmdcgekiiopohaaGreat
open Go.RowKit Go.Cb Go.Sort
set_option maxRecDepth 100000 in
set_option maxHeartbeats 8000000 in
theorem refStar_c (mv : Value) (mb : Option Nat) (st : MSt) (S : Nat → Prop) (A : Option Addr) (c : Nat) (s : SemS) (w : World) (hm : MetO w 82 mv mb st) (h : Rd linT w S A c s) (hS : ∀ k, S k → some k ≠ mb) (n : Nat) (hn : n = s.length) (hl : s.length ≤ 4294967296) :
    Calls Tryz.prog 37 #[mv, .slice A n c] w fun e w' => ∃ v, e = .returned (.tuple #[v, .int .i64 (starS st s).2.2]) ∧ DSem 30 w.heap.size w' v (starS st s).2.1 ∧ MetO w' 82 mv mb (starS st s).1 ∧ w.grownBy w' mb := by
  subst hn
  have lm := h.lenMax
  have HMB := Lib.hid (hm.at_)
  obtain ⟨SX, hSX⟩ : ∃ SX : Nat → Prop, SX = fun k => (S k ∧ k < w.heap.size) ∨ w.heap.size ≤ k := ⟨_, rfl⟩
  have HSX := Lib.hid (show ∀ k, SX k → some k ≠ mb from fun k hk e => by
    rw [hSX] at hk
    rcases hk with hk | hk
    · exact hS k hk.1 e
    · have := HMB.out k e.symm; omega)
  replace h := h.bound
  have HS0 := Lib.hid (show ∀ k, S k ∧ k < w.heap.size → SX k from fun k hk => by rw [hSX]; exact .inl hk)
  have HS1 := Lib.hid (show ∀ k, w.heap.size ≤ k → SX k from fun k hk => by rw [hSX]; exact .inr hk)
  clear hSX hS
  cases hr : rightS s with
  | false =>
    have Hu := Lib.hid (starS_arg (st := st) hr)
    have KA := Lib.hid (refRightSem_c _ _ _ _ _ h _ rfl)
    rw [hr] at KA
    have HM := Lib.hid hm
    clear hr hm
    go_enter Tryz.func37, Tryz.ntmps37
    go_wp2_with fail
    refine KA.out.mono ?_
    rintro e w1 ⟨rfl, hb1⟩
    go_wp2
    go_ret2
    rw [Hu.out]
    exact ⟨_, rfl, DSem.nil _ _ _, HM.out.grown hb1, bel_grown hb1⟩
  | true =>
    have KA := Lib.hid (refRightSem_c _ _ _ _ _ h _ rfl)
    rw [hr] at KA
    have HR := Lib.hid hr
    have HM := Lib.hid hm
    clear hr hm
    go_enter Tryz.func37, Tryz.ntmps37
    go_wp2_with fail
    refine KA.out.mono ?_
    rintro e w1 ⟨rfl, hb1⟩
    clear KA
    go_wp2
    go_loopw [6, 16] (fun v6 v16 wr => ∃ (k : Nat) (W : World) (AO : Option Addr) (cO : Nat), W = wr ∧ k ≤ s.length ∧ v16 = .int .i64 k ∧ v6 = .slice AO k cO ∧ Hid (∀ y ∈ s.take k, y.2.isEmpty = true) ∧
        Own bagT 27 W w.heap.size SX (.slice AO k cO) ((s.take k).map (fun x => x.1)) ∧ Bel w W) (fun _ v16 _ => s.length - (intOf v16).toNat)
    case atStart => exact ⟨0, _, none, 0, rfl, Nat.zero_le _, rfl, rfl, (fun y hy => by simp at hy : ∀ y ∈ s.take 0, y.2.isEmpty = true), Own.nil _ _ _ _ _, hb1⟩
    case round =>
      clear hb1
      obtain ⟨k, W, AO, cO, rfl, hk, rfl, rfl, HP, hO, hb⟩ := hrel
      by_cases hlt : k < s.length
      · obtain ⟨ad, A0, c0, A1, c1, rfl, g0, g1, r0, r1⟩ := (h.to hb).lrow hlt
        obtain ⟨x, hx⟩ : ∃ x, s[k] = x := ⟨_, rfl⟩
        have HX := Lib.hid (show s[k]? = some x by rw [List.getElem?_eq_getElem hlt, hx])
        have HT := Lib.hid (map_snoc (fun x : Lin => x.1) HX.out)
        rw [hx] at g0 g1 r0 r1
        have hal : Bel W (W.alloc (.cells #[.slice A0 x.1.length c0, .slice A1 x.2.length c1] 30)) := (Bel.refl _).alloc _
        have TB := Box.new W 30 (.slice A0 x.1.length c0) (.slice A1 x.2.length c1)
        have hb1 := hb.trans hal
        replace r0 := r0.to hal
        replace r1 := r1.to hal
        have HO := Lib.hid (hO.to hal)
        have HG := Lib.hid (fun j hj => hO.lt (k := j) hj)
        have hbs := hb.size
        obtain ⟨t0, t1, _, _⟩ := TB.cells
        have hxr : rightL x = true := (rightS_iff.1 HR.out).each x (List.mem_of_getElem? HX.out)
        have Q := refPoint_c _ _ _ _ _ _ x.1 x.2 _ r0 r1 _ _ rfl rfl
        rw [show ((x.1, x.2) : Lin) = x from rfl, hxr, Bool.true_and] at Q
        clear hx hO hxr
        cases he : x.2.isEmpty with
        | false =>
          have Hu := Lib.hid (starS_point (st := st) (List.mem_of_getElem? HX.out) he)
          rw [he] at Q
          have HQ := Lib.hid Q
          clear he Q
          go_wp2_with fail
          refine HQ.out.mono ?_
          rintro e w2 ⟨rfl, hb2⟩
          go_wp2
          go_ret2
          rw [Hu.out]
          exact ⟨_, rfl, DSem.nil _ _ _, HM.out.grown (hb1.trans hb2), bel_grown (hb1.trans hb2)⟩
        | true =>
          have HP2 := Lib.hid (all_snocP HX.out HP.out he)
          rw [he] at Q
          have HQ := Lib.hid Q
          clear he Q
          go_wp2_with fail
          refine HQ.out.mono ?_
          rintro e w2 ⟨rfl, hb2⟩
          have TB2 := TB.to hb2
          obtain ⟨u0, u1, _, _⟩ := TB2.cells
          have hal2 : Bel w2 (w2.alloc (.cells #[.slice A0 x.1.length c0] 27)) := (Bel.refl _).alloc _
          have h2s := hb2.size
          have hWs := hal.size
          have HL := Lib.hid (bag_lit (r0.to hb2) 27)
          have HNE := Lib.hid (show ∀ j, (S j ∧ j < w.heap.size) ∨ j = w2.heap.size → SX j ∧ some j ≠ (Value.slice AO k cO).ownBlock from fun j hj => by
            rcases hj with hj | rfl
            · exact ⟨HS0.out j hj, fun e => by have := HO.out.ge e.symm; omega⟩
            · exact ⟨HS1.out _ (by omega), fun e => by have := HG.out _ e.symm; omega⟩)
          have HO2 := Lib.hid (HO.out.to (hb2.trans hal2))
          have hb3 := hb1.trans (hb2.trans hal2)
          clear t0 t1 g0 g1
          go_wp2_with (at_builtin; refine wp_append bagT (w0 := w) 28 27 (.slice none 0 0) 24 rfl _ _ rfl Tryz.underlying28 info_bag rfl SX _ (.slice AO k cO) ((s.take k).map (fun x => x.1)) [x.1] (some ⟨w2.heap.size, 0, none⟩) 1 1 rfl rfl rfl HO2.out HL.out (bagT.rdS (fun j hj _ => HNE.out j hj)) hb3 (by simp [maxLen]; omega) (by simp; omega) ?_; rintro v6 w6 ho6 hb6 _ _; rw [← HT.out] at ho6; obtain ⟨A6, c6, hv6⟩ := ho6.form; rw [List.length_map, List.length_take, Nat.min_eq_left (by omega)] at hv6; subst hv6)
          go_roundw
          case rel => exact ⟨k + 1, _, A6, c6, rfl, by omega, by go_num, rfl, HP2.out, ho6, hb6⟩
          case measure => simp [intOf]; omega
      · obtain rfl : k = s.length := by omega
        rw [List.take_length] at hO
        have HPs := Lib.hid (show ∀ y ∈ s, y.2.isEmpty = true by have := HP.out; rwa [List.take_length] at this)
        have hms := HM.out.grown hb
        have KS := Lib.hid (spendM_s2 mv mb st (s.length : Nat) _ hms)
        have HO := Lib.hid hO
        clear HP hlt hO hms
        cases hw : (spendM st (s.length : Nat)).2 with
        | false =>
          have Hu := Lib.hid (starS_work HR.out HPs.out hw)
          rw [hw] at KS
          clear hw
          go_wp2_with fail
          refine KS.out.mono ?_
          rintro e w2 ⟨rfl, hm2, hg2, _⟩
          go_wp2
          go_ret2
          rw [Hu.out]
          exact ⟨_, rfl, DSem.nil _ _ _, hm2, grown_trans (bel_grown hb) hg2⟩
        | true =>
          have Hu := Lib.hid (starS_ok HR.out HPs.out hw)
          rw [hw] at KS
          clear hw
          go_wp2_with fail
          refine KS.out.mono ?_
          rintro e w2 ⟨rfl, hm2, hg2, hz2⟩
          obtain ⟨ps, hps⟩ : ∃ ps, s.map (fun x => x.1) = ps := ⟨_, rfl⟩
          have hpl : ps.length = s.length := by rw [← hps, List.length_map]
          have HPS := Lib.hid hps
          have hpr : ∀ p ∈ ps, p.length ≤ 4294967296 := fun p hp => by
            rw [← hps] at hp
            obtain ⟨x, hx, rfl⟩ := List.mem_map.1 hp
            obtain ⟨xa, xp⟩ := x
            have := right_len (rightL_iff.1 ((rightS_iff.1 HR.out).each _ hx)).1
            show xa.length ≤ _
            omega
          have hO2 := HO.out
          rw [hps] at hO2
          obtain ⟨AA, cA, hAA, hrA⟩ := hO2.rd
          rw [hpl] at hAA
          injection hAA with e1 _ e3
          subst e1 e3
          have hrA2 : Rd bagT w2 SX AO cO ps := grown_row (hrA.mono (fun k hk => by
            rcases hk with hk | hk
            · exact hk
            · exact HS1.out k (hO2.ge hk.symm))) hg2 HSX.out
          have hs2 := hb.size
          have hl2 : ps.length ≤ 4294967296 := by omega
          have HPL := Lib.hid hpl
          clear hO2 hrA hps hpl
          go_wp2_with fail
          refine (oflD_c _ _ _ ps w2 hrA2 _ HPL.out.symm hl2 hpr).mono ?_
          rintro e w3 ⟨A0, c0, A1, c1, rfl, hL, hb3⟩
          obtain ⟨x, hx⟩ : ∃ x, (ofLin [] ps).1 = x := ⟨_, rfl⟩
          have HXX := Lib.hid hx
          rw [hx] at hL ⊢
          generalize (ofLin [] ps).2 = bb
          have hal : Bel w3 (w3.alloc (.cells #[.slice A0 x.1.length c0, .slice A1 x.2.length c1] 30)) := (Bel.refl _).alloc _
          have TB := Box.new w3 30 (.slice A0 x.1.length c0) (.slice A1 x.2.length c1)
          obtain ⟨u0, u1, _, _⟩ := TB.cells
          have h3s := hb3.size
          have hrs := DSem.lit (hL.to hal) (by have := hal.size; omega) 30
          rw [show (w3.alloc (.cells #[.slice A0 x.1.length c0, .slice A1 x.2.length c1] 30)).heap.size = w3.heap.size + 1 by simp] at hrs
          have HRS := Lib.hid hrs
          clear hrs
          have hal2 := hb3.trans (hal.alloc (.cells #[.slice A0 x.1.length c0, .slice A1 x.2.length c1] 30))
          clear hx hL hrA2 hpr TB
          go_wp2_with fail
          go_ret2
          rw [Hu.out, HPS.out, HXX.out]
          exact ⟨_, rfl, HRS.out.lower (b' := w.heap.size) (by omega), hm2.grown hal2, grown_trans (grown_trans (bel_grown hb) hg2) (bel_grown hal2)⟩
end Go.Proofs.YtmdcgekiiopohaaGreat

/- Walks: the product of two semilinear sets. -/
namespace Go.Cb
open Go.RowKit
theorem okP_snoc {l : List (Lin × Bool)} {k : Nat} {x : Lin × Bool} (hx : l[k]? = some x) (h : ∀ y ∈ l.take k, y.2 = true) (hr : x.2 = true) : ∀ y ∈ l.take (k + 1), y.2 = true := by
  intro y hy
  rw [List.take_add_one, hx] at hy
  rcases List.mem_append.1 hy with h1 | h1
  · exact h y h1
  · simp at h1; subst h1; exact hr
theorem map_snocP {l : List (Lin × Bool)} {k : Nat} {x : Lin × Bool} (h : l[k]? = some x) : (l.take (k + 1)).map (fun p => p.1) = (l.take k).map (fun p => p.1) ++ [x.1] := by
  rw [List.take_add_one, h]; simp
theorem lin_lit {b : Nat} {w : World} {A0 A1 : Option Addr} {c0 c1 : Nat} {x : Lin} (h : DLin w b A0 c0 A1 c1 x) (hb : b ≤ w.heap.size) (t : TypeId) :
    Rd linT (w.alloc (.cells #[.slice A0 x.1.length c0, .slice A1 x.2.length c1] t)) (Ge b) (some ⟨w.heap.size, 0, none⟩) 1 [x] := by
  obtain ⟨A, c, e, r⟩ := DSem.lit h hb t
  injection e with e1 e2 e3
  subst e1 e3
  exact r
end Go.Cb
namespace Go.Proofs.YtmdcgekiiopohaaGreat
open Go.RowKit Go.Cb Go.Sort
set_option maxRecDepth 100000 in
set_option maxHeartbeats 16000000 in
theorem refCatS_c (mv : Value) (mb : Option Nat) (st : MSt) (S S' : Nat → Prop) (A B : Option Addr) (ca cb : Nat) (a b : SemS) (w : World) (hm : MetO w 82 mv mb st) (ha : Rd linT w S A ca a) (hb : Rd linT w S' B cb b) (hS : ∀ k, S k → some k ≠ mb) (hS' : ∀ k, S' k → some k ≠ mb)
    (n m : Nat) (hn : n = a.length) (hm2 : m = b.length) (hl : a.length ≤ 2147483648) (hl2 : b.length ≤ 2147483648) (hab : (spendM st (a.length * b.length : Nat)).2 = true → a.length * b.length ≤ 1073741824) (h3 : ∀ x ∈ a, ∀ y ∈ b, x.2.length + y.2.length ≤ 4294967295) :
    Calls Tryz.prog 36 #[mv, .slice A n ca, .slice B m cb] w fun e w' => ∃ v, e = .returned (.tuple #[v, .int .i64 (catS st a b).2.2]) ∧ DSem 30 w.heap.size w' v (catS st a b).2.1 ∧ MetO w' 82 mv mb (catS st a b).1 ∧ w.grownBy w' mb := by
  subst hn hm2
  have lma := ha.lenMax
  have lmb := hb.lenMax
  have HMB := Lib.hid (hm.at_)
  have HM := Lib.hid hm
  have HS := Lib.hid hS
  have HS' := Lib.hid hS'
  have HAB := Lib.hid hab
  have H3 := Lib.hid h3
  have KA := Lib.hid (show ∀ W, Bel w W → Calls Tryz.prog 67 #[.slice A a.length ca] W fun e w' => e = .returned (.bool (rightS a)) ∧ Bel W w' from fun W h => refRightSem_c _ _ _ _ _ (ha.to h) _ rfl)
  have KB := Lib.hid (show ∀ W, Bel w W → Calls Tryz.prog 67 #[.slice B b.length cb] W fun e w' => e = .returned (.bool (rightS b)) ∧ Bel W w' from fun W h => refRightSem_c _ _ _ _ _ (hb.to h) _ rfl)
  clear hm hS hS' hab h3
  cases hra : rightS a with
  | false =>
    have Hu := Lib.hid (catS_arg (st := st) (a := a) (b := b) (by rw [hra]; rfl))
    rw [hra] at KA
    clear hra
    go_enter Tryz.func36, Tryz.ntmps36
    go_wp2_with fail
    refine (KA.out _ (Bel.refl _)).mono ?_
    rintro e w1 ⟨rfl, hb1⟩
    go_wp2
    go_ret2
    rw [Hu.out]
    exact ⟨_, rfl, DSem.nil _ _ _, HM.out.grown hb1, bel_grown hb1⟩
  | true =>
    cases hrb : rightS b with
    | false =>
      have Hu := Lib.hid (catS_arg (st := st) (a := a) (b := b) (by rw [hra, hrb]; rfl))
      rw [hra] at KA
      rw [hrb] at KB
      clear hra hrb
      go_enter Tryz.func36, Tryz.ntmps36
      go_wp2_with fail
      refine (KA.out _ (Bel.refl _)).mono ?_
      rintro e w1 ⟨rfl, hb1⟩
      go_wp2_with fail
      refine (KB.out _ hb1).mono ?_
      rintro e w2 ⟨rfl, hb2⟩
      go_wp2
      go_ret2
      rw [Hu.out]
      exact ⟨_, rfl, DSem.nil _ _ _, HM.out.grown (hb1.trans hb2), bel_grown (hb1.trans hb2)⟩
    | true =>
      have HRA := Lib.hid hra
      have HRB := Lib.hid hrb
      rw [hra] at KA
      rw [hrb] at KB
      clear hra hrb
      have hmul : IntKind.i64.wrap ((a.length : Int) * (b.length : Int)) = ((a.length * b.length : Nat) : Int) := by
        have h1 : a.length * b.length ≤ 2147483648 * 2147483648 := Nat.mul_le_mul hl hl2
        have h2 : ((a.length : Int) * (b.length : Int)) = ((a.length * b.length : Nat) : Int) := by push_cast; rfl
        rw [h2, IntKind.wrap_i64]; omega
      obtain ⟨pr, hpr⟩ : ∃ pr, a.length * b.length = pr := ⟨_, rfl⟩
      rw [hpr] at hmul
      have HPR := Lib.hid hpr
      clear hpr
      go_enter Tryz.func36, Tryz.ntmps36
      go_wp2_with fail
      refine (KA.out _ (Bel.refl _)).mono ?_
      rintro e w1 ⟨rfl, hb1⟩
      go_wp2_with fail
      refine (KB.out _ hb1).mono ?_
      rintro e w2 ⟨rfl, hb2⟩
      have hb12 := hb1.trans hb2
      have KS := Lib.hid (spendM_s2 mv mb st (pr : Nat) _ (HM.out.grown hb12))
      clear KA KB hb1 hb2
      cases hw : (spendM st (pr : Nat)).2 with
      | false =>
        have Hu := Lib.hid (catS_work HRA.out HRB.out (st := st) (by rw [HPR.out]; exact hw))
        rw [hw] at KS
        clear hw
        go_wp2_with fail
        refine KS.out.mono ?_
        rintro e w3 ⟨rfl, hm3, hg3, _⟩
        go_wp2
        go_ret2
        rw [Hu.out, HPR.out]
        exact ⟨_, rfl, DSem.nil _ _ _, hm3, grown_trans (bel_grown hb12) hg3⟩
      | true =>
        have hpl := HAB.out (by rw [HPR.out]; exact hw)
        rw [HPR.out] at hpl
        have HW := Lib.hid (show (spendM st (a.length * b.length : Nat)).2 = true by rw [HPR.out]; exact hw)
        rw [hw] at KS
        clear hw
        go_wp2_with fail
        refine KS.out.mono ?_
        rintro e w3 ⟨rfl, hm3, hg3, hz3⟩
        have a3 := (grown_row (ha.to hb12) hg3 HS.out).bound
        have b3 := grown_row (hb.to hb12) hg3 HS'.out
        have hs3 : w.heap.size ≤ w3.heap.size := by have := hb12.size; omega
        have hg := grown_trans (bel_grown hb12) hg3
        have HG3 := Lib.hid hg
        have HM3 := Lib.hid hm3
        obtain ⟨P, hP⟩ : ∃ P, prodL a b = P := ⟨_, rfl⟩
        have HPP := Lib.hid hP
        have HPL := Lib.hid (show P.length = pr by rw [← hP, prodL_length, HPR.out])
        clear KS hg3 hm3 hg ha hb hP HM HMB
        go_wp2
        go_loopw [8, 35] (fun v8 v35 wr => ∃ (i m : Nat) (W : World) (AO : Option Addr) (cO : Nat), W = wr ∧ i ≤ a.length ∧ v35 = .int .i64 i ∧ v8 = .slice AO m cO ∧ Hid (m = i * b.length) ∧ Hid (∀ y ∈ P.take m, y.2 = true) ∧
            Own linT 30 W w3.heap.size (Ge w3.heap.size) (.slice AO m cO) ((P.take m).map (fun p => p.1)) ∧ Bel w3 W) (fun _ v35 _ => a.length - (intOf v35).toNat)
        case atStart => exact ⟨0, 0, _, none, 0, rfl, Nat.zero_le _, rfl, rfl, (by rw [Nat.zero_mul] : 0 = 0 * b.length), (fun y hy => by simp at hy : ∀ y ∈ P.take 0, y.2 = true), Own.nil _ _ _ _ _, Bel.refl _⟩
        case round =>
          obtain ⟨i, m, W, AO, cO, rfl, hi, rfl, rfl, HMI, HP, hO, hbW⟩ := hrel
          by_cases hlt : i < a.length
          · obtain ⟨ad, A0, c0, A1, c1, rfl, g0, g1, r0, r1⟩ := (a3.to hbW).lrow hlt
            obtain ⟨x, hx⟩ : ∃ x, a[i] = x := ⟨_, rfl⟩
            have HX := Lib.hid (show a[i]? = some x by rw [List.getElem?_eq_getElem hlt, hx])
            rw [hx] at g0 g1 r0 r1
            have hal : Bel W (W.alloc (.cells #[.slice A0 x.1.length c0, .slice A1 x.2.length c1] 30)) := (Bel.refl _).alloc _
            have TX := Box.new W 30 (.slice A0 x.1.length c0) (.slice A1 x.2.length c1)
            have hbW1 := hbW.trans hal
            replace r0 := r0.to hal
            replace r1 := r1.to hal
            have hO1 := hO.to hal
            have HN1 := Lib.hid (show ∀ j, (Value.slice AO m cO).ownBlock = some j → j ≠ W.heap.size from fun j hj e => by have := hO.lt hj; omega)
            have hTG : w3.heap.size ≤ W.heap.size := hbW.size
            clear hx hO hbW
            go_wp2_with fail
            clear g0 g1
            generalize W.alloc (.cells #[.slice A0 x.1.length c0, .slice A1 x.2.length c1] 30) = W1 at *
            generalize W.heap.size = TG at *
            go_loopw [8, 41] (fun v8 v41 wr => ∃ (j q : Nat) (V : World) (AO : Option Addr) (cO : Nat), V = wr ∧ j ≤ b.length ∧ v41 = .int .i64 j ∧ v8 = .slice AO q cO ∧ Hid (q = i * b.length + j) ∧ Hid (∀ y ∈ P.take q, y.2 = true) ∧
                Own linT 30 V w3.heap.size (Ge w3.heap.size) (.slice AO q cO) ((P.take q).map (fun p => p.1)) ∧ Bel w3 V ∧ Box V 30 TG (.slice A0 x.1.length c0) (.slice A1 x.2.length c1) ∧ Rd intT V (fun k => S k ∧ k < w3.heap.size) A0 c0 x.1 ∧ Rd bagT V (fun k => S k ∧ k < w3.heap.size) A1 c1 x.2 ∧ Hid (∀ j, (Value.slice AO q cO).ownBlock = some j → j ≠ TG)) (fun _ v41 _ => b.length - (intOf v41).toNat)
            case atStart => exact ⟨0, m, _, AO, cO, rfl, Nat.zero_le _, rfl, rfl, HMI.out, HP.out, hO1, hbW1, TX, r0, r1, HN1.out⟩
            case round =>
              clear hO1 HP hbW1 TX r0 r1 HN1
              obtain ⟨j, q, V, AO, cO, rfl, hj, rfl, rfl, HQ, HP, hO, hbV, TX, r0, r1, HN⟩ := hrel
              by_cases hjl : j < b.length
              · obtain ⟨bd, B0, d0, B1, d1, rfl, k0, k1, q0, q1⟩ := (b3.to hbV).lrow hjl
                obtain ⟨y, hy⟩ : ∃ y, b[j] = y := ⟨_, rfl⟩
                have HY := Lib.hid (show b[j]? = some y by rw [List.getElem?_eq_getElem hjl, hy])
                rw [hy] at k0 k1 q0 q1
                have HPG := Lib.hid (show P[q]? = some (catL x y) by rw [← HPP.out, HQ.out]; exact prodL_get HX.out HY.out)
                have hql : q < pr := by
                  have := (List.getElem?_eq_some_iff.1 HPG.out).1
                  rw [HPL.out] at this; exact this
                have HT := Lib.hid (map_snocP HPG.out)
                have HLN := Lib.hid (show ((P.take q).map (fun p => p.1)).length = q by rw [List.length_map, List.length_take, HPL.out]; omega)
                have HLN2 := Lib.hid (show ((P.take (q + 1)).map (fun p => p.1)).length = q + 1 by rw [List.length_map, List.length_take, HPL.out]; omega)
                have h3xy := H3.out x (List.mem_of_getElem? HX.out) y (List.mem_of_getElem? HY.out)
                have hal : Bel V (V.alloc (.cells #[.slice B0 y.1.length d0, .slice B1 y.2.length d1] 30)) := (Bel.refl _).alloc _
                have TY := Box.new V 30 (.slice B0 y.1.length d0) (.slice B1 y.2.length d1)
                obtain ⟨t0, t1, _, _⟩ := (TX.to hal).cells
                obtain ⟨u0, u1, _, _⟩ := TY.cells
                have Q := catD_c _ _ _ _ _ _ _ _ _ _ _ _ x y _ (r0.to hal) (r1.to hal) (q0.to hal) (q1.to hal) h3xy
                obtain ⟨z, hz⟩ : ∃ z, catL x y = z := ⟨_, rfl⟩
                rw [hz] at Q HT HPG
                have HO := Lib.hid (hO.to hal)
                have HG := Lib.hid (fun j hj => hO.lt (k := j) hj)
                have hVs := hal.size
                have hbs := hbV.size
                have hTV := TX.lt
                have HV := Lib.hid (hbV.trans hal)
                clear hy hz hO q0 q1
                cases hzb : z.2 with
                | false =>
                  have Hu := Lib.hid (catS_limit HRA.out HRB.out HW.out (by rw [HPP.out]; exact List.mem_of_getElem? HPG.out) hzb)
                  rw [hzb] at Q
                  have HQC := Lib.hid Q
                  clear hzb Q
                  go_wp2_with fail
                  refine HQC.out.mono ?_
                  rintro e w5 ⟨C0, e0, C1, e1, rfl, hL, hb5⟩
                  go_wp2
                  go_ret2
                  rw [Hu.out, HPR.out]
                  have hbf := HV.out.trans (hb5.trans ((Bel.refl w5).alloc (.cells #[.slice C0 z.1.1.length e0, .slice C1 z.1.2.length e1] 30)))
                  exact ⟨_, rfl, DSem.nil _ _ _, HM3.out.grown hbf, grown_trans HG3.out (bel_grown hbf)⟩
                | true =>
                  have HP2 := Lib.hid (okP_snoc HPG.out HP.out hzb)
                  rw [hzb] at Q
                  have HQC := Lib.hid Q
                  clear hzb Q
                  go_wp2_with fail
                  refine HQC.out.mono ?_
                  rintro e w5 ⟨C0, e0, C1, e1, rfl, hL, hb5⟩
                  have hal5 : Bel w5 (w5.alloc (.cells #[.slice C0 z.1.1.length e0, .slice C1 z.1.2.length e1] 30)) := (Bel.refl _).alloc _
                  have TZ := Box.new w5 30 (.slice C0 z.1.1.length e0) (.slice C1 z.1.2.length e1)
                  obtain ⟨z0, z1, _, _⟩ := TZ.cells
                  have h5s := hb5.size
                  have hlit := lin_lit (hL.to hal5) (by have := hal5.size; omega) 30
                  rw [show (w5.alloc (.cells #[.slice C0 z.1.1.length e0, .slice C1 z.1.2.length e1] 30)).heap.size = w5.heap.size + 1 by simp] at hlit
                  have HLT := Lib.hid hlit
                  have hbz := hb5.trans (hal5.alloc (.cells #[.slice C0 z.1.1.length e0, .slice C1 z.1.2.length e1] 30))
                  have HO5 := Lib.hid (HO.out.to hbz)
                  have hb35 := HV.out.trans hbz
                  have TX5 := Lib.hid (TX.to (hal.trans hbz))
                  have HR5 := Lib.hid ((r0.to (hal.trans hbz)))
                  have HR6 := Lib.hid ((r1.to (hal.trans hbz)))
                  have hbzs := hbz.size
                  clear hlit hL t0 t1 u0 u1 k0 k1 TZ TX r0 r1
                  go_wp2_with (at_builtin; go_loud (refine wp_append linT (w0 := w3) 23 30 (.agg #[.slice none 0 0, .slice none 0 0]) 48 rfl _ _ rfl Tryz.underlying23 info_lin rfl (Ge w3.heap.size) _ (.slice AO q cO) ((P.take q).map (fun p => p.1)) [z.1] (some ⟨w5.heap.size + 1, 0, none⟩) 1 1 rfl rfl rfl HO5.out HLT.out (linT.rdS (fun j hj _ => ⟨by unfold Ge at *; omega, fun e => by have := HG.out j e.symm; unfold Ge at *; omega⟩)) hb35 (by rw [HLN.out]; simp [maxLen]; omega) (by rw [HLN.out]; simp; omega) ?_; rintro v6 w6 ho6 hb6 hg6 hf6; rw [← HT.out] at ho6; obtain ⟨A6, c6, hv6⟩ := ho6.form; rw [HLN2.out] at hv6; subst hv6; have hge := fun k hk => HO.out.ge (k := k) hk; have TX6 := (hg6.block TG (by omega) (fun e => HN.out TG e.symm rfl)).trans TX5.out; have R6 := HR5.out.step' (w' := w6) (fun k hk => hg6.block k (by omega) (fun e => by have := hge k e.symm; omega)); have R7 := HR6.out.step' (w' := w6) (fun k hk => hg6.block k (by omega) (fun e => by have := hge k e.symm; omega)); have HN6 : ∀ j, (Value.slice A6 (q + 1) c6).ownBlock = some j → j ≠ TG := fun j hj => by (rcases hf6 with e | e; { exact HN.out j (e.symm.trans hj) }; { rw [e] at hj; have := Option.some.inj hj; omega })))
                  go_roundw
                  case rel => exact ⟨j + 1, q + 1, _, A6, c6, rfl, by omega, by go_num, rfl, (by rw [HQ.out]; rfl : q + 1 = i * b.length + (j + 1)), HP2.out, ho6, hb6, TX6, R6, R7, HN6⟩
                  case measure => simp [intOf]; omega
              · obtain rfl : j = b.length := by omega
                go_wp2
                go_roundw
                case rel => exact ⟨i + 1, q, _, AO, cO, rfl, by omega, by go_num, rfl, (by rw [HQ.out, Nat.succ_mul] : q = (i + 1) * b.length), HP.out, hO, hbV⟩
                case measure => simp [intOf]; omega
          · obtain rfl : i = a.length := by omega
            obtain rfl : m = pr := by rw [HMI.out, HPR.out]
            have htp : P.take m = P := List.take_of_length_le (by rw [HPL.out]; exact Nat.le_refl _)
            have Hok := Lib.hid (catS_ok HRA.out HRB.out HW.out (by have := HP.out; rw [htp] at this; rw [HPP.out]; exact this))
            rw [htp] at hO
            obtain ⟨Q, hQ⟩ : ∃ Q, P.map (fun p => p.1) = Q := ⟨_, rfl⟩
            rw [hQ] at hO
            have hql : Q.length = m := by rw [← hQ, List.length_map, HPL.out]
            have hq3 : ∀ x ∈ Q, x.2.length ≤ 4294967296 := fun x hx => by
              rw [← hQ, ← HPP.out] at hx
              obtain ⟨p, hp, rfl⟩ := List.mem_map.1 hx
              obtain ⟨x', hx', y', hy', rfl⟩ := prodL_mem hp
              have h1 := catL_len x' y'
              have h2 := H3.out x' hx' y' hy'
              omega
            obtain ⟨AA, cA, hAA, hrA⟩ := hO.rd
            rw [hql] at hAA
            injection hAA with e1 _ e3
            subst e1 e3
            have HQQ := Lib.hid hQ
            have hql2 : Q.length ≤ 1073741824 := by omega
            have HQL := Lib.hid hql
            have hws := hbW.size
            clear htp hQ hO HP hql
            go_wp2_with fail
            refine (ofD_c _ _ _ Q _ hrA _ HQL.out.symm hql2 hq3).mono ?_
            rintro e w5 ⟨v5, rfl, hr5, hb5⟩
            go_wp2
            go_ret2
            rw [show catS st a b = ((spendM st (m : Nat)).1, (ofS Q).1, 0) by rw [Hok.out, HPR.out, HPP.out, HQQ.out]]
            exact ⟨_, rfl, hr5.lower (b' := w.heap.size) (by omega), HM3.out.grown (hbW.trans hb5), grown_trans HG3.out (bel_grown (hbW.trans hb5))⟩
end Go.Proofs.YtmdcgekiiopohaaGreat

/- Walks: a semilinear set, some times over. -/
namespace Go.Cb
open Go.RowKit
def oneS : SemS := [([], [])]
theorem oneS_right : rightS oneS = true := rfl
/-- So many times over: what is left of the budget, the set, why not. -/
def powF (s : SemS) : Nat → MSt → MSt × SemS × Int
  | 0, st => (st, oneS, 0)
  | n + 1, st => if (powF s n st).2.2 = 0 then catS (powF s n st).1 (powF s n st).2.1 s else ((powF s n st).1, [], (powF s n st).2.2)
def powS (st : MSt) (s : SemS) (n : Int) : MSt × SemS × Int :=
  if rightS s = true ∧ 0 ≤ n ∧ n ≤ 99 then (if (powF s n.toNat st).2.2 = 0 then powF s n.toNat st else ((powF s n.toNat st).1, [], (powF s n.toNat st).2.2)) else (st, [], 1)
theorem powF_bad {s : SemS} {st : MSt} {k : Nat} (h : (powF s k st).2.2 ≠ 0) : ∀ j, (powF s (k + j) st).1 = (powF s k st).1 ∧ (powF s (k + j) st).2.2 = (powF s k st).2.2
  | 0 => ⟨rfl, rfl⟩
  | j + 1 => by
    obtain ⟨h1, h2⟩ := powF_bad h j
    have h3 : (powF s (k + j) st).2.2 ≠ 0 := by rw [h2]; exact h
    show (powF s (k + j + 1) st).1 = _ ∧ (powF s (k + j + 1) st).2.2 = _
    rw [powF, if_neg h3]
    exact ⟨h1, h2⟩
theorem powS_arg {st : MSt} {s : SemS} {n : Int} (h : ¬ (rightS s = true ∧ 0 ≤ n ∧ n ≤ 99)) : powS st s n = (st, [], 1) := by unfold powS; rw [if_neg h]
theorem powS_end {st st' : MSt} {s s' : SemS} {n : Nat} (h : rightS s = true) (hn : n ≤ 99) (h2 : powF s n st = (st', s', 0)) : powS st s (n : Nat) = (st', s', 0) := by
  unfold powS
  rw [if_pos ⟨h, by omega, by omega⟩, Int.toNat_natCast, h2]; rfl
theorem powS_stop {st st' : MSt} {s s' : SemS} {n k : Nat} {e : Int} (h : rightS s = true) (hn : n ≤ 99) (hk : k ≤ n) (h2 : powF s k st = (st', s', e)) (he : e ≠ 0) : powS st s (n : Nat) = (st', [], e) := by
  have h3 := powF_bad (s := s) (st := st) (k := k) (by rw [h2]; exact he) (n - k)
  rw [show k + (n - k) = n by omega, h2] at h3
  unfold powS
  rw [if_pos ⟨h, by omega, by omega⟩, Int.toNat_natCast, if_neg (by rw [h3.2]; exact he), h3.1, h3.2]
/-- What one more time asks for. -/
structure CatFit (st : MSt) (a b : SemS) : Prop where
  la : a.length ≤ 2147483648
  lb : b.length ≤ 2147483648
  prod : (spendM st (a.length * b.length : Nat)).2 = true → a.length * b.length ≤ 1073741824
  per : ∀ x ∈ a, ∀ y ∈ b, x.2.length + y.2.length ≤ 4294967295
end Go.Cb
namespace Go.Proofs.YtmdcgekiiopohaaGreat
open Go.RowKit Go.Cb Go.Sort
end Go.Proofs.YtmdcgekiiopohaaGreat

/- Plain laws: patterns, right or not; what they stand for. -/
namespace Go.Cb
open Go.RowKit
/-- A node of a pattern: its kind, two numbers, a tag, a name. -/
structure PN where
  k : Int
  a : Int
  b : Int
  n : Int
  s : ByteArray
instance : Inhabited PN := ⟨⟨0, 0, 0, 0, ByteArray.empty⟩⟩
/-- A node, as five cells. -/
def patT : Ty PN where
  sz := 5
  pos := by omega
  rd := fun _ _ x cs => cs = [.int .i64 x.k, .int .i64 x.a, .int .i64 x.b, .int .i64 x.n, .string x.s]
  len := fun h => by rw [h]; rfl
  one := fun h u hu => by
    rw [h] at hu
    simp only [List.mem_cons, List.not_mem_nil, or_false] at hu
    rcases hu with rfl | rfl | rfl | rfl | rfl <;> rfl
  mono := fun _ h => h
  bound := fun h => h
  step := fun _ h => h
/-- One more node, behind these that are open: the next state, or none. -/
def stepP (tags : Int) (i : Nat) (x : PN) (op : List Int) (st : List Bool) : Option (List Int × List Bool) :=
  if x.k = 1 ∨ x.k = 2 then
    if x.a ≠ 0 ∨ x.b ≠ 0 ∨ x.n ≠ 0 then none else some (op ++ [(i : Int)], st)
  else if x.k = 3 then
    if x.n < 0 ∨ tags ≤ x.n ∨ x.a < 1 ∨ 999999999 < x.a ∨ x.b ≠ 0 then none else some (op ++ [(i : Int)], st)
  else if x.k = 4 ∨ x.k = 5 then
    if op.length < 2 ∨ x.n ≠ 0 ∨ op.getD (op.length - 1) 0 ≠ x.b ∨ op.getD (op.length - 2) 0 ≠ x.a then none
    else some (op.take (op.length - 2) ++ [(i : Int)], st.set i (st.getD x.a.toNat false || st.getD x.b.toNat false))
  else if x.k = 6 then
    if op.length < 1 ∨ x.n ≠ 0 ∨ x.b ≠ 0 ∨ op.getD (op.length - 1) 0 ≠ x.a ∨ st.getD x.a.toNat false = true then none
    else some (op.take (op.length - 1) ++ [(i : Int)], st.set i true)
  else none
def goP (tags : Int) : Nat → List PN → List Int → List Bool → Bool
  | _, [], op, _ => decide (op.length = 1)
  | i, x :: r, op, st => match stepP tags i x op st with
    | none => false
    | some s => goP tags (i + 1) r s.1 s.2
/-- Is it a pattern, of so many tags? -/
def chkP (p : List PN) (tags : Int) : Bool := decide (1 ≤ p.length) && decide (p.length ≤ 24) && goP tags 0 p [] (List.replicate p.length false)
theorem goP_at {tags : Int} {p : List PN} {i : Nat} {x : PN} {op : List Int} {st : List Bool} (h : p[i]? = some x) : goP tags i (p.drop i) op st = match stepP tags i x op st with
    | none => false
    | some s => goP tags (i + 1) (p.drop (i + 1)) s.1 s.2 := by
  have hlt := (List.getElem?_eq_some_iff.1 h).1
  rw [List.drop_eq_getElem_cons hlt, (List.getElem?_eq_some_iff.1 h).2]; rfl
theorem goP_none {tags : Int} {p : List PN} {i : Nat} {x : PN} {op : List Int} {st : List Bool} (h : p[i]? = some x) (h2 : stepP tags i x op st = none) : goP tags i (p.drop i) op st = false := by rw [goP_at h, h2]
theorem goP_some {tags : Int} {p : List PN} {i : Nat} {x : PN} {op : List Int} {st : List Bool} {s : List Int × List Bool} (h : p[i]? = some x) (h2 : stepP tags i x op st = some s) : goP tags i (p.drop i) op st = goP tags (i + 1) (p.drop (i + 1)) s.1 s.2 := by rw [goP_at h, h2]
theorem chkP_no {p : List PN} {tags : Int} (h : p.length < 1 ∨ 24 < p.length) : chkP p tags = false := by
  unfold chkP
  rcases h with h | h
  · rw [decide_eq_false (by omega)]; rfl
  · rw [decide_eq_false (show ¬ p.length ≤ 24 by omega)]; simp
theorem chkP_go {p : List PN} {tags : Int} (h : 1 ≤ p.length) (h2 : p.length ≤ 24) : chkP p tags = goP tags 0 p [] (List.replicate p.length false) := by
  unfold chkP
  rw [decide_eq_true h, decide_eq_true h2]; rfl
/-- The open ones, and which hold a star. -/
structure OkP (i n : Nat) (op : List Int) (st : List Bool) : Prop where
  len : op.length ≤ i
  below : ∀ v ∈ op, 0 ≤ v ∧ v < i
  stars : st.length = n
theorem OkP.push {i n : Nat} {op : List Int} {st : List Bool} (h : OkP i n op st) {k : Nat} (v : Bool) : OkP (i + 1) n (op.take k ++ [(i : Int)]) (st.set i v) :=
  ⟨by rw [List.length_append, List.length_take]; have := h.len; simp; omega, fun v hv => by
    rcases List.mem_append.1 hv with hv | hv
    · have := h.below v (List.mem_of_mem_take hv); omega
    · simp at hv; subst hv; omega, by rw [List.length_set]; exact h.stars⟩
theorem OkP.push0 {i n : Nat} {op : List Int} {st : List Bool} (h : OkP i n op st) : OkP (i + 1) n (op ++ [(i : Int)]) st :=
  ⟨by rw [List.length_append]; have := h.len; simp; omega, fun v hv => by
    rcases List.mem_append.1 hv with hv | hv
    · have := h.below v hv; omega
    · simp at hv; subst hv; omega, h.stars⟩
theorem stepP_ok {tags : Int} {i n : Nat} {x : PN} {op : List Int} {st : List Bool} {s : List Int × List Bool} (h : stepP tags i x op st = some s) (ho : OkP i n op st) : OkP (i + 1) n s.1 s.2 := by
  unfold stepP at h
  split at h
  · split at h
    · cases h
    · cases h; exact ho.push0
  · split at h
    · split at h
      · cases h
      · cases h; exact ho.push0
    · split at h
      · split at h
        · cases h
        · cases h; exact ho.push _
      · split at h
        · split at h
          · cases h
          · cases h; exact ho.push _
        · cases h

/-! ### what it stands for -/
/-- A node's set, of those ahead: what is left of the budget, the set, why not. -/
def nodeF (x : PN) (l : List SemS) (st : MSt) : MSt × SemS × Int :=
  if x.k = 2 then (st, oneS, 0)
  else if x.k = 3 then (st, [(oneB x.n x.a, [])], 0)
  else if x.k = 4 then (st, unionS (l.getD x.a.toNat []) (l.getD x.b.toNat []), 0)
  else if x.k = 5 then catS st (l.getD x.a.toNat []) (l.getD x.b.toNat [])
  else if x.k = 6 then starS st (l.getD x.a.toNat [])
  else (st, [], 0)
def normF : List PN → List SemS → MSt → MSt × SemS × Int
  | [], l, st => (st, l.getD (l.length - 1) [], 0)
  | x :: r, l, st =>
    if (spendM st 1).2 = true then
      if (nodeF x l (spendM st 1).1).2.2 = 0 then normF r (l ++ [(nodeF x l (spendM st 1).1).2.1]) (nodeF x l (spendM st 1).1).1
      else ((nodeF x l (spendM st 1).1).1, [], (nodeF x l (spendM st 1).1).2.2)
    else ((spendM st 1).1, [], 7)
def normS (st : MSt) (p : List PN) (tags : Int) : MSt × SemS × Int :=
  if 0 ≤ tags ∧ tags ≤ 12 ∧ chkP p tags = true then normF p [] st else (st, [], 1)
/-- What a node asks for. -/
structure NodeFit (x : PN) (l : List SemS) (st : MSt) : Prop where
  a : x.k = 4 ∨ x.k = 5 ∨ x.k = 6 → 0 ≤ x.a ∧ x.a < l.length
  b : x.k = 4 ∨ x.k = 5 → 0 ≤ x.b ∧ x.b < l.length
  sum : x.k = 4 → (l.getD x.a.toNat []).length + (l.getD x.b.toNat []).length ≤ 1073741824 ∧ ∀ y ∈ l.getD x.a.toNat [] ++ l.getD x.b.toNat [], y.2.length ≤ 4294967296
  cat : x.k = 5 → CatFit st (l.getD x.a.toNat []) (l.getD x.b.toNat [])
  star : x.k = 6 → (l.getD x.a.toNat []).length ≤ 4294967296
def NormFit : List PN → List SemS → MSt → Prop
  | [], _, _ => True
  | x :: r, l, st => (spendM st 1).2 = true → NodeFit x l (spendM st 1).1 ∧ ((nodeF x l (spendM st 1).1).2.2 = 0 → NormFit r (l ++ [(nodeF x l (spendM st 1).1).2.1]) (nodeF x l (spendM st 1).1).1)
end Go.Cb

/- Plain laws: what a right pattern stands for: how great it is. -/
namespace Go.Cb
/-- How many linear sets a pattern of n nodes stands for at most. -/
def szB (n : Nat) : Nat := 2 ^ ((n - 1) / 2)
theorem szB_mul {a b : Nat} (ha : 1 ≤ a) (hb : 1 ≤ b) : szB a * szB b ≤ szB (a + b + 1) := by
  unfold szB
  rw [← Nat.pow_add]
  exact Nat.pow_le_pow_right (by omega) (by omega)
theorem szB_add {a b : Nat} (ha : 1 ≤ a) (hb : 1 ≤ b) : szB a + szB b ≤ szB (a + b + 1) := by
  have h1 : 2 ^ ((a - 1) / 2) ≤ 2 ^ ((a - 1) / 2 + (b - 1) / 2) := Nat.pow_le_pow_right (by omega) (by omega)
  have h2 : 2 ^ ((b - 1) / 2) ≤ 2 ^ ((a - 1) / 2 + (b - 1) / 2) := Nat.pow_le_pow_right (by omega) (by omega)
  have h3 : 2 ^ ((a - 1) / 2 + (b - 1) / 2 + 1) ≤ 2 ^ ((a + b + 1 - 1) / 2) := Nat.pow_le_pow_right (by omega) (by omega)
  rw [Nat.pow_succ] at h3
  unfold szB
  omega
theorem szB_mono {a b : Nat} (h : a ≤ b) : szB a ≤ szB b := Nat.pow_le_pow_right (by omega) (by omega)
theorem szB_pos (a : Nat) : 1 ≤ szB a := Nat.pow_pos (by omega)
/-- How many periods one of them has at most. -/
def perB (n : Nat) : Nat := if n ≤ 1 then 0 else szB (n - 1)
theorem perB_mono {a b : Nat} (h : a ≤ b) : perB a ≤ perB b := by
  unfold perB
  split
  · exact Nat.zero_le _
  · rw [if_neg (by omega)]
    exact szB_mono (by omega)
theorem perB_add {a b : Nat} (ha : 1 ≤ a) (hb : 1 ≤ b) : perB a + perB b ≤ perB (a + b) := by
  by_cases h1 : a ≤ 1
  · have : perB a = 0 := by unfold perB; rw [if_pos h1]
    have := perB_mono (show b ≤ a + b by omega)
    omega
  · by_cases h2 : b ≤ 1
    · have : perB b = 0 := by unfold perB; rw [if_pos h2]
      have := perB_mono (show a ≤ a + b by omega)
      omega
    · have := szB_add (a := a - 1) (b := b - 1) (by omega) (by omega)
      unfold perB
      rw [if_neg h1, if_neg h2, if_neg (by omega)]
      rwa [show a - 1 + (b - 1) + 1 = a + b - 1 by omega] at this
/-- All its numbers are at most E, its words of so many tags. -/
structure SmL (tags E : Int) (x : Lin) : Prop where
  base : ∀ i, x.1.getD i 0 ≤ E
  per : ∀ b ∈ x.2, ∀ i, b.getD i 0 ≤ E
  len : (x.1.length : Int) ≤ tags
  plen : ∀ b ∈ x.2, (b.length : Int) ≤ tags
theorem SmL.mono {tags E E' : Int} {x : Lin} (h : SmL tags E x) (hE : E ≤ E') : SmL tags E' x :=
  ⟨fun i => Int.le_trans (h.base i) hE, fun b hb i => Int.le_trans (h.per b hb i) hE, h.len, h.plen⟩
structure SetOk (tags E : Int) (N M : Nat) (star : Bool) (s : SemS) : Prop where
  right : rightS s = true
  size : s.length ≤ szB N
  per : ∀ x ∈ s, x.2.length ≤ M
  pts : star = false → ∀ x ∈ s, x.2.isEmpty = true
  sm : ∀ x ∈ s, SmL tags E x
theorem ofS_mem {l : SemS} {x : Lin} (h : x ∈ (ofS l).1) : x ∈ l := by
  unfold ofS at h
  split at h
  · rename_i hr
    have := (foldl_putO linO GoodO.nil (List.all_eq_true.1 hr)).2 x
    rcases this.1 h with h | h
    · simp at h
    · exact h
  · simp at h
theorem SetOk.union {tags Ea Eb : Int} {Na Nb Ma Mb : Nat} {sa sb : Bool} {a b : SemS} (ha : SetOk tags Ea Na Ma sa a) (hb : SetOk tags Eb Nb Mb sb b) (h1 : 1 ≤ Na) (h2 : 1 ≤ Nb) (e0 : 0 ≤ Ea) (e1 : 0 ≤ Eb) :
    SetOk tags (Ea + Eb) (Na + Nb + 1) (Ma + Mb) (sa || sb) (unionS a b) := by
  rw [unionS_yes ha.right hb.right]
  have hm : ∀ x ∈ (ofS (a ++ b)).1, x ∈ a ∨ x ∈ b := fun x hx => List.mem_append.1 (ofS_mem hx)
  refine ⟨ofS_right _, ?_, fun x hx => ?_, fun hs x hx => ?_, fun x hx => ?_⟩
  · have h3 := ofS_length (a ++ b)
    rw [List.length_append] at h3
    have := szB_add h1 h2
    have := ha.size
    have := hb.size
    omega
  · rcases hm x hx with h | h
    · have := ha.per x h; omega
    · have := hb.per x h; omega
  · simp only [Bool.or_eq_false_iff] at hs
    rcases hm x hx with h | h
    · exact ha.pts hs.1 x h
    · exact hb.pts hs.2 x h
  · rcases hm x hx with h | h
    · exact (ha.sm x h).mono (by omega)
    · exact (hb.sm x h).mono (by omega)
theorem rightS_each {s : SemS} (h : rightS s = true) {x : Lin} (hx : x ∈ s) : rightL x = true := (rightS_iff.1 h).each x hx
theorem addB_len {a b : List Int} (h : (addB a b).2 = true) : (addB a b).1.length = max a.length b.length := by
  unfold addB at *
  split
  · exact addP_length _ _
  · rename_i hn; rw [if_neg hn] at h; cases h
theorem catL_sm {tags Ea Eb : Int} {x y : Lin} (hx : rightL x = true) (hy : rightL y = true) (sx : SmL tags Ea x) (sy : SmL tags Eb y) (e0 : 0 ≤ Ea) (e1 : 0 ≤ Eb) (hf : Ea + Eb ≤ far) :
    (catL x y).2 = true ∧ SmL tags (Ea + Eb) (catL x y).1 ∧ (x.2.isEmpty = true → y.2.isEmpty = true → (catL x y).1.2.isEmpty = true) := by
  have rx : rightB x.1 = true := (rightL_iff (b := x.1) (ps := x.2)).1 hx |>.1
  have ry : rightB y.1 = true := (rightL_iff (b := y.1) (ps := y.2)).1 hy |>.1
  have hadd : (addB x.1 y.1).2 = true := addB_small rx ry (fun i => by have := sx.base i; have := sy.base i; omega)
  obtain ⟨g, m⟩ := foldl_put (lin_each hx hy)
  have hp := catL_point hx hy hadd
  rw [catL_put hx hy hadd] at hp ⊢
  refine ⟨rfl, ⟨fun i => ?_, fun b hb i => ?_, ?_, fun b hb => ?_⟩, fun h1 h2 => by rw [hp, h1, h2]; rfl⟩
  · show (addB x.1 y.1).1.getD i 0 ≤ _
    rw [addB_getD hadd]
    have := sx.base i; have := sy.base i; omega
  · rcases List.mem_append.1 ((m b).1 hb) with h | h
    · have := sx.per b h i; omega
    · have := sy.per b h i; omega
  · show (((addB x.1 y.1).1.length : Nat) : Int) ≤ _
    rw [addB_len hadd]
    have := sx.len; have := sy.len; omega
  · rcases List.mem_append.1 ((m b).1 hb) with h | h
    · exact sx.plen b h
    · exact sy.plen b h
/-- What the product of two such answers. -/
theorem SetOk.cat {tags Ea Eb : Int} {Na Nb Ma Mb : Nat} {sa sb : Bool} {a b : SemS} (ha : SetOk tags Ea Na Ma sa a) (hb : SetOk tags Eb Nb Mb sb b) (h1 : 1 ≤ Na) (h2 : 1 ≤ Nb) (e0 : 0 ≤ Ea) (e1 : 0 ≤ Eb) (hf : Ea + Eb ≤ far) (st : MSt) :
    (((catS st a b).2.2 = 0 ∧ (spendM st (a.length * b.length : Nat)).2 = true) ∨ ((catS st a b).2.2 = 7 ∧ (spendM st (a.length * b.length : Nat)).2 = false)) ∧ (catS st a b).1 = (spendM st (a.length * b.length : Nat)).1 ∧
    ((catS st a b).2.2 = 0 → (catS st a b).2.1 = (ofS ((prodL a b).map (fun p => p.1))).1 ∧ SetOk tags (Ea + Eb) (Na + Nb + 1) (Ma + Mb) (sa || sb) (catS st a b).2.1) := by
  have hall : ∀ p ∈ prodL a b, p.2 = true := fun p hp => by
    obtain ⟨x, hx, y, hy, rfl⟩ := prodL_mem hp
    exact (catL_sm (rightS_each ha.right hx) (rightS_each hb.right hy) (ha.sm x hx) (hb.sm y hy) e0 e1 hf).1
  cases hs : (spendM st (a.length * b.length : Nat)).2 with
  | false =>
    rw [catS_work ha.right hb.right hs]
    exact ⟨.inr ⟨rfl, rfl⟩, rfl, fun h => by simp at h⟩
  | true =>
    rw [catS_ok ha.right hb.right hs hall]
    refine ⟨.inl ⟨rfl, rfl⟩, rfl, fun _ => ⟨rfl, ?_⟩⟩
    have hm : ∀ x ∈ (ofS ((prodL a b).map (fun p => p.1))).1, ∃ y ∈ a, ∃ z ∈ b, x = (catL y z).1 := fun x hx => by
      obtain ⟨p, hp, rfl⟩ := List.mem_map.1 (ofS_mem hx)
      obtain ⟨y, hy, z, hz, rfl⟩ := prodL_mem hp
      exact ⟨y, hy, z, hz, rfl⟩
    refine ⟨ofS_right _, ?_, fun x hx => ?_, fun hs x hx => ?_, fun x hx => ?_⟩
    · have h3 := ofS_length ((prodL a b).map (fun p => p.1))
      rw [List.length_map, prodL_length] at h3
      exact Nat.le_trans h3 (Nat.le_trans (Nat.mul_le_mul ha.size hb.size) (szB_mul h1 h2))
    · obtain ⟨y, hy, z, hz, rfl⟩ := hm x hx
      have := catL_len y z
      have := ha.per y hy
      have := hb.per z hz
      omega
    · obtain ⟨y, hy, z, hz, rfl⟩ := hm x hx
      simp only [Bool.or_eq_false_iff] at hs
      exact (catL_sm (rightS_each ha.right hy) (rightS_each hb.right hz) (ha.sm y hy) (hb.sm z hz) e0 e1 hf).2.2 (ha.pts hs.1 y hy) (hb.pts hs.2 z hz)
    · obtain ⟨y, hy, z, hz, rfl⟩ := hm x hx
      exact (catL_sm (rightS_each ha.right hy) (rightS_each hb.right hz) (ha.sm y hy) (hb.sm z hz) e0 e1 hf).2.1
theorem badB_right {b : List Int} (h : rightB b = true) : badB b = false := badB_id h
theorem mem_nzB_right {ps : List (List Int)} (h : ∀ p ∈ ps, rightB p = true) {x : List Int} (hx : x ∈ nzB ps) : x ∈ ps := by
  unfold nzB at hx
  obtain ⟨hx, _⟩ := List.mem_filter.1 hx
  obtain ⟨p, hp, rfl⟩ := List.mem_map.1 hx
  rw [normB_id (h p hp)]
  exact hp
/-- The linear set of no base and these periods, each of them right. -/
theorem ofLin_pts {ps : List (List Int)} (h : ∀ p ∈ ps, rightB p = true) :
    ∃ q, ofLin [] ps = (([], q), true) ∧ Good q ∧ (∀ x, x ∈ q ↔ x ∈ nzB ps) ∧ q.length ≤ ps.length := by
  cases hq : ofF [] ps with
  | none =>
    obtain ⟨p, hp, hb⟩ := ofF_none.1 hq
    rw [badB_right (h p hp)] at hb; cases hb
  | some q =>
    obtain ⟨g, m⟩ := ofF_mems Good.nil hq
    refine ⟨q, ofLin_yes (base := []) rfl hq, g, fun x => by rw [m x]; simp, ?_⟩
    have := ofF_len2 ps [] q hq
    simpa using this
theorem SetOk.star {tags E : Int} {N M : Nat} {a : SemS} (ha : SetOk tags E N M false a) (e0 : 0 ≤ E) (t0 : 0 ≤ tags) (st : MSt) :
    (((starS st a).2.2 = 0 ∧ (spendM st (a.length : Nat)).2 = true) ∨ ((starS st a).2.2 = 7 ∧ (spendM st (a.length : Nat)).2 = false)) ∧ (starS st a).1 = (spendM st (a.length : Nat)).1 ∧
    ((starS st a).2.2 = 0 → (starS st a).2.1 = [(ofLin [] (a.map (fun x => x.1))).1] ∧ SetOk tags E (N + 1) (szB N) true (starS st a).2.1) := by
  have hp := ha.pts rfl
  cases hs : (spendM st (a.length : Nat)).2 with
  | false =>
    rw [starS_work ha.right hp hs]
    exact ⟨.inr ⟨rfl, rfl⟩, rfl, fun h => by simp at h⟩
  | true =>
    rw [starS_ok ha.right hp hs]
    refine ⟨.inl ⟨rfl, rfl⟩, rfl, fun _ => ⟨rfl, ?_⟩⟩
    have hr : ∀ p ∈ a.map (fun x => x.1), rightB p = true := fun p hp => by
      obtain ⟨x, hx, rfl⟩ := List.mem_map.1 hp
      exact (rightL_iff (b := x.1) (ps := x.2)).1 (rightS_each ha.right hx) |>.1
    obtain ⟨q, hq, g, m, hl⟩ := ofLin_pts hr
    rw [hq]
    rw [List.length_map] at hl
    have hm : ∀ b ∈ q, ∃ x ∈ a, b = x.1 := fun b hb => by
      obtain ⟨x, hx, e⟩ := List.mem_map.1 (mem_nzB_right hr ((m b).1 hb))
      exact ⟨x, hx, e.symm⟩
    refine ⟨?_, ?_, fun x hx => ?_, fun h => by simp at h, fun x hx => ?_⟩
    · refine rightS_iff.2 ⟨fun p hp => ?_, by simp⟩
      obtain rfl : p = ([], q) := by simpa using hp
      exact rightL_mk rfl g
    · show 1 ≤ _
      exact szB_pos _
    · obtain rfl : x = ([], q) := by simpa using hx
      exact Nat.le_trans hl ha.size
    · obtain rfl : x = ([], q) := by simpa using hx
      refine ⟨fun i => by simpa using e0, fun b hb i => ?_, by simpa using t0, fun b hb => ?_⟩
      · obtain ⟨y, hy, rfl⟩ := hm b hb
        exact (ha.sm y hy).base i
      · obtain ⟨y, hy, rfl⟩ := hm b hb
        exact (ha.sm y hy).len
theorem oneB_len (tag n : Int) (h : 0 ≤ tag) : ((oneB tag n).length : Int) ≤ tag + 1 := by
  unfold oneB
  split
  · simp; omega
  · simp; omega
theorem oneB_get (tag n : Int) (h : 0 ≤ n) (i : Nat) : (oneB tag n).getD i 0 ≤ n := by
  unfold oneB
  split
  · rw [List.getD_eq_getElem?_getD]
    by_cases h1 : i < tag.toNat
    · rw [List.getElem?_append_left (by simpa using h1), List.getElem?_replicate, if_pos h1]
      simpa using h
    · rw [List.getElem?_append_right (by simpa using h1), List.length_replicate]
      rcases Nat.eq_zero_or_pos (i - tag.toNat) with e | e
      · rw [e]; simp
      · rw [List.getElem?_eq_none (by have h9 : 1 ≤ i - tag.toNat := e; simp; omega)]; simpa using h
  · simpa using h
theorem SetOk.nil (tags E : Int) (N M : Nat) (s : Bool) : SetOk tags E N M s [] := ⟨rfl, Nat.zero_le _, fun x hx => by simp at hx, fun _ x hx => by simp at hx, fun x hx => by simp at hx⟩
theorem SetOk.point {tags E : Int} {b : List Int} (N M : Nat) (s : Bool) (h : rightB b = true) (h1 : ∀ i, b.getD i 0 ≤ E) (h2 : (b.length : Int) ≤ tags) : SetOk tags E N M s [(b, [])] := by
  refine ⟨rightS_iff.2 ⟨fun p hp => ?_, by simp⟩, szB_pos _, fun x hx => ?_, fun _ x hx => ?_, fun x hx => ?_⟩
  · obtain rfl : p = (b, []) := by simpa using hp
    exact rightL_mk h Good.nil
  all_goals
    obtain rfl : x = (b, []) := by simpa using hx
  · exact Nat.zero_le _
  · rfl
  · exact ⟨h1, fun b hb => by simp at hb, h2, fun b hb => by simp at hb⟩
/-- All its periods' numbers are at most P. -/
def PerLe (P : Int) (s : SemS) : Prop := ∀ x ∈ s, ∀ b ∈ x.2, ∀ i, b.getD i 0 ≤ P
theorem PerLe.nil (P : Int) : PerLe P [] := fun x hx => by simp at hx
theorem PerLe.point (P : Int) (b : List Int) : PerLe P [(b, [])] := fun x hx c hc => by
  obtain rfl : x = (b, []) := by simpa using hx
  simp at hc
theorem PerLe.union {P : Int} {a b : SemS} (ha : PerLe P a) (hb : PerLe P b) (ra : rightS a = true) (rb : rightS b = true) : PerLe P (unionS a b) := by
  rw [unionS_yes ra rb]
  intro x hx
  rcases List.mem_append.1 (ofS_mem hx) with h | h
  · exact ha x h
  · exact hb x h
theorem PerLe.catL {P : Int} {x y : Lin} (hx : ∀ b ∈ x.2, ∀ i, b.getD i 0 ≤ P) (hy : ∀ b ∈ y.2, ∀ i, b.getD i 0 ≤ P) (rx : rightL x = true) (ry : rightL y = true) : ∀ b ∈ (catL x y).1.2, ∀ i, b.getD i 0 ≤ P := by
  intro b hb i
  by_cases hadd : (addB x.1 y.1).2 = true
  · rw [catL_put rx ry hadd] at hb
    rcases List.mem_append.1 (((foldl_put (lin_each rx ry)).2 b).1 hb) with h | h
    · exact hx b h i
    · exact hy b h i
  · rw [catL_no3 (by simpa using hadd)] at hb
    simp at hb
theorem PerLe.cat {P : Int} {a b : SemS} (ha : PerLe P a) (hb : PerLe P b) (ra : rightS a = true) (rb : rightS b = true) (st : MSt) : PerLe P (catS st a b).2.1 := by
  unfold catS
  split
  · split
    · split
      · intro x hx
        obtain ⟨p, hp, rfl⟩ := List.mem_map.1 (ofS_mem hx)
        obtain ⟨y, hy, z, hz, rfl⟩ := prodL_mem hp
        exact PerLe.catL (ha y hy) (hb z hz) (rightS_each ra hy) (rightS_each rb hz)
      · exact PerLe.nil _
    · exact PerLe.nil _
  · exact PerLe.nil _
theorem PerLe.star {tags E P : Int} {N M : Nat} {a : SemS} (ha : SetOk tags E N M false a) (hE : E ≤ P) (st : MSt) : PerLe P (starS st a).2.1 := by
  unfold starS
  split
  · split
    · have hr : ∀ p ∈ a.map (fun x => x.1), rightB p = true := fun p hp => by
        obtain ⟨x, hx, rfl⟩ := List.mem_map.1 hp
        exact (rightL_iff (b := x.1) (ps := x.2)).1 (rightS_each ha.right hx) |>.1
      obtain ⟨q, hq, g, m, hl⟩ := ofLin_pts hr
      rw [hq]
      intro x hx b hb i
      obtain rfl : x = ([], q) := by simpa using hx
      obtain ⟨y, hy, e⟩ := List.mem_map.1 (mem_nzB_right hr ((m b).1 hb))
      have := (ha.sm y hy).base i
      rw [e] at this
      omega
    · exact PerLe.nil _
  · exact PerLe.nil _
theorem SetOk.weak {tags E E' : Int} {N N' M M' : Nat} {s : Bool} {a : SemS} (h : SetOk tags E N M s a) (hE : E ≤ E') (hN : N ≤ N') (hM : M ≤ M') : SetOk tags E' N' M' true a :=
  ⟨h.right, Nat.le_trans h.size (szB_mono hN), fun x hx => Nat.le_trans (h.per x hx) hM, fun h => by simp at h, fun x hx => (h.sm x hx).mono hE⟩
end Go.Cb

/- Plain laws: a right pattern asks for little, and what it stands for is small. -/
namespace Go.Cb
theorem snoc1 {α : Type} {l : List α} (h : 1 ≤ l.length) : ∃ r a, l = r ++ [a] := ⟨l.dropLast, l.getLast (fun e => by rw [e] at h; simp at h), (List.dropLast_concat_getLast _).symm⟩
theorem snoc2 {α : Type} {l : List α} (h : 2 ≤ l.length) : ∃ r a b, l = r ++ [a, b] := by
  obtain ⟨r, b, rfl⟩ := snoc1 (l := l) (by omega)
  obtain ⟨r', a, rfl⟩ := snoc1 (l := r) (by simp at h; omega)
  exact ⟨r', a, b, by simp⟩
/-- How many leaves n nodes have at most. -/
def lvs (n : Nat) : Nat := (n + 1) / 2
theorem lvs_add (a b : Nat) : lvs a + lvs b ≤ lvs (a + b + 1) := by unfold lvs; omega
theorem lvs_mono {a b : Nat} (h : a ≤ b) : lvs a ≤ lvs b := by unfold lvs; omega
theorem lvs_le (a : Nat) : lvs a ≤ a := by unfold lvs; omega
/-- One that is open: where it stands, how many nodes it has, how many periods its linear sets have at most. -/
structure ZN where
  v : Int
  n : Nat
  m : Nat
structure InvN (tags e : Int) (K : Nat) (i : Nat) (Z : List ZN) (st : List Bool) (l : List SemS) : Prop where
  len : l.length = i
  sumN : (Z.map (·.n)).sum ≤ i
  sumM : (Z.map (·.m)).sum ≤ perB K
  low : i ≤ K → ∀ z ∈ Z, z.m ≤ perB z.n
  ok : ∀ z ∈ Z, 0 ≤ z.v ∧ z.v < i ∧ 1 ≤ z.n ∧ SetOk tags (e * lvs z.n) z.n z.m (st.getD z.v.toNat false) (l.getD z.v.toNat [])
  pr : ∀ z ∈ Z, PerLe (e * lvs (K - 1)) (l.getD z.v.toNat [])
  last : ∀ z, Z.getLast? = some z → z.v = (i : Int) - 1
  fresh : ∀ j, i ≤ j → st.getD j false = false
  room : i ≤ st.length
theorem getD_app {α : Type} {l : List α} {x d : α} {k : Nat} (h : k < l.length) : (l ++ [x]).getD k d = l.getD k d := by
  rw [List.getD_eq_getElem?_getD, List.getD_eq_getElem?_getD, List.getElem?_append_left h]
theorem getD_app_last {α : Type} {l : List α} {x d : α} : (l ++ [x]).getD l.length d = x := by
  rw [List.getD_eq_getElem?_getD, List.getElem?_append_right (Nat.le_refl _)]; simp
theorem getD_setB {l : List Bool} {k j : Nat} {v : Bool} (h : k ≠ j) : (l.set k v).getD j false = l.getD j false := by
  rw [List.getD_eq_getElem?_getD, List.getD_eq_getElem?_getD, List.getElem?_set_ne h]
theorem getD_setB_eq {l : List Bool} {k : Nat} {v : Bool} (h : k < l.length) : (l.set k v).getD k false = v := by
  rw [List.getD_eq_getElem?_getD, List.getElem?_set_self h]; rfl
/-- A node more: those that stay, and the new one. -/
theorem InvN.push {tags e : Int} {K i : Nat} {R T : List ZN} {st : List Bool} {l : List SemS} {s : SemS} {n m : Nat} {v : Bool} (h : InvN tags e K i (R ++ T) st l) (hi : i < st.length)
    (hn : n ≤ (T.map (·.n)).sum + 1) (hn1 : 1 ≤ n) (hm : (i < K → m ≤ perB n) ∧ ((i < K → m ≤ perB n) → ((R ++ [ZN.mk i n m]).map (·.m)).sum ≤ perB K)) (hs : SetOk tags (e * lvs n) n m v s) (hp : PerLe (e * lvs (K - 1)) s) :
    InvN tags e K (i + 1) (R ++ [⟨i, n, m⟩]) (st.set i v) (l ++ [s]) := by
  have hl := h.len
  refine ⟨by rw [List.length_append, hl]; rfl, ?_, hm.2 hm.1, fun hk z hz => ?_, fun z hz => ?_, fun z hz => ?_, fun z hz => ?_, fun j hj => ?_, by rw [List.length_set]; omega⟩
  · have := h.sumN
    simp only [List.map_append, List.sum_append, List.map_cons, List.map_nil, List.sum_cons, List.sum_nil] at this ⊢
    omega
  · rcases List.mem_append.1 hz with hz | hz
    · exact h.low (by omega) z (List.mem_append_left _ hz)
    · obtain rfl : z = ⟨i, n, m⟩ := by simpa using hz
      exact hm.1 (by omega)
  · rcases List.mem_append.1 hz with hz | hz
    · obtain ⟨a, b, c, d⟩ := h.ok z (List.mem_append_left _ hz)
      refine ⟨a, by omega, c, ?_⟩
      rw [getD_setB (show i ≠ z.v.toNat by omega), getD_app (show z.v.toNat < l.length by omega)]
      exact d
    · obtain rfl : z = ⟨i, n, m⟩ := by simpa using hz
      refine ⟨by simp, by simp; omega, hn1, ?_⟩
      dsimp only
      rw [Int.toNat_natCast, getD_setB_eq hi, ← hl, getD_app_last]
      exact hs
  · rcases List.mem_append.1 hz with hz | hz
    · obtain ⟨a, b, c, d⟩ := h.ok z (List.mem_append_left _ hz)
      rw [getD_app (show z.v.toNat < l.length by omega)]
      exact h.pr z (List.mem_append_left _ hz)
    · obtain rfl : z = ⟨i, n, m⟩ := by simpa using hz
      dsimp only
      rw [Int.toNat_natCast, ← hl, getD_app_last]
      exact hp
  · rw [List.getLast?_append] at hz
    obtain rfl : (⟨i, n, m⟩ : ZN) = z := by simpa using hz
    simp
  · rw [getD_setB (by omega)]
    exact h.fresh j (by omega)
theorem sumM_le {K : Nat} : ∀ {Z : List ZN} {i : Nat}, (Z.map (·.n)).sum ≤ i → 1 ≤ i → (∀ z ∈ Z, 1 ≤ z.n) → (∀ z ∈ Z, z.m ≤ perB z.n) → (Z.map (·.m)).sum ≤ perB i
  | [], i, _, _, _, _ => by simp
  | [z], i, h, _, h1, h2 => by
    simp only [List.map_cons, List.map_nil, List.sum_cons, List.sum_nil, Nat.add_zero] at h ⊢
    exact Nat.le_trans (h2 z (by simp)) (perB_mono h)
  | z :: y :: Z, i, h, _, h1, h2 => by
    have hz := h1 z (by simp)
    have hy := h1 y (by simp)
    have h' : z.n + ((y :: Z).map (·.n)).sum ≤ i := by simpa using h
    have hyz : y.n ≤ ((y :: Z).map (·.n)).sum := by simp
    have ih := sumM_le (K := K) (Z := y :: Z) (i := i - z.n) (by omega) (by omega) (fun q hq => h1 q (by simp [hq])) (fun q hq => h2 q (by simp [hq]))
    have h3 := h2 z (by simp)
    have h4 := perB_add (a := z.n) (b := i - z.n) hz (by omega)
    rw [show z.n + (i - z.n) = i by omega] at h4
    show z.m + ((y :: Z).map (·.m)).sum ≤ _
    omega
theorem set_same {l : List Bool} {i : Nat} (h : l.getD i false = false) : l.set i false = l := by
  apply List.ext_getElem?
  intro j
  rw [List.getElem?_set]
  split
  · rename_i e
    subst e
    split
    · rename_i hl
      rw [List.getD_eq_getElem?_getD, List.getElem?_eq_getElem hl] at h
      rw [List.getElem?_eq_getElem hl]
      have h' : l[i] = false := h
      rw [h']
    · rename_i hl
      rw [List.getElem?_eq_none (by omega)]
  · rfl
/-- A leaf. -/
theorem InvN.leaf {tags e : Int} {K i : Nat} {Z : List ZN} {st : List Bool} {l : List SemS} {s : SemS} (h : InvN tags e K i Z st l) (hi : i < st.length) (hs : SetOk tags (e * (lvs 1 : Nat)) 1 0 false s) (hp : PerLe (e * lvs (K - 1)) s) :
    InvN tags e K (i + 1) (Z ++ [⟨i, 1, 0⟩]) st (l ++ [s]) := by
  have := InvN.push (R := Z) (T := []) (by simpa using h) hi (n := 1) (m := 0) (by simp) (Nat.le_refl _) ⟨fun _ => Nat.zero_le _, fun _ => by simpa using h.sumM⟩ hs hp
  rwa [set_same (h.fresh i (Nat.le_refl _))] at this
/-- What a node's answer is: 0, or the budget is used up. -/
def Code (st : MSt) (r : MSt × SemS × Int) : Prop := r.2.2 = 0 ∨ (r.2.2 = 7 ∧ st ≠ none)
theorem spend_none {st : MSt} {n : Int} (h : (spendM st n).2 = false) : st ≠ none := by
  intro e
  subst e
  cases h
theorem mul_add1 (e : Int) (a b : Nat) (h : 0 ≤ e) : e * lvs a + e * lvs b ≤ e * ((lvs (a + b + 1) : Nat) : Int) := by
  rw [← Int.mul_add]
  have := lvs_add a b
  exact Int.mul_le_mul_of_nonneg_left (by omega) h
theorem mul_mono (e : Int) {a b : Nat} (h : 0 ≤ e) (hab : a ≤ b) : e * a ≤ e * (b : Int) := Int.mul_le_mul_of_nonneg_left (by omega) h
theorem szB_24 {n : Nat} (h : n ≤ 24) : szB n ≤ 2048 := Nat.le_trans (szB_mono h) (by decide)
theorem perB_24 {n : Nat} (h : n ≤ 24) : perB n ≤ 2048 := Nat.le_trans (perB_mono h) (by decide)
theorem InvN.step {tags e : Int} {K i : Nat} {x : PN} {Z : List ZN} {st : List Bool} {s : List Int × List Bool} {l : List SemS} (h : InvN tags e K i Z st l) (hstep : stepP tags i x (Z.map (·.v)) st = some s) (hi : i < st.length) (hi2 : i < 24)
    (hK : x.k = 6 → i < K) (hK2 : K ≤ 24) (he : 1 ≤ e) (hef : e * 24 ≤ far) (hE : x.k = 3 → x.a ≤ e) (t0 : 0 ≤ tags) (mst : MSt) :
    NodeFit x l mst ∧ Code mst (nodeF x l mst) ∧ ((nodeF x l mst).2.2 = 0 → ∃ Z', s.1 = Z'.map (·.v) ∧ 1 ≤ Z'.length ∧ InvN tags e K (i + 1) Z' s.2 (l ++ [(nodeF x l mst).2.1])) := by
  have hl := h.len
  unfold stepP at hstep
  by_cases k12 : x.k = 1 ∨ x.k = 2
  · rw [if_pos k12] at hstep
    split at hstep
    · cases hstep
    · cases hstep
      have hf : NodeFit x l mst := ⟨fun e => by omega, fun e => by omega, fun e => by omega, fun e => by omega, fun e => by omega⟩
      refine ⟨hf, ?_⟩
      rcases k12 with k | k
      · have hn : nodeF x l mst = (mst, [], 0) := by unfold nodeF; rw [if_neg (by omega), if_neg (by omega), if_neg (by omega), if_neg (by omega), if_neg (by omega)]
        rw [hn]
        exact ⟨.inl rfl, fun _ => ⟨Z ++ [⟨i, 1, 0⟩], by simp, by simp, h.leaf hi (SetOk.nil _ _ _ _ _) (PerLe.nil _)⟩⟩
      · have hn : nodeF x l mst = (mst, oneS, 0) := by unfold nodeF; rw [if_pos k]
        rw [hn]
        exact ⟨.inl rfl, fun _ => ⟨Z ++ [⟨i, 1, 0⟩], by simp, by simp, h.leaf hi (SetOk.point _ _ _ rfl (fun j => by rw [show ((lvs 1 : Nat) : Int) = 1 from rfl, Int.mul_one]; simp; omega) (by simpa using t0)) (PerLe.point _ _)⟩⟩
  · rw [if_neg k12] at hstep
    by_cases k3 : x.k = 3
    · rw [if_pos k3] at hstep
      split at hstep
      · cases hstep
      · rename_i hc
        cases hstep
        simp only [not_or, Int.not_lt, Int.not_le, ne_eq, Decidable.not_not] at hc
        have hf : NodeFit x l mst := ⟨fun e => by omega, fun e => by omega, fun e => by omega, fun e => by omega, fun e => by omega⟩
        have hn : nodeF x l mst = (mst, [(oneB x.n x.a, [])], 0) := by unfold nodeF; rw [if_neg (by omega), if_pos k3]
        rw [hn]
        have hE := hE k3
        refine ⟨hf, .inl rfl, fun _ => ⟨Z ++ [⟨i, 1, 0⟩], by simp, by simp, h.leaf hi (SetOk.point _ _ _ (oneB_right _ _) (fun j => ?_) ?_) (PerLe.point _ _)⟩⟩
        · have := oneB_get x.n x.a (by omega) j
          rw [show ((lvs 1 : Nat) : Int) = 1 from rfl, Int.mul_one]
          omega
        · have := oneB_len x.n x.a hc.1; omega
    · rw [if_neg k3] at hstep
      by_cases k45 : x.k = 4 ∨ x.k = 5
      · rw [if_pos k45] at hstep
        split at hstep
        · cases hstep
        · rename_i hc
          cases hstep
          simp only [not_or, Nat.not_lt, ne_eq, Decidable.not_not] at hc
          obtain ⟨c1, c2, c3, c4⟩ := hc
          rw [List.length_map] at c1
          obtain ⟨R, za, zb, rfl⟩ := snoc2 c1
          have hb : zb.v = x.b := by rw [← c3]; simp [List.getD_eq_getElem?_getD]
          have ha : za.v = x.a := by rw [← c4]; simp [List.getD_eq_getElem?_getD]
          obtain ⟨a0, a1, a2, a3⟩ := h.ok za (by simp)
          obtain ⟨b0, b1, b2, b3⟩ := h.ok zb (by simp)
          have pa := h.pr za (by simp)
          have pb := h.pr zb (by simp)
          rw [ha] at a0 a1 a3 pa
          rw [hb] at b0 b1 b3 pb
          have hsum := h.sumN
          have hsm := h.sumM
          simp only [List.map_append, List.sum_append, List.map_cons, List.map_nil, List.sum_cons, List.sum_nil, Nat.add_zero] at hsum hsm
          have hef2 : e * lvs za.n + e * lvs zb.n ≤ far := Int.le_trans (mul_add1 e za.n zb.n (by omega)) (Int.le_trans (mul_mono e (by omega) (Nat.le_trans (lvs_le _) (show za.n + zb.n + 1 ≤ 24 by omega))) hef)
          have ea : 0 ≤ e * (lvs za.n : Int) := Int.mul_nonneg (by omega) (by omega)
          have eb : 0 ≤ e * (lvs zb.n : Int) := Int.mul_nonneg (by omega) (by omega)
          have sza := Nat.le_trans a3.size (szB_24 (show za.n ≤ 24 by omega))
          have szb := Nat.le_trans b3.size (szB_24 (show zb.n ≤ 24 by omega))
          have hpk := perB_24 hK2
          have hf : NodeFit x l mst := by
            refine ⟨fun _ => ⟨a0, by omega⟩, fun _ => ⟨b0, by omega⟩, fun _ => ⟨by omega, fun y hy => ?_⟩, fun _ => ⟨by omega, by omega, fun _ => ?_, fun y hy z hz => ?_⟩, fun e => by omega⟩
            · rcases List.mem_append.1 hy with hy | hy
              · have := a3.per y hy; omega
              · have := b3.per y hy; omega
            · have := Nat.mul_le_mul sza szb; omega
            · have := a3.per y hy
              have := b3.per z hz
              omega
          have hpush : ∀ s' : SemS, PerLe (e * lvs (K - 1)) s' → SetOk tags (e * lvs za.n + e * lvs zb.n) (za.n + zb.n + 1) (za.m + zb.m) (st.getD x.a.toNat false || st.getD x.b.toNat false) s' →
              ∃ Z', ((R ++ [za, zb]).map (·.v)).take (((R ++ [za, zb]).map (·.v)).length - 2) ++ [(i : Int)] = Z'.map (·.v) ∧ 1 ≤ Z'.length ∧ InvN tags e K (i + 1) Z' (st.set i (st.getD x.a.toNat false || st.getD x.b.toNat false)) (l ++ [s']) := fun s' hp hs => by
            refine ⟨R ++ [⟨i, za.n + zb.n + 1, za.m + zb.m⟩], by simp, by simp, InvN.push (T := [za, zb]) h hi (by simp) (by omega) ⟨fun hk => ?_, fun _ => ?_⟩ ?_ hp⟩
            · have h1 := h.low (by omega) za (by simp)
              have h2 := h.low (by omega) zb (by simp)
              have h3 := perB_add a2 b2
              have h4 := perB_mono (show za.n + zb.n ≤ za.n + zb.n + 1 by omega)
              omega
            · simp only [List.map_append, List.sum_append, List.map_cons, List.map_nil, List.sum_cons, List.sum_nil, Nat.add_zero]
              omega
            · exact ⟨hs.right, hs.size, hs.per, hs.pts, fun y hy => (hs.sm y hy).mono (mul_add1 e _ _ (by omega))⟩
          refine ⟨hf, ?_⟩
          rcases k45 with k | k
          · have hn : nodeF x l mst = (mst, unionS (l.getD x.a.toNat []) (l.getD x.b.toNat []), 0) := by unfold nodeF; rw [if_neg (by omega), if_neg (by omega), if_pos k]
            rw [hn]
            exact ⟨.inl rfl, fun _ => hpush _ (PerLe.union pa pb a3.right b3.right) (SetOk.union a3 b3 a2 b2 ea eb)⟩
          · have hn : nodeF x l mst = catS mst (l.getD x.a.toNat []) (l.getD x.b.toNat []) := by unfold nodeF; rw [if_neg (by omega), if_neg (by omega), if_neg (by omega), if_pos k]
            rw [hn]
            obtain ⟨q1, _, q3⟩ := SetOk.cat a3 b3 a2 b2 ea eb hef2 mst
            refine ⟨?_, fun hz => hpush _ (PerLe.cat pa pb a3.right b3.right mst) (q3 hz).2⟩
            rcases q1 with q | q
            · exact .inl q.1
            · exact .inr ⟨q.1, spend_none q.2⟩
      · rw [if_neg k45] at hstep
        by_cases k6 : x.k = 6
        · rw [if_pos k6] at hstep
          split at hstep
          · cases hstep
          · rename_i hc
            cases hstep
            simp only [not_or, Nat.not_lt, ne_eq, Decidable.not_not] at hc
            obtain ⟨c1, c2, c3, c4, c5⟩ := hc
            rw [List.length_map] at c1
            obtain ⟨R, za, rfl⟩ := snoc1 c1
            have ha : za.v = x.a := by rw [← c4]; simp [List.getD_eq_getElem?_getD]
            obtain ⟨a0, a1, a2, a3⟩ := h.ok za (by simp)
            rw [ha] at a0 a1 a3
            have c5 : st.getD x.a.toNat false = false := by
              cases hq : st.getD x.a.toNat false with
              | false => rfl
              | true => exact absurd hq c5
            rw [c5] at a3
            have hsum := h.sumN
            simp only [List.map_append, List.sum_append, List.map_cons, List.map_nil, List.sum_cons, List.sum_nil, Nat.add_zero] at hsum
            have ea : 0 ≤ e * (lvs za.n : Int) := Int.mul_nonneg (by omega) (by omega)
            have sza := Nat.le_trans a3.size (szB_24 (show za.n ≤ 24 by omega))
            have hf : NodeFit x l mst := ⟨fun _ => ⟨a0, by omega⟩, fun e => by omega, fun e => by omega, fun e => by omega, fun _ => by omega⟩
            have hn : nodeF x l mst = starS mst (l.getD x.a.toNat []) := by unfold nodeF; rw [if_neg (by omega), if_neg (by omega), if_neg (by omega), if_neg (by omega), if_pos k6]
            rw [hn]
            obtain ⟨q1, _, q3⟩ := SetOk.star a3 ea t0 mst
            refine ⟨hf, ?_, fun hz => ?_⟩
            · rcases q1 with q | q
              · exact .inl q.1
              · exact .inr ⟨q.1, spend_none q.2⟩
            · have hs := (q3 hz).2
              have hlow : szB za.n ≤ perB (za.n + 1) := by unfold perB; rw [if_neg (by omega), Nat.add_sub_cancel]; exact Nat.le_refl _
              refine ⟨R ++ [⟨i, za.n + 1, szB za.n⟩], by simp, by simp, InvN.push (T := [za]) h hi (by simp) (by omega) ⟨fun _ => hlow, fun _ => ?_⟩ ?_ (PerLe.star a3 (mul_mono e (by omega) (lvs_mono (by have := hK k6; omega))) mst)⟩
              · have hk := hK k6
                refine Nat.le_trans (sumM_le (K := K) (i := i + 1) ?_ (by omega) ?_ ?_) (perB_mono (by omega))
                · simp only [List.map_append, List.sum_append, List.map_cons, List.map_nil, List.sum_cons, List.sum_nil, Nat.add_zero]; omega
                · intro z hz
                  rcases List.mem_append.1 hz with hz | hz
                  · exact (h.ok z (List.mem_append_left _ hz)).2.2.1
                  · obtain rfl : z = ⟨i, za.n + 1, szB za.n⟩ := by simpa using hz
                    simp
                · intro z hz
                  rcases List.mem_append.1 hz with hz | hz
                  · exact h.low (by omega) z (List.mem_append_left _ hz)
                  · obtain rfl : z = ⟨i, za.n + 1, szB za.n⟩ := by simpa using hz
                    exact hlow
              · exact ⟨hs.right, hs.size, hs.per, hs.pts, fun y hy => (hs.sm y hy).mono (mul_mono e (by omega) (lvs_mono (by omega)))⟩
        · rw [if_neg k6] at hstep
          cases hstep
theorem norm_go {tags e : Int} {K : Nat} (hK2 : K ≤ 24) (he : 1 ≤ e) (hef : e * 24 ≤ far) (t0 : 0 ≤ tags) : ∀ (r : List PN) (i : Nat) (Z : List ZN) (st : List Bool) (l : List SemS) (mst : MSt), goP tags i r (Z.map (·.v)) st = true → InvN tags e K i Z st l → i + r.length ≤ st.length → i + r.length ≤ 24 →
    (∀ j x, r[j]? = some x → x.k = 6 → i + j < K) → (∀ x ∈ r, x.k = 3 → x.a ≤ e) →
    NormFit r l mst ∧ Code mst (normF r l mst) ∧ ((normF r l mst).2.2 = 0 → SetOk tags (e * 24) 24 (perB K) true (normF r l mst).2.1 ∧ PerLe (e * lvs (K - 1)) (normF r l mst).2.1) ∧ ((normF r l mst).2.2 ≠ 0 → (normF r l mst).2.1 = [])
  | [], i, Z, st, l, mst, hg, inv, _, h24, _, _ => by
    have h1 : (Z.map (·.v)).length = 1 := by simpa [goP] using hg
    rw [List.length_map] at h1
    obtain ⟨z, rfl⟩ : ∃ z, Z = [z] := List.length_eq_one_iff.1 h1
    have hl := inv.last z rfl
    have hlen := inv.len
    obtain ⟨z0, z1, z2, z3⟩ := inv.ok z (by simp)
    have hs := inv.sumN
    have hm := inv.sumM
    simp only [List.map_cons, List.map_nil, List.sum_cons, List.sum_nil, Nat.add_zero] at hs hm
    refine ⟨trivial, .inl rfl, fun _ => ?_, fun h => absurd rfl h⟩
    show SetOk _ _ _ _ _ (l.getD (l.length - 1) []) ∧ PerLe _ (l.getD (l.length - 1) [])
    rw [show l.length - 1 = z.v.toNat by omega]
    simp only [List.length_nil] at h24
    exact ⟨z3.weak (mul_mono e (by omega) (Nat.le_trans (lvs_le _) (show z.n ≤ 24 by omega))) (by omega) hm, inv.pr z (by simp)⟩
  | x :: r, i, Z, st, l, mst, hg, inv, hst, h24, hk, hE => by
    simp only [List.length_cons] at hst h24
    cases hs : stepP tags i x (Z.map (·.v)) st with
    | none => rw [goP, hs] at hg; cases hg
    | some s =>
      have hg' : goP tags (i + 1) r s.1 s.2 = true := by rw [goP, hs] at hg; exact hg
      have hstl : s.2.length = st.length := by
        have := stepP_ok (n := st.length) hs ⟨?_, ?_, rfl⟩
        · exact this.stars
        · rw [List.length_map]
          have h1 := inv.sumN
          have : ∀ {Z : List ZN}, (∀ z ∈ Z, 1 ≤ z.n) → Z.length ≤ (Z.map (·.n)).sum := fun {Z} => by
            induction Z with
            | nil => intro _; simp
            | cons z Z ih =>
              intro h
              have := ih (fun q hq => h q (by simp [hq]))
              have := h z (by simp)
              simp only [List.length_cons, List.map_cons, List.sum_cons]
              omega
          exact Nat.le_trans (this (fun z hz => (inv.ok z hz).2.2.1)) h1
        · intro v hv
          obtain ⟨z, hz, rfl⟩ := List.mem_map.1 hv
          have := inv.ok z hz
          exact ⟨this.1, this.2.1⟩
      obtain ⟨n1, n2, n3⟩ := InvN.step inv hs (by omega) (by omega) (fun h6 => by have := hk 0 x rfl h6; omega) hK2 he hef (fun h3 => hE x (by simp) h3) t0 (spendM mst 1).1
      have hnone : ∀ n : Int, (spendM mst n).1 = none → mst = none := fun n h => by
        cases mst with
        | none => rfl
        | some y => simp [spendM] at h
      cases hsp : (spendM mst 1).2 with
      | false =>
        refine ⟨fun h => absurd (hsp.symm.trans h) (by decide), ?_⟩
        have hn : normF (x :: r) l mst = ((spendM mst 1).1, [], 7) := by rw [normF, if_neg (by rw [hsp]; decide)]
        rw [hn]
        exact ⟨.inr ⟨rfl, spend_none hsp⟩, fun h => by simp at h, fun _ => rfl⟩
      | true =>
        by_cases hz : (nodeF x l (spendM mst 1).1).2.2 = 0
        · obtain ⟨Z', hZ, hZl, inv'⟩ := n3 hz
          rw [hZ] at hg'
          obtain ⟨m1, m2, m3, m4⟩ := norm_go hK2 he hef t0 r (i + 1) Z' s.2 _ (nodeF x l (spendM mst 1).1).1 hg' inv' (by omega) (by omega) (fun j y hy h6 => by have := hk (j + 1) y (by simpa using hy) h6; omega) (fun y hy h3 => hE y (by simp [hy]) h3)
          have hn : normF (x :: r) l mst = normF r (l ++ [(nodeF x l (spendM mst 1).1).2.1]) (nodeF x l (spendM mst 1).1).1 := by rw [normF, if_pos hsp, if_pos hz]
          rw [hn]
          refine ⟨fun _ => ⟨n1, fun _ => m1⟩, ?_, m3, m4⟩
          rcases m2 with m2 | m2
          · exact .inl m2
          · refine .inr ⟨m2.1, fun e => m2.2 ?_⟩
            subst e
            have hnd : ∀ (y : PN), (nodeF y l none).1 = none := fun y => by
              unfold nodeF
              split
              · rfl
              · split
                · rfl
                · split
                  · rfl
                  · split
                    · unfold catS
                      split
                      · split
                        · split <;> rfl
                        · rfl
                      · rfl
                    · split
                      · unfold starS
                        split
                        · split <;> rfl
                        · rfl
                      · rfl
            exact hnd x
        · have hn : normF (x :: r) l mst = ((nodeF x l (spendM mst 1).1).1, [], (nodeF x l (spendM mst 1).1).2.2) := by rw [normF, if_pos hsp, if_neg hz]
          rw [hn]
          refine ⟨fun _ => ⟨n1, fun h => absurd h hz⟩, ?_, fun h => absurd h hz, fun _ => rfl⟩
          rcases n2 with n2 | n2
          · exact absurd n2 hz
          · exact .inr ⟨n2.1, fun e => n2.2 (by rw [e]; rfl)⟩
/-- What a right pattern stands for. -/
theorem norm_ok {tags e : Int} {p : List PN} (hc : chkP p tags = true) (t0 : 0 ≤ tags) (K : Nat) (hK2 : K ≤ 24) (he : 1 ≤ e) (hef : e * 24 ≤ far) (hk : ∀ j x, p[j]? = some x → x.k = 6 → j < K) (hE : ∀ x ∈ p, x.k = 3 → x.a ≤ e) (mst : MSt) :
    NormFit p [] mst ∧ Code mst (normF p [] mst) ∧ ((normF p [] mst).2.2 = 0 → SetOk tags (e * 24) 24 (perB K) true (normF p [] mst).2.1 ∧ PerLe (e * lvs (K - 1)) (normF p [] mst).2.1) ∧ ((normF p [] mst).2.2 ≠ 0 → (normF p [] mst).2.1 = []) := by
  unfold chkP at hc
  simp only [Bool.and_eq_true, decide_eq_true_eq] at hc
  obtain ⟨⟨_, h24⟩, hg⟩ := hc
  refine norm_go hK2 he hef t0 p 0 [] _ [] mst hg ⟨rfl, by simp, by simp, fun _ z hz => by simp at hz, fun z hz => by simp at hz, fun z hz => by simp at hz, fun z hz => by simp at hz, fun j _ => ?_, Nat.zero_le _⟩ (by simp) (by simpa using h24) (fun j x hj h6 => by have := hk j x hj h6; omega) hE
  rw [List.getD_eq_getElem?_getD, List.getElem?_replicate]
  split <;> rfl
theorem chk_tag {tags : Int} : ∀ {r : List PN} {i : Nat} {op : List Int} {st : List Bool}, goP tags i r op st = true → ∀ x ∈ r, x.k = 3 → x.a ≤ 999999999
  | [], _, _, _, _, x, hx, _ => by simp at hx
  | y :: r, i, op, st, hg, x, hx, h3 => by
    rw [goP] at hg
    cases hs : stepP tags i y op st with
    | none => rw [hs] at hg; cases hg
    | some s =>
      rw [hs] at hg
      rcases List.mem_cons.1 hx with rfl | hx
      · unfold stepP at hs
        rw [if_neg (by omega), if_pos h3] at hs
        split at hs
        · cases hs
        · omega
      · exact chk_tag hg x hx h3
/-- Any right pattern at all. -/
theorem norm_fit {tags : Int} {p : List PN} (hc : chkP p tags = true) (t0 : 0 ≤ tags) (mst : MSt) : NormFit p [] mst := by
  have hc' := hc
  unfold chkP at hc'
  simp only [Bool.and_eq_true, decide_eq_true_eq] at hc'
  obtain ⟨⟨_, h24⟩, hg⟩ := hc'
  refine (norm_ok (e := 999999999) hc t0 24 (Nat.le_refl _) (by decide) (by decide) (fun j x hj _ => ?_) (fun x hx h3 => chk_tag hg x hx h3) mst).1
  have := (List.getElem?_eq_some_iff.1 hj).1
  omega
end Go.Cb

/- Plain laws: the patterns that the statements make of numbers. -/
namespace Go.Cb
/-- A pattern under way: its nodes, those that are open, which hold a star. -/
structure PS where
  p : List PN
  o : List Int
  s : List Bool
def PS.add (x : PS) (y : PN) (take : Nat) (b : Bool) : PS := ⟨x.p ++ [y], x.o.take (x.o.length - take) ++ [(x.p.length : Int)], x.s ++ [b]⟩
def pn (k a b n : Int) : PN := ⟨k, a, b, n, ByteArray.empty⟩
def PS.ta (x : PS) : Int := x.o.getD (x.o.length - 2) 0
def PS.tb (x : PS) : Int := x.o.getD (x.o.length - 1) 0
def PS.st (x : PS) (v : Int) : Bool := x.s.getD v.toNat false
/-- The two uppermost together. -/
def PS.two (x : PS) (k : Int) : PS := x.add (pn (4 + k) x.ta x.tb 0) 2 (x.st x.ta || x.st x.tb)
def manyN (n : Int) : Int := if 13 < withinI n 16 then 1 + withinI (n.tdiv 16) 5 else 1
def stepPl (x : PS) (n : Int) : PS :=
  if withinI n 16 < 4 ∧ 2 ≤ x.o.length then x.two (if withinI n 16 < 2 then 0 else 1)
  else if withinI n 16 < 6 ∧ 1 ≤ x.o.length ∧ x.st x.tb = false then x.add (pn 6 x.tb 0 0) 1 true
  else if withinI n 16 = 6 then x.add (pn 1 0 0 0) 0 false
  else if withinI n 16 = 7 then x.add (pn 2 0 0 0) 0 false
  else x.add (pn 3 (manyN n) 0 (withinI (n.tdiv 64) 4)) 0 false
def goPl : List Int → PS → PS
  | [], x => x
  | n :: r, x => if 23 ≤ x.p.length + x.o.length then x else goPl r (stepPl x n)
def onePl (x : PS) : PS := if x.o.length = 0 then x.add (pn 2 0 0 0) 0 false else x
def joinPl (l : List Int) : Nat → Nat → PS → PS
  | 0, _, x => x
  | f + 1, i, x => joinPl l f (i + 1) (x.two (withinI (l.getD i 0) 2))
def playPS (l : List Int) : PS := joinPl l ((onePl (goPl l ⟨[], [], []⟩)).o.length - 1) 0 (onePl (goPl l ⟨[], [], []⟩))
def playPat (l : List Int) : List PN := (playPS l).p
/-- What such a state is like. -/
structure PSok (x : PS) : Prop where
  lens : x.s.length = x.p.length
  below : ∀ v ∈ x.o, 0 ≤ v ∧ v < x.p.length
  lo : x.o.length ≤ x.p.length
  some_ : 1 ≤ x.p.length → 1 ≤ x.o.length
theorem PSok.add {x : PS} (h : PSok x) (y : PN) (take : Nat) (b : Bool) : PSok (x.add y take b) :=
  ⟨by simp [PS.add, h.lens], fun v hv => by
    simp only [PS.add, List.length_append, List.length_singleton]
    rcases List.mem_append.1 hv with hv | hv
    · have := h.below v (List.mem_of_mem_take hv); omega
    · obtain rfl : v = (x.p.length : Int) := by simpa using hv
      omega, by simp only [PS.add, List.length_append, List.length_take, List.length_singleton]; have := h.lo; omega, fun _ => by simp [PS.add]⟩
theorem PS.add_lens (x : PS) (y : PN) {take : Nat} (b : Bool) (h : take ≤ x.o.length) : (x.add y take b).p.length = x.p.length + 1 ∧ (x.add y take b).o.length + take = x.o.length + 1 ∧ (x.add y take b).s.length = x.s.length + 1 := by
  refine ⟨by simp [PS.add], ?_, by simp [PS.add]⟩
  show (x.o.take (x.o.length - take) ++ [(x.p.length : Int)]).length + take = _
  rw [List.length_append, List.length_take, List.length_singleton]
  omega
theorem two_lens {x : PS} (h : 2 ≤ x.o.length) (k : Int) : (x.two k).p.length = x.p.length + 1 ∧ (x.two k).o.length + 1 = x.o.length := by
  have := PS.add_lens x (pn (4 + k) x.ta x.tb 0) (x.st x.ta || x.st x.tb) h
  unfold PS.two
  omega
/-- What a state's next is. -/
theorem stepPl_cases (x : PS) (n : Int) : ∃ y take b, stepPl x n = x.add y take b ∧ take ≤ x.o.length ∧ (y.k = 3 → y.a ≤ 5) := by
  unfold stepPl
  split
  · rename_i h; exact ⟨_, 2, _, rfl, h.2, fun e => by simp only [pn] at e; split at e <;> omega⟩
  · split
    · rename_i h; exact ⟨_, 1, _, rfl, h.2.1, fun e => by simp only [pn] at e; omega⟩
    · split
      · exact ⟨_, 0, _, rfl, Nat.zero_le _, fun e => by simp only [pn] at e; omega⟩
      · split
        · exact ⟨_, 0, _, rfl, Nat.zero_le _, fun e => by simp only [pn] at e; omega⟩
        · refine ⟨_, 0, _, rfl, Nat.zero_le _, fun _ => ?_⟩
          show manyN n ≤ 5
          unfold manyN
          split
          · have := withinI_range (v := n.tdiv 16) (n := 5) (by omega); omega
          · omega
theorem stepPl_sum {x : PS} (n : Int) : (stepPl x n).p.length + (stepPl x n).o.length ≤ x.p.length + x.o.length + 2 ∧ (stepPl x n).p.length = x.p.length + 1 := by
  obtain ⟨y, take, b, e, ht, _⟩ := stepPl_cases x n
  have := PS.add_lens x y b ht
  rw [e]; omega
/-- All tags of few; nothing behind the first K is a star. -/
structure PSlaw (K : Nat) (x : PS) : Prop where
  tag : ∀ y ∈ x.p, y.k = 3 → y.a ≤ 5
  star : ∀ j y, x.p[j]? = some y → y.k = 6 → j < K
theorem PSlaw.add {K : Nat} {x : PS} (h : PSlaw K x) {y : PN} {take : Nat} {b : Bool} (h3 : y.k = 3 → y.a ≤ 5) (h6 : y.k = 6 → x.p.length < K) : PSlaw K (x.add y take b) :=
  ⟨fun z hz => by
    rcases List.mem_append.1 hz with hz | hz
    · exact h.tag z hz
    · obtain rfl : z = y := by simpa using hz
      exact h3, fun j z hj => by
    have hj' : (x.p ++ [y])[j]? = some z := hj
    by_cases hl : j < x.p.length
    · rw [List.getElem?_append_left hl] at hj'; exact h.star j z hj'
    · rw [List.getElem?_append_right (by omega)] at hj'
      have h0 := (List.getElem?_eq_some_iff.1 hj').1
      simp only [List.length_singleton] at h0
      obtain rfl : j = x.p.length := by omega
      obtain rfl : y = z := by simpa using hj'
      exact h6⟩
theorem goPl_law {K : Nat} : ∀ (l : List Int) (x : PS), PSlaw K x → PSok x → x.p.length + l.length ≤ K → x.p.length + x.o.length ≤ 24 → PSlaw K (goPl l x) ∧ PSok (goPl l x) ∧ (goPl l x).p.length + (goPl l x).o.length ≤ 24
  | [], x, h, ho, _, hs => ⟨h, ho, hs⟩
  | n :: r, x, h, ho, hl, hs => by
    unfold goPl
    split
    · exact ⟨h, ho, hs⟩
    · obtain ⟨y, take, b, e, ht, h3⟩ := stepPl_cases x n
      have hq := stepPl_sum (x := x) n
      simp only [List.length_cons] at hl
      refine goPl_law r _ ?_ ?_ (by omega) (by omega)
      · rw [e]; exact h.add h3 (fun _ => by omega)
      · rw [e]; exact ho.add _ _ _
theorem onePl_law {K : Nat} {x : PS} (h : PSlaw K x) (ho : PSok x) (hs : x.p.length + x.o.length ≤ 24) : PSlaw K (onePl x) ∧ PSok (onePl x) ∧ (onePl x).p.length + (onePl x).o.length ≤ 24 ∧ 1 ≤ (onePl x).o.length := by
  unfold onePl
  split
  · rename_i h0
    have h1 := PS.add_lens x (pn 2 0 0 0) false (Nat.zero_le x.o.length)
    have h2 := ho.some_
    exact ⟨h.add (fun e => by simp only [pn] at e; omega) (fun e => by simp only [pn] at e; omega), ho.add _ _ _, by omega, by omega⟩
  · exact ⟨h, ho, hs, by omega⟩
theorem joinPl_law {K : Nat} (l : List Int) : ∀ (f i : Nat) (x : PS), PSlaw K x → PSok x → x.o.length = f + 1 → PSlaw K (joinPl l f i x) ∧ PSok (joinPl l f i x) ∧ (joinPl l f i x).p.length = x.p.length + f ∧ (joinPl l f i x).o.length = 1
  | 0, _, x, h, ho, hf => ⟨h, ho, rfl, by unfold joinPl; omega⟩
  | f + 1, i, x, h, ho, hf => by
    have hw := withinI_range (v := l.getD i 0) (n := 2) (by omega)
    obtain ⟨h1, h2⟩ := two_lens (x := x) (by omega) (withinI (l.getD i 0) 2)
    unfold joinPl
    obtain ⟨a, b, c, d⟩ := joinPl_law l f (i + 1) (x.two (withinI (l.getD i 0) 2)) (h.add (fun e => by simp only [pn] at e; omega) (fun e => by simp only [pn] at e; omega)) (ho.add _ _ _) (by omega)
    exact ⟨a, b, by omega, d⟩
/-- The pattern that numbers make: few nodes, of each tag few, no star behind as many nodes as there are numbers. -/
theorem playPat_law (l : List Int) : PSlaw l.length (playPS l) ∧ 1 ≤ (playPat l).length ∧ (playPat l).length ≤ 24 := by
  have h0 : PSlaw l.length ⟨[], [], []⟩ := ⟨fun y hy => by simp at hy, fun j y hj => by simp at hj⟩
  have o0 : PSok ⟨[], [], []⟩ := ⟨rfl, fun v hv => by simp at hv, Nat.le_refl _, fun h => by simp at h⟩
  obtain ⟨a1, a2, a3⟩ := goPl_law l ⟨[], [], []⟩ h0 o0 (by simp) (by simp)
  obtain ⟨b1, b2, b3, b4⟩ := onePl_law a1 a2 a3
  obtain ⟨c1, c2, c3, c4⟩ := joinPl_law l ((onePl (goPl l ⟨[], [], []⟩)).o.length - 1) 0 _ b1 b2 (by omega)
  have := b2.lo
  refine ⟨c1, ?_, ?_⟩
  · show 1 ≤ (joinPl _ _ _ _).p.length
    omega
  · show (joinPl _ _ _ _).p.length ≤ 24
    omega
end Go.Cb
