/- Walks: what is left of one set's words when one of a tag has come. -/
import Derived.Test.YtbfbhacdllhddaaPureR
import Derived.Test.YtbfbhacdllhddaaMI
import Derived.Test.YtbfbhacdllhddaaMG
import Derived.Test.YtbfbhacdllhddaaMB
set_option linter.unusedVariables false
set_option linter.unusedSimpArgs false
set_option linter.all false
namespace Go.Cb
open Go.RowKit
/-- Not the budget. -/
def NM (mb : Option Nat) (k : Nat) : Prop := some k ≠ mb
/-- What lay in w, but the budget. -/
def LowR (w : World) (mb : Option Nat) (k : Nat) : Prop := k < w.heap.size ∧ some k ≠ mb
theorem lowR_of {α : Type} {d : Ty α} {w W : World} {mb : Option Nat} {S : Nat → Prop} {A : Option Addr} {c : Nat} {xs : List α} (h : Rd d w S A c xs) (hS : ∀ k, S k → some k ≠ mb) (hg : w.grownBy W mb) : Rd d W (LowR w mb) A c xs :=
  (h.bound.step' (fun k hk => hg.block k hk.2 (hS k hk.1))).mono (fun k hk => ⟨hk.2, hS k hk.1⟩)
theorem lowR_row {α : Type} {d : Ty α} {w W W' : World} {mb : Option Nat} {A : Option Addr} {c : Nat} {xs : List α} (h : Rd d W (LowR w mb) A c xs) (hW : w.grownBy W mb) (hW' : w.grownBy W' mb) : Rd d W' (LowR w mb) A c xs :=
  h.step' (fun k hk => (hW'.block k hk.1 hk.2).trans (hW.block k hk.1 hk.2).symm)
/-- A call's own blocks, and those of a row that it was handed. -/
def QS (w : World) (S : Nat → Prop) (k : Nat) : Prop := (S k ∧ k < w.heap.size) ∨ w.heap.size ≤ k
theorem QS.ne {w : World} {S : Nat → Prop} {mb : Option Nat} (hS : ∀ k, S k → some k ≠ mb) (hm : ∀ g, mb = some g → g < w.heap.size) {k : Nat} (h : QS w S k) : some k ≠ mb := fun e => by
  rcases h with h | h
  · exact hS k h.1 e
  · have := hm k e.symm; omega
theorem own_q {α : Type} {d : Ty α} {e : TypeId} {w w' : World} {base : Nat} {S : Nat → Prop} {mb : Option Nat} {v : Value} {xs : List α} (h : Own d e w base S v xs) (hg : w.grownBy w' mb) (hm : ∀ g, mb = some g → g < base) (hS : ∀ k, S k → some k ≠ mb) : Own d e w' base S v xs :=
  h.step (fun k hk => hg.block k (h.lt hk) (fun e => by have := hm k e.symm; have := h.ge hk; omega)) (fun k hk hl _ => hg.block k hl (hS k hk))
theorem own_nm {α : Type} {d : Ty α} {e : TypeId} {w w' : World} {base : Nat} {mb : Option Nat} {v : Value} {xs : List α} (h : Own d e w base (NM mb) v xs) (hg : w.grownBy w' mb) (hm : ∀ g, mb = some g → g < base) : Own d e w' base (NM mb) v xs :=
  h.step (fun k hk => hg.block k (h.lt hk) (fun e => by have := hm k e.symm; have := h.ge hk; omega)) (fun k hk hl _ => hg.block k hl hk)
theorem hasB_no0 {b : List Int} {tag : Int} (h : tag < 0) : hasB b tag = false := by unfold hasB; rw [decide_eq_false (by omega)]; rfl
theorem hasB_no1 {b : List Int} {tag : Int} (h : (b.length : Int) ≤ tag) : hasB b tag = false := by unfold hasB; rw [decide_eq_false (show ¬ tag < (b.length : Int) by omega)]; simp
theorem hasB_at {b : List Int} {k : Nat} (h : k < b.length) : hasB b (k : Int) = decide (0 < b[k]) := by
  unfold hasB
  rw [decide_eq_true (show (0 : Int) ≤ (k : Int) by omega), decide_eq_true (show (k : Int) < (b.length : Int) by omega), Int.toNat_natCast, List.getD_eq_getElem?_getD, List.getElem?_eq_getElem h]
  rfl
theorem leftF_at {x : Lin} {tag : Int} {ps : List (List Int)} {k : Nat} {p : List Int} {st : MSt} {acc : List Lin} (h : ps[k]? = some p) : leftF x tag (ps.drop k) st acc = leftF x tag (p :: ps.drop (k + 1)) st acc := by
  have hlt := (List.getElem?_eq_some_iff.1 h).1
  rw [List.drop_eq_getElem_cons hlt, (List.getElem?_eq_some_iff.1 h).2]
theorem leftF_skip {x : Lin} {tag : Int} {r : List (List Int)} {p : List Int} {st : MSt} {acc : List Lin} (h : hasB p tag = false) : leftF x tag (p :: r) st acc = leftF x tag r st acc := by rw [leftF, if_neg (by rw [h]; decide)]
theorem leftF_work {x : Lin} {tag : Int} {r : List (List Int)} {p : List Int} {st : MSt} {acc : List Lin} (h : hasB p tag = true) (h2 : (spendM st 1).2 = false) : leftF x tag (p :: r) st acc = ((spendM st 1).1, [], 7) := by rw [leftF, if_pos h, if_neg (by rw [h2]; decide)]
theorem leftF_bad {x : Lin} {tag : Int} {r : List (List Int)} {p : List Int} {st : MSt} {acc : List Lin} (h : hasB p tag = true) (h2 : (spendM st 1).2 = true) (h3 : (addB x.1 (subB p (oneB tag 1)).1).2 = false) : leftF x tag (p :: r) st acc = ((spendM st 1).1, [], 3) := by
  rw [leftF, if_pos h, if_pos h2, if_neg (by show ¬ (addB x.1 (subB p (oneB tag 1)).1).2 = true; rw [h3]; decide)]
theorem leftF_next {x : Lin} {tag : Int} {r : List (List Int)} {p : List Int} {st : MSt} {acc : List Lin} (h : hasB p tag = true) (h2 : (spendM st 1).2 = true) (h3 : (addB x.1 (subB p (oneB tag 1)).1).2 = true) :
    leftF x tag (p :: r) st acc = leftF x tag r (spendM st 1).1 (acc ++ [((addB x.1 (subB p (oneB tag 1)).1).1, x.2)]) := by
  rw [leftF, if_pos h, if_pos h2, if_pos (by show (addB x.1 (subB p (oneB tag 1)).1).2 = true; exact h3)]; rfl
theorem leftF_end {x : Lin} {tag : Int} {ps : List (List Int)} {st : MSt} {acc : List Lin} : leftF x tag (ps.drop ps.length) st acc = (st, acc, 0) := by rw [List.drop_length]; rfl
theorem leftS_work {x : Lin} {tag : Int} {st : MSt} {acc : List Lin} (h : (spendM st 1).2 = false) : leftS x tag st acc = ((spendM st 1).1, [], 7) := by unfold leftS; rw [if_neg (by rw [h]; decide)]
theorem leftS_base {x : Lin} {tag : Int} {st : MSt} {acc : List Lin} (h : (spendM st 1).2 = true) (h2 : hasB x.1 tag = true) : leftS x tag st acc = ((spendM st 1).1, acc ++ [((subB x.1 (oneB tag 1)).1, x.2)], 0) := by unfold leftS; rw [if_pos h, if_pos h2]
theorem leftS_per {x : Lin} {tag : Int} {st : MSt} {acc : List Lin} (h : (spendM st 1).2 = true) (h2 : hasB x.1 tag = false) : leftS x tag st acc = leftF x tag x.2 (spendM st 1).1 acc := by unfold leftS; rw [if_pos h, if_neg (by rw [h2]; decide)]
section
variable {P : Program} {ops : Array Oper} {rest : List Oper} {o : Oper} {a : Act} {Q : Exit → Act → World → Prop}
/-- append(v, y) in a world in which a budget may have been spent: the row lies from b on; where the answer lies. -/
theorem wp_append1e {α : Type} (d : Ty α) {W : World} (b : Nat) (t e : TypeId) (z : Value) (bytes : Nat) (hgd : o.guard = none) (s x : Operand)
    (ho : o.op = .call { callee := .builtin .append, args := #[s, x], argTypes := #[t, t] })
    (ht : P.underlying t = some (.slice e)) (hinfo : (P.info? e).map (fun i => (i.zero, i.size, i.bytes)) = some (some z, d.sz, bytes)) (hz : z.cells.size = d.sz)
    (S : Nat → Prop) (v : Value) (xs : List α) (y : α) (cs : List Value) (N : Nat) (hN : N = W.heap.size) (hs : a.eval s = v) (hx : a.eval x = .slice (some ⟨N, 0, none⟩) 1 1) (HO : Own d e W b S v xs) (hb : b ≤ W.heap.size) (HR : d.rd W (fun k => S k ∧ some k ≠ v.ownBlock) y cs)
    (hl : xs.length + 1 ≤ maxLen) (hl2 : (xs.length + 1) * bytes ≤ 140737488355328)
    (h : ∀ v1 w1, Own d e w1 b S v1 (xs ++ [y]) → W.grownBy w1 v.ownBlock → (v1.ownBlock = v.ownBlock ∨ ∃ b, v1.ownBlock = some b ∧ W.heap.size ≤ b) → wpList P ops Q rest (a.put o.dst v1) w1) :
    wpList P ops Q (o :: rest) a (W.alloc (.cells cs.toArray e)) := by
  have hc := cutW_size hb
  refine wp_append1 d (w0 := cutW W b) t e z bytes hgd s x ho ht hinfo hz S v xs y cs hs (by rw [← hN]; exact hx) (by rw [hc]; exact HO) HR (cutW_bel hb) hl hl2 (fun v1 w1 h1 _ h3 h4 => h v1 w1 ?_ h3 h4)
  rw [hc] at h1
  exact h1
/-- append(v, ys...), so. -/
theorem wp_appende {α : Type} (d : Ty α) {W : World} (b : Nat) (t e : TypeId) (z : Value) (bytes : Nat) (hgd : o.guard = none) (s x : Operand)
    (ho : o.op = .call { callee := .builtin .append, args := #[s, x], argTypes := #[t, t] })
    (ht : P.underlying t = some (.slice e)) (hinfo : (P.info? e).map (fun i => (i.zero, i.size, i.bytes)) = some (some z, d.sz, bytes)) (hz : z.cells.size = d.sz)
    (S S' : Nat → Prop) (v : Value) (xs ys : List α) (A : Option Addr) (n c : Nat) (hs : a.eval s = v) (hx : a.eval x = .slice A n c) (hn : n = ys.length) (HO : Own d e W b S v xs) (hb : b ≤ W.heap.size) (HR : Rd d W S' A c ys)
    (hS : ∀ x cs, d.rd W S' x cs → d.rd W (fun k => S k ∧ some k ≠ v.ownBlock) x cs) (hl : xs.length + ys.length ≤ maxLen) (hl2 : (xs.length + ys.length) * bytes ≤ 140737488355328)
    (h : ∀ v1 w1, Own d e w1 b S v1 (xs ++ ys) → W.grownBy w1 v.ownBlock → wpList P ops Q rest (a.put o.dst v1) w1) :
    wpList P ops Q (o :: rest) a W := by
  have hc := cutW_size hb
  refine wp_append_ty d (w0 := cutW W b) t t e e z bytes hgd s x ho ht ht hinfo hz S S' v xs ys A n c hs hx hn (by rw [hc]; exact HO) HR hS (cutW_bel hb) hl hl2 (fun v1 w1 h1 _ h3 _ => h v1 w1 ?_ h3)
  rw [hc] at h1
  exact h1
end
end Go.Cb
namespace Go.Proofs.Ytbfbhacdllhddaa
open Go.RowKit Go.Cb Go.Sort
set_option maxHeartbeats 2000000 in
theorem hasP_c (S : Nat → Prop) (A : Option Addr) (c : Nat) (b : List Int) (tag : Int) (w : World) (h : Rd intT w S A c b) (n : Nat) (hn : n = b.length) :
    Calls Try.prog 61 #[.slice A n c, .int .i64 tag] w fun e w' => e = .returned (.bool (hasB b tag)) ∧ w = w' := by
  subst hn
  have lm := h.lenMax
  by_cases h0 : tag < 0
  · have He := Lib.hid (hasB_no0 (b := b) h0)
    go_enter Try.func61, Try.ntmps61
    go_wp2
    go_ret
    exact ⟨by rw [He.out]; rfl, rfl⟩
  · by_cases h1 : (b.length : Int) ≤ tag
    · have He := Lib.hid (hasB_no1 h1)
      go_enter Try.func61, Try.ntmps61
      go_wp2
      go_ret
      exact ⟨by rw [He.out]; rfl, rfl⟩
    · obtain ⟨k, rfl⟩ : ∃ k : Nat, tag = (k : Int) := ⟨tag.toNat, by omega⟩
      have hk : k < b.length := by omega
      have He := Lib.hid (hasB_at hk)
      obtain ⟨ad, rfl, hc⟩ := h.int hk
      obtain ⟨x, hx⟩ : ∃ x, b[k] = x := ⟨_, rfl⟩
      rw [hx] at hc
      have HX := Lib.hid hx
      clear hx
      go_enter Try.func61, Try.ntmps61
      go_wp2
      go_ret
      exact ⟨by rw [He.out, HX.out]; rfl, rfl⟩
end Go.Proofs.Ytbfbhacdllhddaa
