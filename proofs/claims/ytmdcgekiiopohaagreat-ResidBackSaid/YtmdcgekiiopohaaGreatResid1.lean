/- Walks: what is left of one set's words when one of a tag has come. -/
import Derived.Test.YtmdcgekiiopohaaGreatPureR
import Derived.Test.YtmdcgekiiopohaaGreatMI
import Derived.Test.YtmdcgekiiopohaaGreatMG
import Derived.Test.YtmdcgekiiopohaaGreatMB
set_option linter.unusedVariables false
set_option linter.unusedSimpArgs false
set_option linter.all false
namespace Go.Cb
open Go.RowKit
/-- Not the budget. -/
def NM (mb : Option Nat) (k : Nat) : Prop := some k ≠ mb
/-- What lay in w, but the budget. -/
def LowR (w : World) (mb : Option Nat) (k : Nat) : Prop := k < w.heap.size ∧ some k ≠ mb
theorem lowR_of {α : Type} {d : Ty α} {w W : World} {mb : Option Nat} {S : Nat → Prop} {A : Option Addr} {c : Nat} {xs : List α} (h : Rd d w S A c xs) (hS : ∀ k, S k → some k ≠ mb) (hg : w.grownBy W mb) : Rd d W (LowR w mb) A c xs :=
  (h.bound.step' (fun k hk => hg.block k hk.2 (hS k hk.1))).mono (fun k hk => ⟨hk.2, hS k hk.1⟩)
theorem lowR_row {α : Type} {d : Ty α} {w W W' : World} {mb : Option Nat} {A : Option Addr} {c : Nat} {xs : List α} (h : Rd d W (LowR w mb) A c xs) (hW : w.grownBy W mb) (hW' : w.grownBy W' mb) : Rd d W' (LowR w mb) A c xs :=
  h.step' (fun k hk => (hW'.block k hk.1 hk.2).trans (hW.block k hk.1 hk.2).symm)
/-- A call's own blocks, and those of a row that it was handed. -/
def QS (w : World) (S : Nat → Prop) (k : Nat) : Prop := (S k ∧ k < w.heap.size) ∨ w.heap.size ≤ k
theorem QS.ne {w : World} {S : Nat → Prop} {mb : Option Nat} (hS : ∀ k, S k → some k ≠ mb) (hm : ∀ g, mb = some g → g < w.heap.size) {k : Nat} (h : QS w S k) : some k ≠ mb := fun e => by
  rcases h with h | h
  · exact hS k h.1 e
  · have := hm k e.symm; omega
theorem own_q {α : Type} {d : Ty α} {e : TypeId} {w w' : World} {base : Nat} {S : Nat → Prop} {mb : Option Nat} {v : Value} {xs : List α} (h : Own d e w base S v xs) (hg : w.grownBy w' mb) (hm : ∀ g, mb = some g → g < base) (hS : ∀ k, S k → some k ≠ mb) : Own d e w' base S v xs :=
  h.step (fun k hk => hg.block k (h.lt hk) (fun e => by have := hm k e.symm; have := h.ge hk; omega)) (fun k hk hl _ => hg.block k hl (hS k hk))
theorem own_nm {α : Type} {d : Ty α} {e : TypeId} {w w' : World} {base : Nat} {mb : Option Nat} {v : Value} {xs : List α} (h : Own d e w base (NM mb) v xs) (hg : w.grownBy w' mb) (hm : ∀ g, mb = some g → g < base) : Own d e w' base (NM mb) v xs :=
  h.step (fun k hk => hg.block k (h.lt hk) (fun e => by have := hm k e.symm; have := h.ge hk; omega)) (fun k hk hl _ => hg.block k hl hk)
theorem hasB_no0 {b : List Int} {tag : Int} (h : tag < 0) : hasB b tag = false := by unfold hasB; rw [decide_eq_false (by omega)]; rfl
theorem hasB_no1 {b : List Int} {tag : Int} (h : (b.length : Int) ≤ tag) : hasB b tag = false := by unfold hasB; rw [decide_eq_false (show ¬ tag < (b.length : Int) by omega)]; simp
theorem hasB_at {b : List Int} {k : Nat} (h : k < b.length) : hasB b (k : Int) = decide (0 < b[k]) := by
  unfold hasB
  rw [decide_eq_true (show (0 : Int) ≤ (k : Int) by omega), decide_eq_true (show (k : Int) < (b.length : Int) by omega), Int.toNat_natCast, List.getD_eq_getElem?_getD, List.getElem?_eq_getElem h]
  rfl
theorem leftF_at {x : Lin} {tag : Int} {ps : List (List Int)} {k : Nat} {p : List Int} {st : MSt} {acc : List Lin} (h : ps[k]? = some p) : leftF x tag (ps.drop k) st acc = leftF x tag (p :: ps.drop (k + 1)) st acc := by
  have hlt := (List.getElem?_eq_some_iff.1 h).1
  rw [List.drop_eq_getElem_cons hlt, (List.getElem?_eq_some_iff.1 h).2]
theorem leftF_skip {x : Lin} {tag : Int} {r : List (List Int)} {p : List Int} {st : MSt} {acc : List Lin} (h : hasB p tag = false) : leftF x tag (p :: r) st acc = leftF x tag r st acc := by rw [leftF, if_neg (by rw [h]; decide)]
theorem leftF_work {x : Lin} {tag : Int} {r : List (List Int)} {p : List Int} {st : MSt} {acc : List Lin} (h : hasB p tag = true) (h2 : (spendM st 1).2 = false) : leftF x tag (p :: r) st acc = ((spendM st 1).1, [], 7) := by rw [leftF, if_pos h, if_neg (by rw [h2]; decide)]
theorem leftF_bad {x : Lin} {tag : Int} {r : List (List Int)} {p : List Int} {st : MSt} {acc : List Lin} (h : hasB p tag = true) (h2 : (spendM st 1).2 = true) (h3 : (addB x.1 (subB p (oneB tag 1)).1).2 = false) : leftF x tag (p :: r) st acc = ((spendM st 1).1, [], 3) := by
  rw [leftF, if_pos h, if_pos h2, if_neg (by show ¬ (addB x.1 (subB p (oneB tag 1)).1).2 = true; rw [h3]; decide)]
theorem leftF_next {x : Lin} {tag : Int} {r : List (List Int)} {p : List Int} {st : MSt} {acc : List Lin} (h : hasB p tag = true) (h2 : (spendM st 1).2 = true) (h3 : (addB x.1 (subB p (oneB tag 1)).1).2 = true) :
    leftF x tag (p :: r) st acc = leftF x tag r (spendM st 1).1 (acc ++ [((addB x.1 (subB p (oneB tag 1)).1).1, x.2)]) := by
  rw [leftF, if_pos h, if_pos h2, if_pos (by show (addB x.1 (subB p (oneB tag 1)).1).2 = true; exact h3)]; rfl
theorem leftF_end {x : Lin} {tag : Int} {ps : List (List Int)} {st : MSt} {acc : List Lin} : leftF x tag (ps.drop ps.length) st acc = (st, acc, 0) := by rw [List.drop_length]; rfl
theorem leftS_work {x : Lin} {tag : Int} {st : MSt} {acc : List Lin} (h : (spendM st 1).2 = false) : leftS x tag st acc = ((spendM st 1).1, [], 7) := by unfold leftS; rw [if_neg (by rw [h]; decide)]
theorem leftS_base {x : Lin} {tag : Int} {st : MSt} {acc : List Lin} (h : (spendM st 1).2 = true) (h2 : hasB x.1 tag = true) : leftS x tag st acc = ((spendM st 1).1, acc ++ [((subB x.1 (oneB tag 1)).1, x.2)], 0) := by unfold leftS; rw [if_pos h, if_pos h2]
theorem leftS_per {x : Lin} {tag : Int} {st : MSt} {acc : List Lin} (h : (spendM st 1).2 = true) (h2 : hasB x.1 tag = false) : leftS x tag st acc = leftF x tag x.2 (spendM st 1).1 acc := by unfold leftS; rw [if_pos h, if_neg (by rw [h2]; decide)]
section
variable {P : Program} {ops : Array Oper} {rest : List Oper} {o : Oper} {a : Act} {Q : Exit → Act → World → Prop}
/-- append(v, y) in a world in which a budget may have been spent: the row lies from b on; where the answer lies. -/
theorem wp_append1e {α : Type} (d : Ty α) {W : World} (b : Nat) (t e : TypeId) (z : Value) (bytes : Nat) (hgd : o.guard = none) (s x : Operand)
    (ho : o.op = .call { callee := .builtin .append, args := #[s, x], argTypes := #[t, t] })
    (ht : P.underlying t = some (.slice e)) (hinfo : (P.info? e).map (fun i => (i.zero, i.size, i.bytes)) = some (some z, d.sz, bytes)) (hz : z.cells.size = d.sz)
    (S : Nat → Prop) (v : Value) (xs : List α) (y : α) (cs : List Value) (N : Nat) (hN : N = W.heap.size) (hs : a.eval s = v) (hx : a.eval x = .slice (some ⟨N, 0, none⟩) 1 1) (HO : Own d e W b S v xs) (hb : b ≤ W.heap.size) (HR : d.rd W (fun k => S k ∧ some k ≠ v.ownBlock) y cs)
    (hl : xs.length + 1 ≤ maxLen) (hl2 : (xs.length + 1) * bytes ≤ 140737488355328)
    (h : ∀ v1 w1, Own d e w1 b S v1 (xs ++ [y]) → W.grownBy w1 v.ownBlock → (v1.ownBlock = v.ownBlock ∨ ∃ b, v1.ownBlock = some b ∧ W.heap.size ≤ b) → wpList P ops Q rest (a.put o.dst v1) w1) :
    wpList P ops Q (o :: rest) a (W.alloc (.cells cs.toArray e)) := by
  have hc := cutW_size hb
  refine wp_append1 d (w0 := cutW W b) t e z bytes hgd s x ho ht hinfo hz S v xs y cs hs (by rw [← hN]; exact hx) (by rw [hc]; exact HO) HR (cutW_bel hb) hl hl2 (fun v1 w1 h1 _ h3 h4 => h v1 w1 ?_ h3 h4)
  rw [hc] at h1
  exact h1
/-- append(v, ys...), so. -/
theorem wp_appende {α : Type} (d : Ty α) {W : World} (b : Nat) (t e : TypeId) (z : Value) (bytes : Nat) (hgd : o.guard = none) (s x : Operand)
    (ho : o.op = .call { callee := .builtin .append, args := #[s, x], argTypes := #[t, t] })
    (ht : P.underlying t = some (.slice e)) (hinfo : (P.info? e).map (fun i => (i.zero, i.size, i.bytes)) = some (some z, d.sz, bytes)) (hz : z.cells.size = d.sz)
    (S S' : Nat → Prop) (v : Value) (xs ys : List α) (A : Option Addr) (n c : Nat) (hs : a.eval s = v) (hx : a.eval x = .slice A n c) (hn : n = ys.length) (HO : Own d e W b S v xs) (hb : b ≤ W.heap.size) (HR : Rd d W S' A c ys)
    (hS : ∀ x cs, d.rd W S' x cs → d.rd W (fun k => S k ∧ some k ≠ v.ownBlock) x cs) (hl : xs.length + ys.length ≤ maxLen) (hl2 : (xs.length + ys.length) * bytes ≤ 140737488355328)
    (h : ∀ v1 w1, Own d e w1 b S v1 (xs ++ ys) → W.grownBy w1 v.ownBlock → wpList P ops Q rest (a.put o.dst v1) w1) :
    wpList P ops Q (o :: rest) a W := by
  have hc := cutW_size hb
  refine wp_append_ty d (w0 := cutW W b) t t e e z bytes hgd s x ho ht ht hinfo hz S S' v xs ys A n c hs hx hn (by rw [hc]; exact HO) HR hS (cutW_bel hb) hl hl2 (fun v1 w1 h1 _ h3 _ => h v1 w1 ?_ h3)
  rw [hc] at h1
  exact h1
end
end Go.Cb
namespace Go.Proofs.YtmdcgekiiopohaaGreat
open Go.RowKit Go.Cb Go.Sort
set_option maxHeartbeats 2000000 in
theorem hasP_c (S : Nat → Prop) (A : Option Addr) (c : Nat) (b : List Int) (tag : Int) (w : World) (h : Rd intT w S A c b) (n : Nat) (hn : n = b.length) :
    Calls Tryz.prog 42 #[.slice A n c, .int .i64 tag] w fun e w' => e = .returned (.bool (hasB b tag)) ∧ w = w' := by
  subst hn
  have lm := h.lenMax
  by_cases h0 : tag < 0
  · have He := Lib.hid (hasB_no0 (b := b) h0)
    go_enter Tryz.func42, Tryz.ntmps42
    go_wp2
    go_ret
    exact ⟨by rw [He.out]; rfl, rfl⟩
  · by_cases h1 : (b.length : Int) ≤ tag
    · have He := Lib.hid (hasB_no1 h1)
      go_enter Tryz.func42, Tryz.ntmps42
      go_wp2
      go_ret
      exact ⟨by rw [He.out]; rfl, rfl⟩
    · obtain ⟨k, rfl⟩ : ∃ k : Nat, tag = (k : Int) := ⟨tag.toNat, by omega⟩
      have hk : k < b.length := by omega
      have He := Lib.hid (hasB_at hk)
      obtain ⟨ad, rfl, hc⟩ := h.int hk
      obtain ⟨x, hx⟩ : ∃ x, b[k] = x := ⟨_, rfl⟩
      rw [hx] at hc
      have HX := Lib.hid hx
      clear hx
      go_enter Tryz.func42, Tryz.ntmps42
      go_wp2
      go_ret
      exact ⟨by rw [He.out, HX.out]; rfl, rfl⟩
set_option maxRecDepth 100000 in
set_option maxHeartbeats 16000000 in
theorem residLeft_c (mv : Value) (mb : Option Nat) (st : MSt) (S S' : Nat → Prop) (A0 A1 : Option Addr) (c0 c1 : Nat) (x : Lin) (tag : Int) (w : World) (hm : MetO w 120 mv mb st) (h0 : Rd intT w S A0 c0 x.1) (h1 : Rd bagT w S' A1 c1 x.2) (hS : ∀ k, S k → some k ≠ mb) (hS' : ∀ k, S' k → some k ≠ mb)
    (n m : Nat) (hn : n = x.1.length) (hm2 : m = x.2.length) (hlen : x.2.length ≤ 1000000) :
    Calls Tryz.prog 24 #[mv, .agg #[.slice A0 n c0, .slice A1 m c1], .int .i64 tag] w fun e w' => ∃ A c, e = .returned (.tuple #[.slice A (leftS x tag st []).2.1.length c, .int .i64 (leftS x tag st []).2.2]) ∧ Rd linT w' (QS w S') A c (leftS x tag st []).2.1 ∧ MetO w' 120 mv mb (leftS x tag st []).1 ∧ w.grownBy w' mb := by
  subst hn hm2
  obtain ⟨xb, ps⟩ := x
  dsimp only at *
  have HMB := Lib.hid (hm.at_)
  have R0 := Lib.hid (show ∀ W, w.grownBy W mb → Rd intT W (LowR w mb) A0 c0 xb from fun W hg => lowR_of h0 hS hg)
  have R1 := Lib.hid (show ∀ W, w.grownBy W mb → Rd bagT W (fun k => S' k ∧ k < w.heap.size) A1 c1 ps from fun W hg => h1.bound.step' (fun k hk => hg.block k hk.2 (hS' k hk.1)))
  have HQN := Lib.hid (fun k (h : QS w S' k) => QS.ne hS' HMB.out h)
  have HSN := Lib.hid hS'
  have hal : Bel w (w.alloc (.cells #[.slice A0 xb.length c0, .slice A1 ps.length c1] 30)) := (Bel.refl _).alloc _
  have X := Box.new w 30 (.slice A0 xb.length c0) (.slice A1 ps.length c1)
  have HM1 := Lib.hid (hm.grown hal)
  have HG1 := Lib.hid (bel_grown (row := mb) hal)
  clear hm h0 h1 hS hS'
  have hTG : w.heap.size ≤ w.heap.size := Nat.le_refl _
  have hsz1 := hal.size
  go_enter Tryz.func24, Tryz.ntmps24
  go_wp2_with fail
  generalize (w.alloc (.cells #[.slice A0 xb.length c0, .slice A1 ps.length c1] 30)) = w1 at *
  obtain ⟨TG, hTGe⟩ : ∃ TG, w.heap.size = TG := ⟨_, rfl⟩
  rw [hTGe] at X
  refine (bagOne_c tag 1 _).mono ?_
  rintro e w2 ⟨v2, rfl, ho2, hb2⟩
  obtain ⟨A2, c2, rfl, hr2⟩ := ho2.rdGe
  have HX2 := Lib.hid (X.to hb2)
  have HM2 := Lib.hid (HM1.out.grown hb2)
  have HG2 := Lib.hid (grown_trans HG1.out (bel_grown (row := mb) hb2))
  clear ho2 hal X HM1 HG1
  go_wp2_with fail
  refine (spendM_s1 mv mb st 1 _ HM2.out).mono ?_
  rintro e w3 ⟨rfl, hm3, hg3, hz3⟩
  obtain ⟨st3, hst3⟩ : ∃ st3, (spendM st 1).1 = st3 := ⟨_, rfl⟩
  have HM3 := Lib.hid hm3
  have HG3 := Lib.hid (grown_trans HG2.out hg3)
  have HX3 := Lib.hid (show Go.Cb.Box w3 30 TG (.slice A0 xb.length c0) (.slice A1 ps.length c1) from (hg3.block TG HX2.out.lt (fun e => by have := HMB.out _ e.symm; omega)).trans HX2.out)
  have HONE := Lib.hid (show ∀ W, w3.grownBy W mb → Rd intT W (fun k => Ge w.heap.size k ∧ k < w2.heap.size ∧ some k ≠ mb) A2 c2 (oneB tag 1) from fun W hg => ((hr2.bound.step' (fun k hk => (hg.block k (by have := hg3.size; omega) (fun e => by have := HMB.out k e.symm; have := hk.1; unfold Ge at this; omega)).trans (hg3.block k hk.2 (fun e => by have := HMB.out k e.symm; have := hk.1; unfold Ge at this; omega)))).mono (fun k hk => ⟨by have := hk.1; unfold Ge at *; omega, hk.2, fun e => by have := HMB.out k e.symm; have := hk.1; unfold Ge at this; omega⟩)))
  have hb2s := hb2.size
  have hg3s := hg3.size
  have hT3 := HX3.out.lt
  clear hz3
  cases hsp : (spendM st 1).2 with
  | false =>
    have HR := Lib.hid (leftS_work (x := (xb, ps)) (tag := tag) (acc := []) hsp)
    rw [hst3] at HR HM3
    clear hm3 hg3 hr2 hb2 hsp hst3
    go_wp2_with fail
    go_ret2
    rw [HR.out]
    exact ⟨none, 0, rfl, Rd.nil _ _ _ _ _ (by decide), HM3.out, HG3.out⟩
  | true =>
    have HHAS := Lib.hid (hasP_c _ A0 c0 xb tag w3 (R0.out w3 HG3.out) _ rfl)
    obtain ⟨y0, y1, _, _⟩ := HX3.out.cells
    cases hh : hasB xb tag with
    | true =>
      have HR := Lib.hid (leftS_base (x := (xb, ps)) (tag := tag) (acc := []) hsp hh)
      rw [hst3] at HR HM3
      rw [hh] at HHAS
      have Q := bagSub_c _ _ A0 A2 c0 c2 xb (oneB tag 1) w3 (R0.out w3 HG3.out) (HONE.out w3 ⟨rfl, rfl, rfl, Nat.le_refl _, fun _ _ _ => rfl⟩) _ _ rfl rfl
      obtain ⟨sb, hsb⟩ : ∃ sb, (subB xb (oneB tag 1)).1 = sb := ⟨_, rfl⟩
      rw [hsb] at Q HR
      have HQ := Lib.hid Q
      clear Q hm3 hg3 hr2 hb2 hsp hst3 hh hsb
      go_wp2_with fail
      refine HHAS.out.mono ?_
      rintro e w4 ⟨rfl, rfl⟩
      go_wp2_with fail
      refine HQ.out.mono ?_
      rintro e w4 ⟨v4, rfl, ho4, hb4⟩
      obtain ⟨A4, c4, rfl, hr4⟩ := ho4.rdGe
      obtain ⟨z0, z1, _, _⟩ := (HX3.out.to hb4).cells
      have hal4 : Bel w4 (w4.alloc (.cells #[.slice A4 sb.length c4, .slice A1 ps.length c1] 30)) := (Bel.refl _).alloc _
      have HG4 := Lib.hid (grown_trans HG3.out (bel_grown (row := mb) (hb4.trans hal4)))
      have HM4 := Lib.hid (HM3.out.grown (hb4.trans hal4))
      have hb4s := hb4.size
      have HRD := Lib.hid (show Rd linT (w4.alloc (.cells #[.slice A4 sb.length c4, .slice A1 ps.length c1] 30)) (QS w S') (some ⟨w4.heap.size, 0, none⟩) 1 [(sb, ps)] from by
        refine ⟨by simp, by decide, fun j y hj => ?_⟩
        rcases j with _ | j
        · obtain rfl : (sb, ps) = y := by simpa using hj
          refine ⟨_, [.slice A4 sb.length c4, .slice A1 ps.length c1], rfl, .inr (show w.heap.size ≤ w4.heap.size by omega), lin_mk ((hr4.to hal4).mono (fun k hk => .inr (by unfold Ge at hk; omega))) ((R1.out _ HG4.out).mono (fun k hk => .inl hk)), fun i u hu => ?_⟩
          rw [add_plain, cellAt (heap_alloc_new w4 _), show 0 * linT.sz + i = i by omega]
          rcases i with _ | _ | i
          · exact hu
          · exact hu
          · simp at hu
        · simp at hj)
      clear ho4 hr4 hb4 hal4 y0 y1
      go_wp2_with fail
      go_ret2
      rw [HR.out]
      exact ⟨_, _, rfl, HRD.out, HM4.out, HG4.out⟩
    | false =>
      have HLP := Lib.hid (leftS_per (x := (xb, ps)) (tag := tag) (acc := []) hsp hh)
      rw [hst3] at HLP HM3
      rw [hh] at HHAS
      dsimp only at HLP
      clear hm3 hg3 hr2 hb2 hsp hst3 hh
      go_wp2_with fail
      refine HHAS.out.mono ?_
      rintro e w4 ⟨rfl, rfl⟩
      go_wp2
      go_loopw [11, 42] (fun v11 v42 wr => ∃ (k : Nat) (W : World) (AO : Option Addr) (cO : Nat) (acc : List Lin) (st' : MSt), W = wr ∧ k ≤ ps.length ∧ v42 = .int .i64 k ∧ v11 = .slice AO acc.length cO ∧ Hid (acc.length ≤ k) ∧ Hid (leftF (xb, ps) tag ps st3 [] = leftF (xb, ps) tag (ps.drop k) st' acc) ∧
          Own linT 30 W w.heap.size (QS w S') (.slice AO acc.length cO) acc ∧ Go.Cb.Box W 30 TG (.slice A0 xb.length c0) (.slice A1 ps.length c1) ∧ Hid (∀ g, (Value.slice AO acc.length cO).ownBlock = some g → w3.heap.size ≤ g) ∧ Hid (MetO W 120 mv mb st') ∧ Hid (w.grownBy W mb) ∧ Hid (w3.grownBy W mb)) (fun _ v42 _ => ps.length - (intOf v42).toNat)
      case atStart => exact ⟨0, _, none, 0, [], st3, rfl, Nat.zero_le _, rfl, rfl, Nat.zero_le _, rfl, Own.nil _ _ _ _ _, HX3.out, (show ∀ g, (Value.slice none 0 0).ownBlock = some g → w3.heap.size ≤ g from fun g h => by cases h), HM3.out, HG3.out, (⟨rfl, rfl, rfl, Nat.le_refl _, fun _ _ _ => rfl⟩ : w3.grownBy w3 mb)⟩
      case round =>
        clear HX3 HM3 HG3 y0 y1 HX2 HM2 HG2
        obtain ⟨k, W, AO, cO, acc, st', rfl, hk, rfl, rfl, HAL, HF, hO, hX, HOT, HMW, HGW, HG3W⟩ := hrel
        have hWs := HGW.out.size
        have hW3s := HG3W.out.size
        by_cases hlt : k < ps.length
        · obtain ⟨ad, Ap, cp, rfl, y9, hpr⟩ := (R1.out W HGW.out).row hlt
          obtain ⟨p, hpe⟩ : ∃ p, ps[k] = p := ⟨_, rfl⟩
          have hp? : ps[k]? = some p := by rw [List.getElem?_eq_getElem hlt, hpe]
          have HFA := Lib.hid (HF.out.trans (leftF_at hp?))
          rw [hpe] at y9 hpr
          obtain ⟨z0, z1, _, _⟩ := hX.cells
          have HHP := Lib.hid (hasP_c _ Ap cp p tag W hpr _ rfl)
          have hal := HAL.out
          clear hpe hp?
          cases hh : hasB p tag with
          | false =>
            have HN := Lib.hid (HFA.out.trans (leftF_skip hh))
            rw [hh] at HHP
            clear hh
            go_wp2_with fail
            refine HHP.out.mono ?_
            rintro e w5 ⟨rfl, rfl⟩
            go_wp2
            go_roundw
            case rel => exact ⟨k + 1, _, AO, cO, acc, st', rfl, by omega, by go_num, rfl, (by omega : acc.length ≤ k + 1), HN.out, hO, hX, HOT.out, HMW.out, HGW.out, HG3W.out⟩
            case measure => simp [intOf]; omega
          | true =>
            rw [hh] at HHP
            have HO := Lib.hid hO
            have HX := Lib.hid hX
            clear hO hX
            go_wp2_with fail
            refine HHP.out.mono ?_
            rintro e w5 ⟨rfl, rfl⟩
            go_wp2_with fail
            refine (spendM_s1 mv mb st' 1 _ HMW.out).mono ?_
            rintro e w6 ⟨rfl, hm6, hg6, hz6⟩
            obtain ⟨st6, hst6⟩ : ∃ st6, (spendM st' 1).1 = st6 := ⟨_, rfl⟩
            have HM6 := Lib.hid hm6
            rw [hst6] at HM6
            have HG6 := Lib.hid (grown_trans HGW.out hg6)
            have HG36 := Lib.hid (grown_trans HG3W.out hg6)
            have HX6 := Lib.hid (show Go.Cb.Box w6 30 TG (.slice A0 xb.length c0) (.slice (some ad) ps.length c1) from (hg6.block TG HX.out.lt (fun e => by have := HMB.out _ e.symm; omega)).trans HX.out)
            have HO6 := Lib.hid (own_q HO.out hg6 HMB.out HQN.out)
            have HPR6 := Lib.hid (hpr.step' (fun k hk => hg6.block k (by have := hk.2; omega) (HSN.out k hk.1)))
            have hg6s := hg6.size
            clear hm6 hg6 hpr y9 z0 z1 HX HO
            cases hsp : (spendM st' 1).2 with
            | false =>
              have HR := Lib.hid (HLP.out.trans (HFA.out.trans (leftF_work hh hsp)))
              rw [hst6] at HR
              clear hh hsp hst6
              go_wp2_with fail
              go_ret2
              rw [HR.out]
              exact ⟨none, 0, rfl, Rd.nil _ _ _ _ _ (by decide), HM6.out, HG6.out⟩
            | true =>
              have Q := bagSub_c _ _ Ap A2 cp c2 p (oneB tag 1) w6 HPR6.out (HONE.out w6 HG36.out) _ _ rfl rfl
              have HBAD := Lib.hid (fun h3 => HLP.out.trans (HFA.out.trans (leftF_bad (x := (xb, ps)) (r := ps.drop (k + 1)) (acc := acc) hh hsp h3)))
              have HNXT := Lib.hid (fun h3 => HFA.out.trans (leftF_next (x := (xb, ps)) (r := ps.drop (k + 1)) (acc := acc) hh hsp h3))
              dsimp only at HBAD HNXT
              obtain ⟨q, hq⟩ : ∃ q, (subB p (oneB tag 1)).1 = q := ⟨_, rfl⟩
              rw [hst6, hq] at HBAD HNXT
              rw [hq] at Q
              have HQ := Lib.hid Q
              clear Q hh hsp hst6 hq
              go_wp2_with fail
              refine HQ.out.mono ?_
              rintro e w7 ⟨v7, rfl, ho7, hb7⟩
              obtain ⟨A7, c7, rfl, hr7⟩ := ho7.rdAll
              have HG7 := Lib.hid (grown_trans HG6.out (bel_grown (row := mb) hb7))
              have HG37 := Lib.hid (grown_trans HG36.out (bel_grown (row := mb) hb7))
              have HX7 := Lib.hid (HX6.out.to hb7)
              have Q2 := bagAdd_c All A0 A7 c0 c7 xb q w7 ((R0.out w7 HG7.out).all) hr7 _ _ rfl rfl
              obtain ⟨z0, z1, _, _⟩ := HX7.out.cells
              have hb7s := hb7.size
              cases hadd : (addB xb q).2 with
              | false =>
                have HR := Lib.hid (HBAD.out hadd)
                rw [hadd] at Q2
                have HQ2 := Lib.hid Q2
                clear Q2 hadd ho7 hr7 HQ
                go_wp2_with fail
                refine HQ2.out.mono ?_
                rintro e w8 ⟨v8, rfl, _, hb8⟩
                go_wp2
                go_ret2
                rw [HR.out]
                exact ⟨none, 0, rfl, Rd.nil _ _ _ _ _ (by decide), (HM6.out.grown hb7).grown hb8, grown_trans HG7.out (bel_grown hb8)⟩
              | true =>
                have HN := Lib.hid (HNXT.out hadd)
                rw [hadd] at Q2
                obtain ⟨nb, hnb⟩ : ∃ nb, (addB xb q).1 = nb := ⟨_, rfl⟩
                rw [hnb] at Q2 HN
                have HQ2 := Lib.hid Q2
                clear Q2 hadd ho7 hr7 HQ hnb
                go_wp2_with fail
                refine HQ2.out.mono ?_
                rintro e w8 ⟨v8, rfl, ho8, hb8⟩
                obtain ⟨A8, c8, rfl, hr8⟩ := ho8.rdGe
                have HG8 := Lib.hid (grown_trans HG7.out (bel_grown (row := mb) hb8))
                have HG38 := Lib.hid (grown_trans HG37.out (bel_grown (row := mb) hb8))
                have HX8 := Lib.hid (HX7.out.to hb8)
                have HO8 := Lib.hid (HO6.out.to (hb7.trans hb8))
                have HM8 := Lib.hid (HM6.out.grown (hb7.trans hb8))
                have hb8s := hb8.size
                have HRR := Lib.hid (show linT.rd w8 (fun k => QS w S' k ∧ some k ≠ (Value.slice AO acc.length cO).ownBlock) (nb, ps) [.slice A8 nb.length c8, .slice (some ad) ps.length c1] from lin_mk
                  (hr8.mono (fun k hk => ⟨.inr (by unfold Ge at hk; omega), fun e => by have := HO6.out.lt e.symm; unfold Ge at hk; omega⟩))
                  ((R1.out w8 HG8.out).mono (fun k hk => ⟨.inl hk, fun e => by have := HO6.out.ge e.symm; have := hk.2; omega⟩)))
                clear z0 z1
                obtain ⟨z0, z1, _, _⟩ := HX8.out.cells
                clear ho8 hr8 hb8 hb7 HQ2
                go_wp2_with (at_builtin; refine wp_append1e linT w.heap.size 23 30 (.agg #[.slice none 0 0, .slice none 0 0]) 48 rfl _ _ rfl Tryz.underlying23 info_lin rfl (QS w S') (.slice AO acc.length cO) acc (nb, ps) [.slice A8 nb.length c8, .slice (some ad) ps.length c1] _ rfl rfl rfl HO8.out (by omega) HRR.out (by unfold maxLen; omega) (by omega) ?_; rintro v9 w9 ho9 hg9 hn9; obtain ⟨A9, c9, hv9⟩ := ho9.form; rw [List.length_append, List.length_singleton] at hv9; subst hv9; have HX9 : Go.Cb.Box w9 30 TG (.slice A0 xb.length c0) (.slice (some ad) ps.length c1) := (hg9.block TG HX8.out.lt (fun e => by have := HOT.out TG e.symm; omega)).trans HX8.out; have HM9 : MetO w9 120 mv mb st6 := HM8.out.row hg9 (fun g hg e => by have := HMB.out g hg; have := HO8.out.ge e; omega); have HG9 := grown_own HG8.out hg9 (fun g e => HO8.out.ge e); have HG39 : w3.grownBy w9 mb := grown_own HG38.out hg9 (fun g e => HOT.out g e); have HOT9 : ∀ g, (Value.slice A9 (acc.length + 1) c9).ownBlock = some g → w3.heap.size ≤ g := fun g hg => by (rcases hn9 with e | ⟨g9, e, he9⟩; exact HOT.out g (e.symm.trans hg); (rw [hg] at e; injection e with e; omega)))
                go_roundw
                case rel => exact ⟨k + 1, _, A9, c9, acc ++ [(nb, ps)], st6, rfl, by omega, by go_num, by rw [List.length_append, List.length_singleton], (by rw [List.length_append, List.length_singleton]; omega : (acc ++ [(nb, ps)]).length ≤ k + 1), HN.out, by rw [List.length_append, List.length_singleton]; exact ho9, HX9, by rw [List.length_append, List.length_singleton]; exact HOT9, HM9, HG9, HG39⟩
                case measure => simp [intOf]; omega
        · obtain rfl : k = ps.length := by omega
          have HR := Lib.hid (HLP.out.trans (HF.out.trans leftF_end))
          obtain ⟨AZ, cZ, eZ, rZ⟩ := hO.rd
          injection eZ with z1 z2 z3
          clear z2
          subst z1 z3
          have HZ := Lib.hid (rZ.mono (S' := QS w S') (fun k hk => by
            rcases hk with hk | hk
            · exact hk
            · exact .inr (hO.ge hk.symm)))
          clear hO rZ
          go_wp2
          go_ret2
          rw [HR.out]
          exact ⟨_, _, rfl, HZ.out, HMW.out, HGW.out⟩
end Go.Proofs.YtmdcgekiiopohaaGreat
