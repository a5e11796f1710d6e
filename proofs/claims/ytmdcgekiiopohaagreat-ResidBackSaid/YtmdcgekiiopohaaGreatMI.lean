/- Walks: what a pattern stands for, the document's. -/
import Derived.Test.YtmdcgekiiopohaaGreatMH
set_option linter.unusedVariables false
set_option linter.unusedSimpArgs false
set_option linter.all false
namespace Go.Cb
open Go.RowKit
/-- A row of the call's own, and a budget that was spent of: the row is as it was. -/
theorem own_spent {α : Type} {d : Ty α} {e : TypeId} {w w' : World} {base : Nat} {mb : Option Nat} {v : Value} {xs : List α} (h : Own d e w base (Ge base) v xs) (hg : w.grownBy w' mb) (hm : ∀ g, mb = some g → g < base) : Own d e w' base (Ge base) v xs :=
  h.step (fun k hk => hg.block k (h.lt hk) (fun e => by have := hm k e.symm; have := h.ge hk; omega)) (fun k hk hl _ => hg.block k hl (fun e => by have := hm k e.symm; unfold Ge at hk; omega))
/-- The world's blocks up to n alone: what a row that lies from n on may be told to be behind. -/
def cutW (W : World) (n : Nat) : World := { W with heap := W.heap.extract 0 n }
theorem cutW_size {W : World} {n : Nat} (h : n ≤ W.heap.size) : (cutW W n).heap.size = n := by
  show (W.heap.extract 0 n).size = n
  rw [Array.size_extract]; omega
theorem cutW_bel {W : World} {n : Nat} (h : n ≤ W.heap.size) : Bel (cutW W n) W := ⟨⟨rfl, rfl, rfl, by rw [cutW_size h]; exact h, fun k hk => by
  rw [cutW_size h] at hk
  show W.heap[k]? = (W.heap.extract 0 n)[k]?
  rw [Array.getElem?_extract, if_pos (by omega), Nat.zero_add]⟩⟩
section
variable {P : Program} {ops : Array Oper} {rest : List Oper} {o : Oper} {a : Act} {Q : Exit → Act → World → Prop}
/-- append(v, y) in a world in which a budget may have been spent: the row lies from b on. -/
theorem wp_append1c {α : Type} (d : Ty α) {W : World} (b : Nat) (t e : TypeId) (z : Value) (bytes : Nat) (hgd : o.guard = none) (s x : Operand)
    (ho : o.op = .call { callee := .builtin .append, args := #[s, x], argTypes := #[t, t] })
    (ht : P.underlying t = some (.slice e)) (hinfo : (P.info? e).map (fun i => (i.zero, i.size, i.bytes)) = some (some z, d.sz, bytes)) (hz : z.cells.size = d.sz)
    (S : Nat → Prop) (v : Value) (xs : List α) (y : α) (cs : List Value) (N : Nat) (hN : N = W.heap.size) (hs : a.eval s = v) (hx : a.eval x = .slice (some ⟨N, 0, none⟩) 1 1) (HO : Own d e W b S v xs) (hb : b ≤ W.heap.size) (HR : d.rd W (fun k => S k ∧ some k ≠ v.ownBlock) y cs)
    (hl : xs.length + 1 ≤ maxLen) (hl2 : (xs.length + 1) * bytes ≤ 140737488355328)
    (h : ∀ v1 w1, Own d e w1 b S v1 (xs ++ [y]) → W.grownBy w1 v.ownBlock → wpList P ops Q rest (a.put o.dst v1) w1) :
    wpList P ops Q (o :: rest) a (W.alloc (.cells cs.toArray e)) := by
  have hc := cutW_size hb
  refine wp_append1 d (w0 := cutW W b) t e z bytes hgd s x ho ht hinfo hz S v xs y cs hs (by rw [← hN]; exact hx) (by rw [hc]; exact HO) HR (cutW_bel hb) hl hl2 (fun v1 w1 h1 _ h3 _ => h v1 w1 ?_ h3)
  rw [hc] at h1
  exact h1
end
theorem grown_own {w W W2 : World} {mb own : Option Nat} (h : w.grownBy W mb) (k : W.grownBy W2 own) (ho : ∀ g, own = some g → w.heap.size ≤ g) : w.grownBy W2 mb :=
  ⟨k.os.trans h.os, k.tape.trans h.tape, k.output.trans h.output, Nat.le_trans h.size k.size, fun q hq hn => (k.block q (Nat.lt_of_lt_of_le hq h.size) (fun e => by have := ho q e.symm; omega)).trans (h.block q hq hn)⟩
theorem MetO.row {w w' : World} {t : TypeId} {v : Value} {mb own : Option Nat} {st : MSt} (h : MetO w t v mb st) (hg : w.grownBy w' own) (hne : ∀ g, mb = some g → own ≠ some g) : MetO w' t v mb st := by
  cases st with
  | none => exact h
  | some x =>
    obtain ⟨g, e1, e2, hm, h0⟩ := h
    exact ⟨g, e1, e2, (hg.block g hm.lt (fun e => hne g e2 e.symm)).trans hm, h0⟩
theorem normF_at {p : List PN} {i : Nat} {x : PN} {L : List SemS} {st : MSt} (h : p[i]? = some x) : normF (p.drop i) L st = normF (x :: p.drop (i + 1)) L st := by
  have hlt := (List.getElem?_eq_some_iff.1 h).1
  rw [List.drop_eq_getElem_cons hlt, (List.getElem?_eq_some_iff.1 h).2]
theorem normFit_at {p : List PN} {i : Nat} {x : PN} {L : List SemS} {st : MSt} (h : p[i]? = some x) (hf : NormFit (p.drop i) L st) (h2 : (spendM st 1).2 = true) : NodeFit x L (spendM st 1).1 ∧ ((nodeF x L (spendM st 1).1).2.2 = 0 → NormFit (p.drop (i + 1)) (L ++ [(nodeF x L (spendM st 1).1).2.1]) (nodeF x L (spendM st 1).1).1) := by
  have hlt := (List.getElem?_eq_some_iff.1 h).1
  rw [List.drop_eq_getElem_cons hlt, (List.getElem?_eq_some_iff.1 h).2] at hf
  exact hf h2
theorem normF_out {x : PN} {r : List PN} {L : List SemS} {st : MSt} (h : (spendM st 1).2 = false) : normF (x :: r) L st = ((spendM st 1).1, [], 7) := by rw [normF, if_neg (by rw [h]; decide)]
theorem normF_bad {x : PN} {r : List PN} {L : List SemS} {st : MSt} (h : (spendM st 1).2 = true) (h2 : (nodeF x L (spendM st 1).1).2.2 ≠ 0) : normF (x :: r) L st = ((nodeF x L (spendM st 1).1).1, [], (nodeF x L (spendM st 1).1).2.2) := by rw [normF, if_pos h, if_neg h2]
theorem normF_next {x : PN} {r : List PN} {L : List SemS} {st : MSt} (h : (spendM st 1).2 = true) (h2 : (nodeF x L (spendM st 1).1).2.2 = 0) : normF (x :: r) L st = normF r (L ++ [(nodeF x L (spendM st 1).1).2.1]) (nodeF x L (spendM st 1).1).1 := by rw [normF, if_pos h, if_pos h2]
end Go.Cb

/- Walks: what a pattern stands for, the document's: the walk. -/
namespace Go.Proofs.YtmdcgekiiopohaaGreat
open Go.RowKit Go.Cb Go.Sort
theorem info_semi : (Tryz.prog.info? 24).map (fun i => (i.zero, i.size, i.bytes)) = some (some (.slice none 0 0), 1, 24) := by kernel_rfl
set_option maxRecDepth 100000 in
set_option maxHeartbeats 32000000 in
theorem refNormS_c (mv : Value) (mb : Option Nat) (st : MSt) (S : Nat → Prop) (A : Option Addr) (c : Nat) (p : List PN) (tags : Int) (w : World) (hm : MetO w 82 mv mb st) (h : Rd patT w S A c p) (hS : ∀ k, S k → some k ≠ mb) (n : Nat) (hn : n = p.length) (hf : chkP p tags = true → NormFit p [] st) :
    Calls Tryz.prog 13 #[mv, .slice A n c, .int .i64 tags] w fun e w' => ∃ v, e = .returned (.tuple #[v, .int .i64 (normS st p tags).2.2]) ∧ DSem 30 w.heap.size w' v (normS st p tags).2.1 ∧ MetO w' 82 mv mb (normS st p tags).1 ∧ w.grownBy w' mb := by
  subst hn
  have lm := h.lenMax
  have HMB := Lib.hid (hm.at_)
  have HM := Lib.hid hm
  have HS := Lib.hid hS
  have KP := Lib.hid (checkPat_c _ _ _ p tags w h _ rfl)
  clear hm hS
  by_cases t0 : tags < 0
  · have Hu := Lib.hid (show normS st p tags = (st, [], 1) by unfold normS; rw [if_neg (by omega)])
    have d0 : decide (tags < 0) = true := decide_eq_true t0
    go_enter Tryz.func13, Tryz.ntmps13
    go_wp2
    go_ret2
    rw [Hu.out]
    exact ⟨_, rfl, DSem.nil _ _ _, HM.out, bel_grown (Bel.refl _)⟩
  · by_cases t1 : 12 < tags
    · have Hu := Lib.hid (show normS st p tags = (st, [], 1) by unfold normS; rw [if_neg (by omega)])
      have d0 : decide (tags < 0) = false := decide_eq_false t0
      have d1 : decide (12 < tags) = true := decide_eq_true t1
      go_enter Tryz.func13, Tryz.ntmps13
      go_wp2
      go_ret2
      rw [Hu.out]
      exact ⟨_, rfl, DSem.nil _ _ _, HM.out, bel_grown (Bel.refl _)⟩
    · have d0 : decide (tags < 0) = false := decide_eq_false t0
      have d1 : decide (12 < tags) = false := decide_eq_false t1
      cases hc : chkP p tags with
      | false =>
        have Hu := Lib.hid (show normS st p tags = (st, [], 1) by unfold normS; rw [if_neg (by rw [hc]; simp)])
        rw [hc] at KP
        clear hc hf
        go_enter Tryz.func13, Tryz.ntmps13
        go_wp2_with fail
        refine KP.out.mono ?_
        rintro e w1 ⟨rfl, hb1⟩
        go_wp2
        go_ret2
        rw [Hu.out]
        exact ⟨_, rfl, DSem.nil _ _ _, HM.out.grown hb1, bel_grown hb1⟩
      | true =>
        have Hu := Lib.hid (show normS st p tags = normF p [] st by unfold normS; rw [if_pos ⟨by omega, by omega, hc⟩])
        have HF := Lib.hid (hf hc)
        have hpl : 1 ≤ p.length ∧ p.length ≤ 24 := by
          unfold chkP at hc
          simp only [Bool.and_eq_true, decide_eq_true_eq] at hc
          exact hc.1
        rw [hc] at KP
        clear hc hf
        go_enter Tryz.func13, Tryz.ntmps13
        go_wp2_with fail
        refine KP.out.mono ?_
        rintro e w1 ⟨rfl, hb1⟩
        clear KP
        go_wp2
        go_loopw [8, 27] (fun v8 v27 wr => ∃ (i : Nat) (W : World) (AO : Option Addr) (cO : Nat) (L : List SemS) (st' : MSt), W = wr ∧ i ≤ p.length ∧ v27 = .int .i64 i ∧ v8 = .slice AO i cO ∧ Hid (L.length = i) ∧ Hid (normF p [] st = normF (p.drop i) L st') ∧ Hid (NormFit (p.drop i) L st') ∧
            Own semT 24 W w.heap.size (Ge w.heap.size) (.slice AO i cO) L ∧ MetO W 82 mv mb st' ∧ w.grownBy W mb) (fun _ v27 _ => p.length - (intOf v27).toNat)
        case atStart => exact ⟨0, _, none, 0, [], st, rfl, Nat.zero_le _, rfl, rfl, (rfl : ([] : List SemS).length = 0), rfl, HF.out, Own.nil _ _ _ _ _, HM.out.grown hb1, bel_grown hb1⟩
        case round =>
          clear hb1
          obtain ⟨i, W, AO, cO, L, st', rfl, hi, rfl, rfl, HL, HN, HFT, hO, hmW, hg⟩ := hrel
          by_cases hlt : i < p.length
          · obtain ⟨x, hx⟩ : ∃ x, p[i]? = some x := ⟨_, List.getElem?_eq_getElem hlt⟩
            have HX := Lib.hid hx
            have hrow := grown_row h hg HS.out
            obtain ⟨ad, rfl, g0, g1, g2, g3, g4⟩ := hrow.prow hx
            clear hx hrow
            obtain ⟨xk, xa, xb, xn, xs⟩ := x
            dsimp only at g0 g1 g2 g3 g4
            have hgs := hg.size
            have HNX := Lib.hid (HN.out.trans (normF_at HX.out))
            have hal : Bel W (W.alloc (.cells #[.int .i64 xk, .int .i64 xa, .int .i64 xb, .int .i64 xn, .string xs] 75)) := (Bel.refl _).alloc _
            have hbx := heap_alloc_new W (.cells #[.int .i64 xk, .int .i64 xa, .int .i64 xb, .int .i64 xn, .string xs] 75)
            have KS := Lib.hid (spendM_s2 mv mb st' 1 _ (hmW.grown hal))
            have HO1 := Lib.hid (hO.to hal)
            have hg1 := grown_trans hg (bel_grown (row := mb) hal)
            clear hO hmW hg
            cases hw : (spendM st' 1).2 with
            | false =>
              have Hr := Lib.hid (HNX.out.trans (normF_out hw))
              rw [hw] at KS
              clear hw
              go_wp2_with fail
              refine KS.out.mono ?_
              rintro e w2 ⟨rfl, hm2, hg2, _⟩
              go_wp2
              go_ret2
              rw [Hu.out, Hr.out]
              exact ⟨_, rfl, DSem.nil _ _ _, hm2, grown_trans hg1 hg2⟩
            | true =>
              obtain ⟨hfit, hnext⟩ := normFit_at HX.out HFT.out hw
              have HFit := Lib.hid hfit
              have HNext := Lib.hid hnext
              have HW := Lib.hid hw
              rw [hw] at KS
              clear hw hfit hnext
              go_wp2_with fail
              refine KS.out.mono ?_
              rintro e w2 ⟨rfl, hm2, hg2, hz2⟩
              obtain ⟨st2, hst2⟩ : ∃ st2, (spendM st' 1).1 = st2 := ⟨_, rfl⟩
              rw [hst2] at hm2 HFit HNext
              have HNF := Lib.hid (HNX.out.trans (by rw [normF, if_pos HW.out, hst2]))
              have hbx2 := (hg2.block W.heap.size (by simp) (fun e => by have := HMB.out _ e.symm; omega)).trans hbx
              have hwl : w.heap.size ≤ w2.heap.size ∧ W.heap.size < w2.heap.size := by rw [hz2]; simp; omega
              have c0 : w2.cell? ⟨W.heap.size, 0, none⟩ = some (.int .i64 xk) := cellAt hbx2 0
              have c1 : w2.cell? ⟨W.heap.size, 1, none⟩ = some (.int .i64 xa) := cellAt hbx2 1
              have c2 : w2.cell? ⟨W.heap.size, 2, none⟩ = some (.int .i64 xb) := cellAt hbx2 2
              have c3 : w2.cell? ⟨W.heap.size, 3, none⟩ = some (.int .i64 xn) := cellAt hbx2 3
              have HO2 := Lib.hid (own_spent HO1.out hg2 HMB.out)
              have hg12 := grown_trans hg1 hg2
              have HM2 := Lib.hid hm2
              have HG12 := Lib.hid hg12
              clear hst2 hbx hbx2 hg1 hg2 hm2 hg12 KS HO1 hal g0 g1 g2 g3 g4 hz2
              by_cases k2 : xk = 2
              · subst k2
                have HE := Lib.hid (show nodeF ⟨2, xa, xb, xn, xs⟩ L st2 = (st2, oneS, 0) from rfl)
                go_wp2_with fail
                refine (refOneS_c _).mono ?_
                rintro e w3 ⟨B, cB, rfl, hr3, _, hb3⟩
                have HO3 := Lib.hid (HO2.out.to hb3)
                have HR3 := Lib.hid (hr3.bound)
                have hs3 := hb3.size
                have HG3 := Lib.hid (grown_trans HG12.out (bel_grown (row := mb) hb3))
                have HM3 := Lib.hid (HM2.out.grown hb3)
                clear hr3
                have HSE := Lib.hid (show ∀ S' : Nat → Prop, (∀ k, Ge w2.heap.size k ∧ k < w3.heap.size → S' k) → semT.rd w3 S' oneS [.slice B 1 cB] from fun S' hS' => ⟨B, cB, rfl, HR3.out.mono hS'⟩)
                have NX := Lib.hid (show normF p [] st = normF (p.drop (i + 1)) (L ++ [oneS]) st2 by rw [HNF.out, HE.out]; rfl)
                have FX := Lib.hid (show NormFit (p.drop (i + 1)) (L ++ [oneS]) st2 by have := HNext.out (by rw [HE.out]); rw [HE.out] at this; exact this)
                have HNB := Lib.hid (fun k hk => HO2.out.lt (k := k) hk)
                go_wp2_with (at_builtin; go_loud (refine wp_append1c semT w.heap.size 73 24 (.slice none 0 0) 24 rfl _ _ rfl Tryz.underlying73 info_semi rfl (Ge w.heap.size) (.slice AO i cO) L oneS [.slice B 1 cB] _ rfl rfl rfl HO3.out (by omega) (HSE.out _ (fun k hk => ⟨by unfold Ge at *; omega, fun e => by have := HNB.out k e.symm; unfold Ge at hk; omega⟩)) (by rw [HL.out]; unfold maxLen; omega) (by rw [HL.out]; omega) ?_); rintro v4 w4 ho4 hg4; obtain ⟨A4, c4, hv4⟩ := ho4.form; rw [List.length_append, HL.out] at hv4; subst hv4; have HMX : MetO w4 82 mv mb st2 := HM3.out.row hg4 (fun g hg e => by have := HMB.out g hg; have := HO3.out.ge e; omega); have HGX := grown_own HG3.out hg4 (fun g e => HO3.out.ge e))
                go_roundw
                case rel => exact ⟨i + 1, _, A4, c4, L ++ [oneS], st2, rfl, by omega, by go_num, rfl, (by rw [List.length_append, HL.out]; rfl : (L ++ [oneS]).length = i + 1), NX.out, FX.out, ho4, HMX, HGX⟩
                case measure => simp [intOf]; omega
              · have n2 : (xk == 2) = false := by simp [k2]
                by_cases k3 : xk = 3
                · subst k3
                  obtain ⟨ob, hob⟩ : ∃ ob, oneB xn xa = ob := ⟨_, rfl⟩
                  have HE := Lib.hid (show nodeF ⟨3, xa, xb, xn, xs⟩ L st2 = (st2, [(ob, [])], 0) by rw [← hob]; rfl)
                  have Q := refOne_c xn xa w2
                  rw [hob] at Q
                  have HQ := Lib.hid Q
                  clear Q hob
                  go_wp2_with fail
                  refine HQ.out.mono ?_
                  rintro e w3 ⟨v3, rfl, ho3, hb3⟩
                  obtain ⟨B0, d0, rfl, hr3⟩ := ho3.rdGe
                  have hal : Bel w3 (w3.alloc (.cells #[.slice B0 ob.length d0, .slice none 0 0] 30)) := (Bel.refl _).alloc _
                  have hlit := lin_lit (x := (ob, [])) (b := w2.heap.size) (w := w3) (A0 := B0) (c0 := d0) (A1 := none) (c1 := 0) ⟨hr3, Rd.nil _ _ _ _ _ (by decide)⟩ hb3.size 30
                  have HO3 := Lib.hid (HO2.out.to (hb3.trans hal))
                  have HR3 := Lib.hid (hlit.bound)
                  have hs3 := hb3.size
                  have hs4 := hal.size
                  have HG3 := Lib.hid (grown_trans HG12.out (bel_grown (row := mb) (hb3.trans hal)))
                  have HM3 := Lib.hid (HM2.out.grown (hb3.trans hal))
                  have HSE := Lib.hid (show ∀ S' : Nat → Prop, (∀ k, Ge w2.heap.size k ∧ k < (w3.alloc (.cells #[.slice B0 ob.length d0, .slice none 0 0] 30)).heap.size → S' k) → semT.rd (w3.alloc (.cells #[.slice B0 ob.length d0, .slice none 0 0] 30)) S' [((ob, []) : Lin)] [.slice (some ⟨w3.heap.size, 0, none⟩) 1 1] from fun S' hS' => ⟨_, 1, rfl, HR3.out.mono hS'⟩)
                  clear hlit hr3 ho3
                  have NX := Lib.hid (show normF p [] st = normF (p.drop (i + 1)) (L ++ [[((ob, []) : Lin)]]) st2 by rw [HNF.out, HE.out]; rfl)
                  have FX := Lib.hid (show NormFit (p.drop (i + 1)) (L ++ [[((ob, []) : Lin)]]) st2 by have := HNext.out (by rw [HE.out]); rw [HE.out] at this; exact this)
                  have HNB := Lib.hid (fun k hk => HO2.out.lt (k := k) hk)
                  go_wp2_with (at_builtin; go_loud (refine wp_append1c semT w.heap.size 73 24 (.slice none 0 0) 24 rfl _ _ rfl Tryz.underlying73 info_semi rfl (Ge w.heap.size) (.slice AO i cO) L [((ob, []) : Lin)] [.slice (some ⟨w3.heap.size, 0, none⟩) 1 1] (w3.heap.size + 1) (by simp) rfl rfl HO3.out (by omega) (HSE.out _ (fun k hk => ⟨by unfold Ge at *; omega, fun e => by have := HNB.out k e.symm; unfold Ge at hk; omega⟩)) (by rw [HL.out]; unfold maxLen; omega) (by rw [HL.out]; omega) ?_); rintro v4 w4 ho4 hg4; obtain ⟨A4, c4, hv4⟩ := ho4.form; rw [List.length_append, HL.out] at hv4; subst hv4; have HMX : MetO w4 82 mv mb st2 := HM3.out.row hg4 (fun g hg e => by have := HMB.out g hg; have := HO3.out.ge e; omega); have HGX := grown_own HG3.out hg4 (fun g e => HO3.out.ge e))
                  go_roundw
                  case rel => exact ⟨i + 1, _, A4, c4, L ++ [[((ob, []) : Lin)]], st2, rfl, by omega, by go_num, rfl, (by rw [List.length_append, HL.out]; rfl : (L ++ [[((ob, []) : Lin)]]).length = i + 1), NX.out, FX.out, ho4, HMX, HGX⟩
                  case measure => simp [intOf]; omega
                · have n3 : (xk == 3) = false := by simp [k3]
                  by_cases k4 : xk = 4
                  · subst k4
                    have hfa := HFit.out.a (.inl rfl)
                    have hfb := HFit.out.b (.inl rfl)
                    have hfs := HFit.out.sum rfl
                    dsimp only at hfa hfb hfs
                    obtain ⟨na, hna⟩ : ∃ m : Nat, xa = m := ⟨xa.toNat, by omega⟩
                    subst hna
                    have hla : na < L.length := by omega
                    have hia : na < i := by have := HL.out; omega
                    obtain ⟨nb, hnb⟩ : ∃ m : Nat, xb = m := ⟨xb.toNat, by omega⟩
                    subst hnb
                    have hlb : nb < L.length := by omega
                    have hib : nb < i := by have := HL.out; omega
                    rw [Int.toNat_natCast, Int.toNat_natCast] at hfs
                    obtain ⟨s1, hs1⟩ : ∃ s, L.getD na [] = s := ⟨_, rfl⟩
                    obtain ⟨s2, hs2⟩ : ∃ s, L.getD nb [] = s := ⟨_, rfl⟩
                    have hsl1 : L[na] = s1 := by rw [← hs1, List.getD_eq_getElem?_getD, List.getElem?_eq_getElem hla]; rfl
                    have hsl2 : L[nb] = s2 := by rw [← hs2, List.getD_eq_getElem?_getD, List.getElem?_eq_getElem hlb]; rfl
                    rw [hs1, hs2] at hfs
                    obtain ⟨AA, cA, hAA, hrA⟩ := HO2.out.rdGe
                    rw [HL.out] at hAA
                    injection hAA with e1 _ e3
                    subst e1 e3
                    obtain ⟨ad2, B1, cb1, hAO, hcell1, hr1⟩ := hrA.row hla
                    obtain ⟨ad3, B2, cb2, had, hcell2, hr2⟩ := hrA.row hlb
                    subst hAO
                    obtain rfl : ad2 = ad3 := Option.some.inj had
                    rw [hsl1] at hcell1 hr1
                    rw [hsl2] at hcell2 hr2
                    obtain ⟨s3, hst⟩ : ∃ s3, unionS s1 s2 = s3 := ⟨_, rfl⟩
                    have HE := Lib.hid (show nodeF ⟨4, (na : Int), (nb : Int), xn, xs⟩ L st2 = (st2, s3, 0) by show (st2, unionS (L.getD ((na : Int)).toNat []) (L.getD ((nb : Int)).toNat []), (0 : Int)) = _; rw [Int.toNat_natCast, Int.toNat_natCast, hs1, hs2, hst])
                    have HQ := Lib.hid (show ∀ W3, Bel w2 W3 → Calls Tryz.prog 35 #[.slice B1 s1.length cb1, .slice B2 s2.length cb2] W3 fun e w' => ∃ A' c', e = .returned (.slice A' s3.length c') ∧ Rd linT w' (Ge w2.heap.size) A' c' s3 ∧ Bel w2 w' from fun W3 hW3 => by rw [← hst]; exact (refUnion_c _ _ _ _ _ _ s1 s2 W3 (hr1.to hW3) (hr2.to hW3) _ _ rfl rfl hfs.1 hfs.2).mono fun _ _ ⟨A', c', e, r, hb⟩ => ⟨A', c', e, r.mono (fun k hk => Nat.le_trans hW3.size hk), hW3.trans hb⟩)
                    clear hst hs1 hs2 hsl1 hsl2 hrA hr1 hr2 hfa hfb hfs had
                    go_wp2_with fail
                    go_region_with (go_at_call 35; refine (HQ.out _ ?_).mono ?_; exact (Bel.refl _).drewN 1; rintro e w3 ⟨A3, c3, rfl, hr3, hb3⟩)
                    all_goals
                      have HO3 := Lib.hid (HO2.out.to hb3)
                      have HR3 := Lib.hid (hr3.bound)
                      have hs3 := hb3.size
                      have HG3 := Lib.hid (grown_trans HG12.out (bel_grown (row := mb) hb3))
                      have HM3 := Lib.hid (HM2.out.grown hb3)
                      clear hr3
                      have HSE := Lib.hid (show ∀ S' : Nat → Prop, (∀ k, Ge w2.heap.size k ∧ k < w3.heap.size → S' k) → semT.rd w3 S' s3 [.slice A3 s3.length c3] from fun S' hS' => ⟨A3, c3, rfl, HR3.out.mono hS'⟩)
                      have NX := Lib.hid (show normF p [] st = normF (p.drop (i + 1)) (L ++ [s3]) st2 by rw [HNF.out, HE.out]; rfl)
                      have FX := Lib.hid (show NormFit (p.drop (i + 1)) (L ++ [s3]) st2 by have := HNext.out (by rw [HE.out]); rw [HE.out] at this; exact this)
                      have HNB := Lib.hid (fun k hk => HO2.out.lt (k := k) hk)
                      go_wp2_with (at_builtin; go_loud (refine wp_append1c semT w.heap.size 73 24 (.slice none 0 0) 24 rfl _ _ rfl Tryz.underlying73 info_semi rfl (Ge w.heap.size) (.slice (some ad2) i cO) L s3 [.slice A3 s3.length c3] _ rfl rfl rfl HO3.out (by omega) (HSE.out _ (fun k hk => ⟨by unfold Ge at *; omega, fun e => by have := HNB.out k e.symm; unfold Ge at hk; omega⟩)) (by rw [HL.out]; unfold maxLen; omega) (by rw [HL.out]; omega) ?_); rintro v4 w4 ho4 hg4; obtain ⟨A4, c4, hv4⟩ := ho4.form; rw [List.length_append, HL.out] at hv4; subst hv4; have HMX : MetO w4 82 mv mb st2 := HM3.out.row hg4 (fun g hg e => by have := HMB.out g hg; have := HO3.out.ge e; omega); have HGX := grown_own HG3.out hg4 (fun g e => HO3.out.ge e))
                      go_roundw
                      case rel => exact ⟨i + 1, _, A4, c4, L ++ [s3], st2, rfl, by omega, by go_num, rfl, (by rw [List.length_append, HL.out]; rfl : (L ++ [s3]).length = i + 1), NX.out, FX.out, ho4, HMX, HGX⟩
                      case measure => simp [intOf]; omega
                  · have n4 : (xk == 4) = false := by simp [k4]
                    by_cases k5 : xk = 5
                    · subst k5
                      have hfa := HFit.out.a (.inr (.inl rfl))
                      have hfb := HFit.out.b (.inr rfl)
                      have hfs := HFit.out.cat rfl
                      dsimp only at hfa hfb hfs
                      obtain ⟨na, hna⟩ : ∃ m : Nat, xa = m := ⟨xa.toNat, by omega⟩
                      subst hna
                      have hla : na < L.length := by omega
                      have hia : na < i := by have := HL.out; omega
                      obtain ⟨nb, hnb⟩ : ∃ m : Nat, xb = m := ⟨xb.toNat, by omega⟩
                      subst hnb
                      have hlb : nb < L.length := by omega
                      have hib : nb < i := by have := HL.out; omega
                      rw [Int.toNat_natCast, Int.toNat_natCast] at hfs
                      obtain ⟨s1, hs1⟩ : ∃ s, L.getD na [] = s := ⟨_, rfl⟩
                      obtain ⟨s2, hs2⟩ : ∃ s, L.getD nb [] = s := ⟨_, rfl⟩
                      have hsl1 : L[na] = s1 := by rw [← hs1, List.getD_eq_getElem?_getD, List.getElem?_eq_getElem hla]; rfl
                      have hsl2 : L[nb] = s2 := by rw [← hs2, List.getD_eq_getElem?_getD, List.getElem?_eq_getElem hlb]; rfl
                      rw [hs1, hs2] at hfs
                      obtain ⟨AA, cA, hAA, hrA⟩ := HO2.out.rdGe
                      rw [HL.out] at hAA
                      injection hAA with e1 _ e3
                      subst e1 e3
                      obtain ⟨ad2, B1, cb1, hAO, hcell1, hr1⟩ := hrA.row hla
                      obtain ⟨ad3, B2, cb2, had, hcell2, hr2⟩ := hrA.row hlb
                      subst hAO
                      obtain rfl : ad2 = ad3 := Option.some.inj had
                      rw [hsl1] at hcell1 hr1
                      rw [hsl2] at hcell2 hr2
                      obtain ⟨st3, s3, e3, hst⟩ : ∃ st3 s3 e3, catS st2 s1 s2 = (st3, s3, e3) := ⟨_, _, _, rfl⟩
                      have HE := Lib.hid (show nodeF ⟨5, (na : Int), (nb : Int), xn, xs⟩ L st2 = (st3, s3, e3) by show catS st2 (L.getD ((na : Int)).toNat []) (L.getD ((nb : Int)).toNat []) = _; rw [Int.toNat_natCast, Int.toNat_natCast, hs1, hs2, hst])
                      have HQ := Lib.hid (show ∀ W3, Bel w2 W3 → Calls Tryz.prog 36 #[mv, .slice B1 s1.length cb1, .slice B2 s2.length cb2] W3 fun e w' => ∃ A' c', e = .returned (.tuple #[.slice A' s3.length c', .int .i64 e3]) ∧ Rd linT w' (Ge w2.heap.size) A' c' s3 ∧ MetO w' 82 mv mb st3 ∧ w2.grownBy w' mb from fun W3 hW3 => by
                        have Q := refCatS_c mv mb st2 _ _ _ _ _ _ s1 s2 W3 (HM2.out.grown hW3) (hr1.to hW3) (hr2.to hW3) (fun k hk e => by have := HMB.out k e.symm; unfold Ge at hk; omega) (fun k hk e => by have := HMB.out k e.symm; unfold Ge at hk; omega) _ _ rfl rfl hfs.la hfs.lb hfs.prod hfs.per
                        rw [hst] at Q
                        refine Q.mono ?_
                        rintro e w' ⟨v, he, ⟨A', c', hv, r⟩, m', g'⟩
                        subst hv
                        exact ⟨A', c', he, r.mono (fun k hk => Nat.le_trans hW3.size hk), m', grown_trans (bel_grown (row := mb) hW3) g'⟩)
                      clear hst hs1 hs2 hsl1 hsl2 hrA hr1 hr2 hfa hfb hfs had
                      by_cases he : e3 = 0
                      · subst he
                        go_wp2_with fail
                        go_region_with (go_at_call 36; refine (HQ.out _ ?_).mono ?_; exact (Bel.refl _).drewN 1; rintro e w3 ⟨A3, c3, rfl, hr3, hm3, hg3⟩)
                        all_goals
                          have HO3 := Lib.hid (own_spent HO2.out hg3 HMB.out)
                          have HR3 := Lib.hid (hr3.bound)
                          have hs3 := hg3.size
                          have HG3 := Lib.hid (grown_trans HG12.out hg3)
                          have HM3 := Lib.hid hm3
                          have HSE := Lib.hid (show ∀ S' : Nat → Prop, (∀ k, Ge w2.heap.size k ∧ k < w3.heap.size → S' k) → semT.rd w3 S' s3 [.slice A3 s3.length c3] from fun S' hS' => ⟨A3, c3, rfl, HR3.out.mono hS'⟩)
                          clear hr3 hcell1 hcell2 hg3 hm3
                          have NX := Lib.hid (show normF p [] st = normF (p.drop (i + 1)) (L ++ [s3]) st3 by rw [HNF.out, HE.out]; rfl)
                          have FX := Lib.hid (show NormFit (p.drop (i + 1)) (L ++ [s3]) st3 by have := HNext.out (by rw [HE.out]); rw [HE.out] at this; exact this)
                          have HNB := Lib.hid (fun k hk => HO2.out.lt (k := k) hk)
                          go_wp2_with (at_builtin; go_loud (refine wp_append1c semT w.heap.size 73 24 (.slice none 0 0) 24 rfl _ _ rfl Tryz.underlying73 info_semi rfl (Ge w.heap.size) (.slice (some ad2) i cO) L s3 [.slice A3 s3.length c3] _ rfl rfl rfl HO3.out (by omega) (HSE.out _ (fun k hk => ⟨by unfold Ge at *; omega, fun e => by have := HNB.out k e.symm; unfold Ge at hk; omega⟩)) (by rw [HL.out]; unfold maxLen; omega) (by rw [HL.out]; omega) ?_); rintro v4 w4 ho4 hg4; obtain ⟨A4, c4, hv4⟩ := ho4.form; rw [List.length_append, HL.out] at hv4; subst hv4; have HMX : MetO w4 82 mv mb st3 := HM3.out.row hg4 (fun g hg e => by have := HMB.out g hg; have := HO3.out.ge e; omega); have HGX := grown_own HG3.out hg4 (fun g e => HO3.out.ge e))
                          go_roundw
                          case rel => exact ⟨i + 1, _, A4, c4, L ++ [s3], st3, rfl, by omega, by go_num, rfl, (by rw [List.length_append, HL.out]; rfl : (L ++ [s3]).length = i + 1), NX.out, FX.out, ho4, HMX, HGX⟩
                          case measure => simp [intOf]; omega
                      · have Hr := Lib.hid (show normF p [] st = (st3, [], e3) from HNF.out.trans (by rw [HE.out]; exact if_neg he))
                        have hne : (e3 != 0) = true := by simp [he]
                        go_wp2_with fail
                        go_region_with (go_at_call 36; refine (HQ.out _ ?_).mono ?_; exact (Bel.refl _).drewN 1; rintro e w3 ⟨A3, c3, rfl, hr3, hm3, hg3⟩)
                        all_goals
                          go_wp2
                          go_ret2
                          rw [Hu.out, Hr.out]
                          exact ⟨_, rfl, DSem.nil _ _ _, hm3, grown_trans HG12.out hg3⟩
                    · have n5 : (xk == 5) = false := by simp [k5]
                      by_cases k6 : xk = 6
                      · subst k6
                        have hfa := HFit.out.a (.inr (.inr rfl))
                        have hfs := HFit.out.star rfl
                        dsimp only at hfa hfs
                        obtain ⟨ma, hma⟩ : ∃ m : Nat, xa = m := ⟨xa.toNat, by omega⟩
                        subst hma
                        have hml : ma < L.length := by omega
                        have hmi : ma < i := by have := HL.out; omega
                        rw [Int.toNat_natCast] at hfs
                        obtain ⟨s1, hs1⟩ : ∃ s, L.getD ma [] = s := ⟨_, rfl⟩
                        have hsl : L[ma] = s1 := by rw [← hs1, List.getD_eq_getElem?_getD, List.getElem?_eq_getElem hml]; rfl
                        rw [hs1] at hfs
                        obtain ⟨AA, cA, hAA, hrA⟩ := HO2.out.rdGe
                        rw [HL.out] at hAA
                        injection hAA with e1 _ e3
                        subst e1 e3
                        obtain ⟨ad2, B1, cb1, rfl, hcell, hr1⟩ := hrA.row hml
                        rw [hsl] at hcell hr1
                        obtain ⟨st3, s3, e3, hst⟩ : ∃ st3 s3 e3, starS st2 s1 = (st3, s3, e3) := ⟨_, _, _, rfl⟩
                        have HE := Lib.hid (show nodeF ⟨6, (ma : Int), xb, xn, xs⟩ L st2 = (st3, s3, e3) by show starS st2 (L.getD ((ma : Int)).toNat []) = _; rw [Int.toNat_natCast, hs1, hst])
                        have Q := refStar_c mv mb st2 _ _ _ s1 w2 HM2.out hr1 (fun k hk e => by have := HMB.out k e.symm; unfold Ge at hk; omega) _ rfl hfs
                        rw [hst] at Q
                        have HQ := Lib.hid Q
                        clear Q hst hs1 hsl hrA hr1 hfa hfs
                        by_cases he : e3 = 0
                        · subst he
                          go_wp2_with fail
                          refine HQ.out.mono ?_
                          rintro e w3 ⟨v3, rfl, ⟨B, cB, rfl, hr3⟩, hm3, hg3⟩
                          have HO3 := Lib.hid (own_spent HO2.out hg3 HMB.out)
                          have HR3 := Lib.hid (hr3.bound)
                          have hs3 := hg3.size
                          have HG3 := Lib.hid (grown_trans HG12.out hg3)
                          have HM3 := Lib.hid hm3
                          have HSE := Lib.hid (show ∀ S' : Nat → Prop, (∀ k, Ge w2.heap.size k ∧ k < w3.heap.size → S' k) → semT.rd w3 S' s3 [.slice B s3.length cB] from fun S' hS' => ⟨B, cB, rfl, HR3.out.mono hS'⟩)
                          clear hr3 hcell hg3 hm3
                          have NX := Lib.hid (show normF p [] st = normF (p.drop (i + 1)) (L ++ [s3]) st3 by rw [HNF.out, HE.out]; rfl)
                          have FX := Lib.hid (show NormFit (p.drop (i + 1)) (L ++ [s3]) st3 by have := HNext.out (by rw [HE.out]); rw [HE.out] at this; exact this)
                          have HNB := Lib.hid (fun k hk => HO2.out.lt (k := k) hk)
                          go_wp2_with (at_builtin; go_loud (refine wp_append1c semT w.heap.size 73 24 (.slice none 0 0) 24 rfl _ _ rfl Tryz.underlying73 info_semi rfl (Ge w.heap.size) (.slice (some ad2) i cO) L s3 [.slice B s3.length cB] _ rfl rfl rfl HO3.out (by omega) (HSE.out _ (fun k hk => ⟨by unfold Ge at *; omega, fun e => by have := HNB.out k e.symm; unfold Ge at hk; omega⟩)) (by rw [HL.out]; unfold maxLen; omega) (by rw [HL.out]; omega) ?_); rintro v4 w4 ho4 hg4; obtain ⟨A4, c4, hv4⟩ := ho4.form; rw [List.length_append, HL.out] at hv4; subst hv4; have HMX : MetO w4 82 mv mb st3 := HM3.out.row hg4 (fun g hg e => by have := HMB.out g hg; have := HO3.out.ge e; omega); have HGX := grown_own HG3.out hg4 (fun g e => HO3.out.ge e))
                          go_roundw
                          case rel => exact ⟨i + 1, _, A4, c4, L ++ [s3], st3, rfl, by omega, by go_num, rfl, (by rw [List.length_append, HL.out]; rfl : (L ++ [s3]).length = i + 1), NX.out, FX.out, ho4, HMX, HGX⟩
                          case measure => simp [intOf]; omega
                        · have Hr := Lib.hid (show normF p [] st = (st3, [], e3) from HNF.out.trans (by rw [HE.out]; exact if_neg he))
                          have hne : (e3 != 0) = true := by simp [he]
                          go_wp2_with fail
                          refine HQ.out.mono ?_
                          rintro e w3 ⟨v3, rfl, _, hm3, hg3⟩
                          go_wp2
                          go_ret2
                          rw [Hu.out, Hr.out]
                          exact ⟨_, rfl, DSem.nil _ _ _, hm3, grown_trans HG12.out hg3⟩
                      · have n6 : (xk == 6) = false := by simp [k6]
                        have HE := Lib.hid (show nodeF ⟨xk, xa, xb, xn, xs⟩ L st2 = (st2, [], 0) by unfold nodeF; simp only; rw [if_neg k2, if_neg k3, if_neg k4, if_neg k5, if_neg k6])
                        have HO3 := HO2
                        have HG3 := HG12
                        have HM3 := HM2
                        have HSE := Lib.hid (show ∀ S' : Nat → Prop, (∀ k, Ge w2.heap.size k ∧ k < w2.heap.size → S' k) → semT.rd w2 S' [] [.slice none 0 0] from fun S' _ => ⟨none, 0, rfl, Rd.nil _ _ _ _ _ (by decide)⟩)
                        clear k2 k3 k4 k5 k6
                        have NX := Lib.hid (show normF p [] st = normF (p.drop (i + 1)) (L ++ [([] : SemS)]) st2 by rw [HNF.out, HE.out]; rfl)
                        have FX := Lib.hid (show NormFit (p.drop (i + 1)) (L ++ [([] : SemS)]) st2 by have := HNext.out (by rw [HE.out]); rw [HE.out] at this; exact this)
                        have HNB := Lib.hid (fun k hk => HO2.out.lt (k := k) hk)
                        go_wp2_with (at_builtin; go_loud (refine wp_append1c semT w.heap.size 73 24 (.slice none 0 0) 24 rfl _ _ rfl Tryz.underlying73 info_semi rfl (Ge w.heap.size) (.slice AO i cO) L ([] : SemS) [.slice none 0 0] _ rfl rfl rfl HO3.out (by omega) (HSE.out _ (fun k hk => ⟨by unfold Ge at *; omega, fun e => by have := HNB.out k e.symm; unfold Ge at hk; omega⟩)) (by rw [HL.out]; unfold maxLen; omega) (by rw [HL.out]; omega) ?_); rintro v4 w4 ho4 hg4; obtain ⟨A4, c4, hv4⟩ := ho4.form; rw [List.length_append, HL.out] at hv4; subst hv4; have HMX : MetO w4 82 mv mb st2 := HM3.out.row hg4 (fun g hg e => by have := HMB.out g hg; have := HO3.out.ge e; omega); have HGX := grown_own HG3.out hg4 (fun g e => HO3.out.ge e))
                        go_roundw
                        case rel => exact ⟨i + 1, _, A4, c4, L ++ [([] : SemS)], st2, rfl, by omega, by go_num, rfl, (by rw [List.length_append, HL.out]; rfl : (L ++ [([] : SemS)]).length = i + 1), NX.out, FX.out, ho4, HMX, HGX⟩
                        case measure => simp [intOf]; omega
          · obtain rfl : i = p.length := by omega
            have HR := Lib.hid (show normF p [] st = (st', L.getD (L.length - 1) [], 0) by rw [HN.out, List.drop_length]; rfl)
            obtain ⟨s, hs⟩ : ∃ s, L.getD (L.length - 1) [] = s := ⟨_, rfl⟩
            have hLl := HL.out
            obtain ⟨AA, cA, hAA, hrA⟩ := hO.rdGe
            rw [hLl] at hAA
            injection hAA with e1 _ e3
            subst e1 e3
            obtain ⟨ad, B, cb, rfl, hcell, hr⟩ := hrA.row (k := p.length - 1) (by omega)
            have hse : L[p.length - 1]'(by omega) = s := by
              rw [← hs, List.getD_eq_getElem?_getD, show L.length - 1 = p.length - 1 by omega, List.getElem?_eq_getElem (by omega)]; rfl
            rw [hse] at hcell hr
            have hw1 : IntKind.i64.wrap ((p.length : Int) - 1) = ((p.length - 1 : Nat) : Int) := by rw [IntKind.wrap_i64]; omega
            have HSS := Lib.hid hs
            have hpp := hpl.1
            clear hLl hse hs hO hrA
            go_wp2
            go_ret2
            rw [Hu.out, HR.out, HSS.out]
            exact ⟨_, rfl, ⟨B, cb, rfl, hr⟩, hmW, hg⟩
end Go.Proofs.YtmdcgekiiopohaaGreat
