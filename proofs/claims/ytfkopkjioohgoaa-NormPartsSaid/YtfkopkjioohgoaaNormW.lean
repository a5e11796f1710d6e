/- Walks: what a pattern stands for, the code's. -/
import Derived.Test.YtfkopkjioohgoaaNodeW
import Derived.Test.YtfkopkjioohgoaaPatC
set_option linter.unusedVariables false
set_option linter.unusedSimpArgs false
set_option linter.all false
namespace Go.Proofs.Ytfkopkjioohgoaa
open Go.RowKit Go.Cb Go.Sort
theorem info_semiW : (Try.prog.info? 28).map (fun i => (i.zero, i.size, i.bytes)) = some (some (.slice none 0 0), 1, 24) := by kernel_rfl
set_option maxRecDepth 100000 in
set_option maxHeartbeats 32000000 in
theorem normOf_c (mv : Value) (mb : Option Nat) (st : MSt) (S : Nat → Prop) (A : Option Addr) (c : Nat) (p : List PN) (tags : Int) (w : World) (hm : MetO w 71 mv mb st) (h : Rd patT w S A c p) (hS : ∀ k, S k → some k ≠ mb) (n : Nat) (hn : n = p.length) (hf : chkP p tags = true → NormFit p [] st) :
    Calls Try.prog 9 #[mv, .slice A n c, .int .i64 tags] w fun e w' => ∃ v, e = .returned (.tuple #[v, .int .i64 (normS st p tags).2.2]) ∧ DSem 46 w.heap.size w' v (normS st p tags).2.1 ∧ MetO w' 71 mv mb (normS st p tags).1 ∧ w.grownBy w' mb := by
  subst hn
  have lm := h.lenMax
  have HMB := Lib.hid (hm.at_)
  have HM := Lib.hid hm
  have HS := Lib.hid hS
  have KP := Lib.hid (check_c _ _ _ p tags w h _ rfl)
  clear hm hS
  by_cases t0 : tags < 0
  · have Hu := Lib.hid (show normS st p tags = (st, [], 1) by unfold normS; rw [if_neg (by omega)])
    have d0 : decide (tags < 0) = true := decide_eq_true t0
    go_enter Try.func9, Try.ntmps9
    go_wp2
    go_ret2
    rw [Hu.out]
    exact ⟨_, rfl, DSem.nil _ _ _, HM.out, bel_grown (Bel.refl _)⟩
  · by_cases t1 : 12 < tags
    · have Hu := Lib.hid (show normS st p tags = (st, [], 1) by unfold normS; rw [if_neg (by omega)])
      have d0 : decide (tags < 0) = false := decide_eq_false t0
      have d1 : decide (12 < tags) = true := decide_eq_true t1
      go_enter Try.func9, Try.ntmps9
      go_wp2
      go_ret2
      rw [Hu.out]
      exact ⟨_, rfl, DSem.nil _ _ _, HM.out, bel_grown (Bel.refl _)⟩
    · have d0 : decide (tags < 0) = false := decide_eq_false t0
      have d1 : decide (12 < tags) = false := decide_eq_false t1
      cases hc : chkP p tags with
      | false =>
        have Hu := Lib.hid (show normS st p tags = (st, [], 1) by unfold normS; rw [if_neg (by rw [hc]; simp)])
        rw [hc] at KP
        clear hc hf
        go_enter Try.func9, Try.ntmps9
        go_wp2_with fail
        refine KP.out.mono ?_
        rintro e w1 ⟨rfl, hb1⟩
        go_wp2
        go_ret2
        rw [Hu.out]
        exact ⟨_, rfl, DSem.nil _ _ _, HM.out.grown hb1, bel_grown hb1⟩
      | true =>
        have Hu := Lib.hid (show normS st p tags = normF p [] st by unfold normS; rw [if_pos ⟨by omega, by omega, hc⟩])
        have HF := Lib.hid (hf hc)
        have hpl : 1 ≤ p.length ∧ p.length ≤ 24 := by
          unfold chkP at hc
          simp only [Bool.and_eq_true, decide_eq_true_eq] at hc
          exact hc.1
        rw [hc] at KP
        clear hc hf
        go_enter Try.func9, Try.ntmps9
        go_wp2_with fail
        refine KP.out.mono ?_
        rintro e w1 ⟨rfl, hb1⟩
        clear KP
        go_wp2
        go_loopw [8, 27] (fun v8 v27 wr => ∃ (i : Nat) (W : World) (AO : Option Addr) (cO : Nat) (L : List SemS) (st' : MSt), W = wr ∧ i ≤ p.length ∧ v27 = .int .i64 i ∧ v8 = .slice AO i cO ∧ Hid (L.length = i) ∧ Hid (normF p [] st = normF (p.drop i) L st') ∧ Hid (NormFit (p.drop i) L st') ∧
            Own semT 28 W w.heap.size (Ge w.heap.size) (.slice AO i cO) L ∧ MetO W 71 mv mb st' ∧ w.grownBy W mb) (fun _ v27 _ => p.length - (intOf v27).toNat)
        case atStart => exact ⟨0, _, none, 0, [], st, rfl, Nat.zero_le _, rfl, rfl, (rfl : ([] : List SemS).length = 0), rfl, HF.out, Own.nil _ _ _ _ _, HM.out.grown hb1, bel_grown hb1⟩
        case round =>
          clear hb1
          obtain ⟨i, W, AO, cO, L, st', rfl, hi, rfl, rfl, HL, HN, HFT, hO, hmW, hg⟩ := hrel
          by_cases hlt : i < p.length
          · obtain ⟨x, hx⟩ : ∃ x, p[i]? = some x := ⟨_, List.getElem?_eq_getElem hlt⟩
            have HX := Lib.hid hx
            have hrow := grown_row h hg HS.out
            obtain ⟨ad, rfl, g0, g1, g2, g3, g4⟩ := hrow.prowW hx
            clear hx hrow
            obtain ⟨xk, xa, xb, xn, xs⟩ := x
            dsimp only at g0 g1 g2 g3 g4
            have hgs := hg.size
            have HNX := Lib.hid (HN.out.trans (normF_at HX.out))
            have hal : Bel W (W.alloc (.cells #[.int .i64 xk, .int .i64 xa, .int .i64 xb, .int .i64 xn, .string xs] 35)) := (Bel.refl _).alloc _
            have hbx := heap_alloc_new W (.cells #[.int .i64 xk, .int .i64 xa, .int .i64 xb, .int .i64 xn, .string xs] 35)
            have KS := Lib.hid (spendM_s1 mv mb st' 1 _ (hmW.grown hal))
            have HO1 := Lib.hid (hO.to hal)
            have hg1 := grown_trans hg (bel_grown (row := mb) hal)
            clear hO hmW hg
            cases hw : (spendM st' 1).2 with
            | false =>
              have Hr := Lib.hid (HNX.out.trans (normF_out hw))
              rw [hw] at KS
              clear hw
              go_wp2_with fail
              refine KS.out.mono ?_
              rintro e w2 ⟨rfl, hm2, hg2, _⟩
              go_wp2
              go_ret2
              rw [Hu.out, Hr.out]
              exact ⟨_, rfl, DSem.nil _ _ _, hm2, grown_trans hg1 hg2⟩
            | true =>
              obtain ⟨hfit, hnext⟩ := normFit_at HX.out HFT.out hw
              have HFit := Lib.hid hfit
              have HNext := Lib.hid hnext
              have HW := Lib.hid hw
              rw [hw] at KS
              clear hw hfit hnext
              go_wp2_with fail
              refine KS.out.mono ?_
              rintro e w2 ⟨rfl, hm2, hg2, hz2⟩
              obtain ⟨st2, hst2⟩ : ∃ st2, (spendM st' 1).1 = st2 := ⟨_, rfl⟩
              rw [hst2] at hm2 HFit HNext
              have HNF := Lib.hid (HNX.out.trans (by rw [normF, if_pos HW.out, hst2]))
              have hbx2 := (hg2.block W.heap.size (by simp) (fun e => by have := HMB.out _ e.symm; omega)).trans hbx
              have hwl : w.heap.size ≤ w2.heap.size ∧ W.heap.size < w2.heap.size := by rw [hz2]; simp; omega
              have c0 : w2.cell? ⟨W.heap.size, 0, none⟩ = some (.int .i64 xk) := cellAt hbx2 0
              have c1 : w2.cell? ⟨W.heap.size, 1, none⟩ = some (.int .i64 xa) := cellAt hbx2 1
              have c2 : w2.cell? ⟨W.heap.size, 2, none⟩ = some (.int .i64 xb) := cellAt hbx2 2
              have c3 : w2.cell? ⟨W.heap.size, 3, none⟩ = some (.int .i64 xn) := cellAt hbx2 3
              have c4 : w2.cell? ⟨W.heap.size, 4, none⟩ = some (.string xs) := cellAt hbx2 4
              have HO2 := Lib.hid (own_spent HO1.out hg2 HMB.out)
              have hg12 := grown_trans hg1 hg2
              have HM2 := Lib.hid hm2
              have HG12 := Lib.hid hg12
              clear hst2 hbx hbx2 hg1 hg2 hm2 hg12 KS HO1 hal g0 g1 g2 g3 g4 hz2
              obtain ⟨AA, cA, hAA, hrA⟩ := HO2.out.rdGe
              rw [HL.out] at hAA
              injection hAA with e1 _ e3
              subst e1 e3
              have Q := node_c mv mb st2 _ AO cO L ⟨xk, xa, xb, xn, xs⟩ w2 HM2.out hrA (fun k hk e => by have := HMB.out k e.symm; unfold Ge at hk; omega) i HL.out.symm HFit.out
              obtain ⟨st3, s3, e3, HE0⟩ : ∃ st3 s3 e3, nodeF ⟨xk, xa, xb, xn, xs⟩ L st2 = (st3, s3, e3) := ⟨_, _, _, rfl⟩
              have HE := Lib.hid HE0
              rw [HE0] at Q
              have HQ := Lib.hid Q
              clear Q HE0 hrA
              by_cases he : e3 = 0
              · subst he
                go_wp2_with fail
                refine HQ.out.mono ?_
                rintro e w3 ⟨A3, c3', rfl, hr3, hm3, hg3⟩
                have HO3 := Lib.hid (own_spent HO2.out hg3 HMB.out)
                have HR3 := Lib.hid (hr3.bound)
                have hs3 := hg3.size
                have HG3 := Lib.hid (grown_trans HG12.out hg3)
                have HM3 := Lib.hid hm3
                have HSE := Lib.hid (show ∀ S' : Nat → Prop, (∀ k, Ge w2.heap.size k ∧ k < w3.heap.size → S' k) → semT.rd w3 S' s3 [.slice A3 s3.length c3'] from fun S' hS' => ⟨A3, c3', rfl, HR3.out.mono hS'⟩)
                clear hr3 hg3 hm3 c0 c1 c2 c3 c4 HQ
                have NX := Lib.hid (show normF p [] st = normF (p.drop (i + 1)) (L ++ [s3]) st3 by rw [HNF.out, HE.out]; rfl)
                have FX := Lib.hid (show NormFit (p.drop (i + 1)) (L ++ [s3]) st3 by have := HNext.out (by rw [HE.out]); rw [HE.out] at this; exact this)
                have HNB := Lib.hid (fun k hk => HO2.out.lt (k := k) hk)
                go_wp2_with (at_builtin; go_loud (refine wp_append1c semT w.heap.size 59 28 (.slice none 0 0) 24 rfl _ _ rfl Try.underlying59 info_semiW rfl (Ge w.heap.size) (.slice AO i cO) L s3 [.slice A3 s3.length c3'] _ rfl rfl rfl HO3.out (by omega) (HSE.out _ (fun k hk => ⟨by unfold Ge at *; omega, fun e => by have := HNB.out k e.symm; unfold Ge at hk; omega⟩)) (by rw [HL.out]; unfold maxLen; omega) (by rw [HL.out]; omega) ?_); rintro v4 w4 ho4 hg4; obtain ⟨A4, c4, hv4⟩ := ho4.form; rw [List.length_append, HL.out] at hv4; subst hv4; have HMX : MetO w4 71 mv mb st3 := HM3.out.row hg4 (fun g hg e => by have := HMB.out g hg; have := HO3.out.ge e; omega); have HGX := grown_own HG3.out hg4 (fun g e => HO3.out.ge e))
                go_roundw
                case rel => exact ⟨i + 1, _, A4, c4, L ++ [s3], st3, rfl, by omega, by go_num, rfl, (by rw [List.length_append, HL.out]; rfl : (L ++ [s3]).length = i + 1), NX.out, FX.out, ho4, HMX, HGX⟩
                case measure => simp [intOf]; omega
              · have Hr := Lib.hid (show normF p [] st = (st3, [], e3) from HNF.out.trans (by rw [HE.out]; exact if_neg he))
                have hne : (e3 != 0) = true := by simp [he]
                go_wp2_with fail
                refine HQ.out.mono ?_
                rintro e w3 ⟨A3, c3', rfl, _, hm3, hg3⟩
                go_wp2
                go_ret2
                rw [Hu.out, Hr.out]
                exact ⟨_, rfl, DSem.nil _ _ _, hm3, grown_trans HG12.out hg3⟩
          · obtain rfl : i = p.length := by omega
            have HR := Lib.hid (show normF p [] st = (st', L.getD (L.length - 1) [], 0) by rw [HN.out, List.drop_length]; rfl)
            obtain ⟨s, hs⟩ : ∃ s, L.getD (L.length - 1) [] = s := ⟨_, rfl⟩
            have hLl := HL.out
            obtain ⟨AA, cA, hAA, hrA⟩ := hO.rdGe
            rw [hLl] at hAA
            injection hAA with e1 _ e3
            subst e1 e3
            obtain ⟨ad, B, cb, rfl, hcell, hr⟩ := hrA.row (k := p.length - 1) (by omega)
            have hse : L[p.length - 1]'(by omega) = s := by
              rw [← hs, List.getD_eq_getElem?_getD, show L.length - 1 = p.length - 1 by omega, List.getElem?_eq_getElem (by omega)]; rfl
            rw [hse] at hcell hr
            have hw1 : IntKind.i64.wrap ((p.length : Int) - 1) = ((p.length - 1 : Nat) : Int) := by rw [IntKind.wrap_i64]; omega
            have HSS := Lib.hid hs
            have hpp := hpl.1
            clear hLl hse hs hO hrA
            go_wp2
            go_ret2
            rw [Hu.out, HR.out, HSS.out]
            exact ⟨_, rfl, ⟨B, cb, rfl, hr⟩, hmW, hg⟩
end Go.Proofs.Ytfkopkjioohgoaa
