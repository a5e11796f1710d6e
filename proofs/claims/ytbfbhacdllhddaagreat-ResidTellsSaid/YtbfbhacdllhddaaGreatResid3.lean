/- Walks: what is left of a set when one of a tag has come, the document's. -/
import Derived.Test.YtbfbhacdllhddaaGreatResid2
set_option linter.unusedVariables false
set_option linter.unusedSimpArgs false
set_option linter.all false
namespace Go.Cb
theorem byF_next2 {tag : Int} {x : Lin} {r : SemS} {st st' : MSt} {acc o : List Lin} (h : leftS x tag st acc = (st', o, 0)) : byF tag (x :: r) st acc = byF tag r st' o := by rw [byF, h, if_pos rfl]
end Go.Cb
namespace Go.Proofs.YtbfbhacdllhddaaGreat
open Go.RowKit Go.Cb Go.Sort
set_option maxRecDepth 100000 in
set_option maxHeartbeats 16000000 in
theorem refBy_c (mv : Value) (mb : Option Nat) (st : MSt) (S : Nat → Prop) (A : Option Addr) (ca : Nat) (s : SemS) (tag : Int) (w : World) (hm : MetO w 64 mv mb st) (h : Rd linT w S A ca s) (hS : ∀ k, S k → some k ≠ mb)
    (n : Nat) (hn : n = s.length) (h6 : s.length ≤ 100) (hp : ∀ x ∈ s, x.2.length ≤ 100) :
    Calls Tryz.prog 30 #[mv, .slice A n ca, .int .i64 tag] w fun e w' => ∃ v, e = .returned (.tuple #[v, .int .i64 (byS st s tag).2.2]) ∧ DSem 30 w.heap.size w' v (byS st s tag).2.1 ∧ MetO w' 64 mv mb (byS st s tag).1 ∧ w.grownBy w' mb := by
  subst hn
  have HMB := Lib.hid (hm.at_)
  have HM := Lib.hid hm
  have HS := Lib.hid (show ∀ W, w.grownBy W mb → Rd linT W (Low w mb) A ca s from fun W hg => low_of h hS hg)
  have KR := Lib.hid (refRightSem_c _ _ _ _ _ h _ rfl)
  have HP := Lib.hid hp
  have hT0 : tag < 0 ∨ (0 ≤ tag ∧ tag < 12) ∨ 12 ≤ tag := by omega
  clear hm h hS hp
  cases hr : rightS s with
  | false =>
    have Hu := Lib.hid (byS_arg (st := st) (s := s) (tag := tag) (fun e => by rw [hr] at e; exact absurd e.1 (by decide)))
    rw [hr] at KR
    clear hr hT0
    go_enter Tryz.func30, Tryz.ntmps30
    go_wp2_with fail
    refine KR.out.mono ?_
    rintro e w1 ⟨rfl, hb1⟩
    go_wp2
    go_ret2
    rw [Hu.out]
    exact ⟨_, rfl, DSem.nil _ _ _, HM.out.grown hb1, bel_grown hb1⟩
  | true =>
    rcases hT0 with ht | ht | ht
    · have Hu := Lib.hid (byS_arg (st := st) (s := s) (tag := tag) (fun e => by omega))
      rw [hr] at KR
      clear hr
      go_enter Tryz.func30, Tryz.ntmps30
      go_wp2_with fail
      refine KR.out.mono ?_
      rintro e w1 ⟨rfl, hb1⟩
      go_wp2
      go_ret2
      rw [Hu.out]
      exact ⟨_, rfl, DSem.nil _ _ _, HM.out.grown hb1, bel_grown hb1⟩
    · obtain ⟨ht0, ht1⟩ := ht
      have HBAD := Lib.hid (fun st' o e (h2 : byF tag s st [] = (st', o, e)) he => byS_bad (st := st) ⟨hr, ht0, ht1⟩ h2 he)
      have HOK := Lib.hid (fun st' o (h2 : byF tag s st [] = (st', o, 0)) => byS_ok (st := st) ⟨hr, ht0, ht1⟩ h2)
      rw [hr] at KR
      clear hr
      go_enter Tryz.func30, Tryz.ntmps30
      go_wp2_with fail
      refine KR.out.mono ?_
      rintro e w1 ⟨rfl, hb1⟩
      go_wp2_with fail
      refine (refOne_c tag 1 _).mono ?_
      rintro e w2 ⟨v2, rfl, ho2, hb2⟩
      obtain ⟨A2, c2, rfl, hr2⟩ := ho2.rdGe
      have HM1 := Lib.hid (HM.out.grown (hb1.trans hb2))
      have HG1 := Lib.hid (bel_grown (row := mb) (hb1.trans hb2))
      have hb1s := hb1.size
      have hb2s := hb2.size
      have HONE := Lib.hid (show ∀ W, w2.grownBy W mb → Rd intT W (fun k => w.heap.size ≤ k ∧ k < w2.heap.size) A2 c2 (oneB tag 1) from fun W hg => (hr2.bound.step' (fun k hk => hg.block k hk.2 (fun e => by have := HMB.out k e.symm; have := hk.1; unfold Ge at this; omega))).mono (fun k hk => ⟨by have := hk.1; unfold Ge at this; omega, hk.2⟩))
      clear hb1 KR hb2 ho2 hr2
      go_wp2
      go_loopw [9, 37] (fun v8 v28 wr => ∃ (k : Nat) (W : World) (AO : Option Addr) (cO : Nat) (acc : List Lin) (st' : MSt), W = wr ∧ k ≤ s.length ∧ v28 = .int .i64 k ∧ v8 = .slice AO acc.length cO ∧ Hid (acc.length ≤ k * 101) ∧ Hid (∀ y ∈ acc, y.2.length ≤ 100) ∧ Hid (byF tag s st [] = byF tag (s.drop k) st' acc) ∧
          Own linT 30 W w.heap.size (NM mb) (.slice AO acc.length cO) acc ∧ Hid (MetO W 64 mv mb st') ∧ Hid (w.grownBy W mb) ∧ Hid (w2.grownBy W mb) ∧ Hid (∀ g, (Value.slice AO acc.length cO).ownBlock = some g → w2.heap.size ≤ g)) (fun _ v28 _ => s.length - (intOf v28).toNat)
      case atStart => exact ⟨0, _, none, 0, [], st, rfl, Nat.zero_le _, rfl, rfl, Nat.zero_le _, (show ∀ y ∈ ([] : List Lin), y.2.length ≤ 100 from fun y hy => by simp at hy), rfl, Own.nil _ _ _ _ _, HM1.out, HG1.out, (⟨rfl, rfl, rfl, Nat.le_refl _, fun _ _ _ => rfl⟩ : w2.grownBy w2 mb), (show ∀ g, (Value.slice none 0 0).ownBlock = some g → w2.heap.size ≤ g from fun g h => by cases h)⟩
      case round =>
        clear HM1 HG1
        obtain ⟨k, W, AO, cO, acc, st', rfl, hk, rfl, rfl, HAL, HAP, HF, hO, HMW, HGW, HG2W, HOGE⟩ := hrel
        by_cases hlt : k < s.length
        · obtain ⟨ad, A0, c0, A1, c1, rfl, x0, x1, r0, r1⟩ := (HS.out W HGW.out).lrow hlt
          obtain ⟨⟨xb, ps⟩, hx⟩ : ∃ x, s[k] = x := ⟨_, rfl⟩
          have hx? : s[k]? = some (xb, ps) := by rw [List.getElem?_eq_getElem hlt, hx]
          have hp8 := HP.out _ (List.mem_of_getElem? hx?)
          have HFA := Lib.hid (HF.out.trans (byF_at hx?))
          rw [hx] at x0 x1 r0 r1
          dsimp only at x0 x1 r0 r1 hp8
          have hal : Bel W (W.alloc (.cells #[.slice A0 xb.length c0, .slice A1 ps.length c1] 30)) := (Bel.refl _).alloc _
          have X := Box.new W 30 (.slice A0 xb.length c0) (.slice A1 ps.length c1)
          have HX := Lib.hid X
          have HO := Lib.hid (hO.to hal)
          have HOT := Lib.hid (fun g (hg : (Value.slice AO acc.length cO).ownBlock = some g) => (show g ≠ W.heap.size from fun e => by have := hO.lt hg; omega))
          have HG1 := Lib.hid (grown_trans HGW.out (bel_grown (row := mb) hal))
          have HG21 := Lib.hid (grown_trans HG2W.out (bel_grown (row := mb) hal))
          have HM1 := Lib.hid (HMW.out.grown hal)
          have R0 := Lib.hid (fun W' (h : w.grownBy W' mb) => low_row r0 HGW.out h)
          have R1 := Lib.hid (fun W' (h : w.grownBy W' mb) => low_row r1 HGW.out h)
          have hws := HGW.out.size
          have hw2s := HG2W.out.size
          have hals := hal.size
          clear hx hx? r0 r1 hO hal X
          go_wp2_with fail
          generalize (W.alloc (.cells #[.slice A0 xb.length c0, .slice A1 ps.length c1] 30)) = W1 at *
          clear x0 x1
          generalize W.heap.size = TG at *
          refine (spendM_s2 mv mb st' 1 _ HM1.out).mono ?_
          rintro e w3 ⟨rfl, hm3, hg3, hz3⟩
          obtain ⟨st3, hst3⟩ : ∃ st3, (spendM st' 1).1 = st3 := ⟨_, rfl⟩
          have HM3 := Lib.hid hm3
          have HG3 := Lib.hid (grown_trans HG1.out hg3)
          have HG23 := Lib.hid (grown_trans HG21.out hg3)
          have HX3 := Lib.hid (show Go.Cb.Box w3 30 TG (.slice A0 xb.length c0) (.slice A1 ps.length c1) from (hg3.block TG HX.out.lt (fun e => by have := HMB.out _ e.symm; omega)).trans HX.out)
          have HO3 := Lib.hid (own_nm HO.out hg3 HMB.out)
          have hg3s := hg3.size
          have hT3 := HX3.out.lt
          have hal := HAL.out
          clear hz3 hg3 HO HX
          cases hsp : (spendM st' 1).2 with
          | false =>
            have HR := Lib.hid (HBAD.out _ _ _ (HFA.out.trans (byF_bad (leftS_work (x := (xb, ps)) (tag := tag) (acc := acc) hsp) (by decide))) (by decide))
            rw [hst3] at HR HM3
            clear hm3 hsp hst3
            go_wp2_with fail
            go_ret2
            rw [HR.out]
            exact ⟨_, rfl, DSem.nil _ _ _, HM3.out, HG3.out⟩
          | true =>
            have HHAS := Lib.hid (refHas_c _ A0 c0 xb tag w3 (R0.out w3 HG3.out) _ rfl)
            obtain ⟨y0, y1, _, _⟩ := HX3.out.cells
            cases hh : hasB xb tag with
            | true =>
              have HLB := leftS_base (x := (xb, ps)) (tag := tag) (acc := acc) hsp hh
              rw [hst3] at HLB HM3
              rw [hh] at HHAS
              have Q := refSub_c _ _ A0 A2 c0 c2 xb (oneB tag 1) w3 (R0.out w3 HG3.out) (HONE.out w3 HG23.out) _ _ rfl rfl
              obtain ⟨sb, hsb⟩ : ∃ sb, (subB xb (oneB tag 1)).1 = sb := ⟨_, rfl⟩
              dsimp only at HLB
              rw [hsb] at Q HLB
              have HN := Lib.hid (HFA.out.trans (byF_next2 (r := s.drop (k + 1)) HLB))
              have HQ := Lib.hid Q
              clear Q hm3 hsp hst3 hh hsb HLB
              go_wp2_with fail
              refine HHAS.out.mono ?_
              rintro e w4 ⟨rfl, rfl⟩
              go_wp2_with fail
              refine HQ.out.mono ?_
              rintro e w4 ⟨v4, rfl, ho4, hb4⟩
              obtain ⟨A4, c4, rfl, hr4⟩ := ho4.rdGe
              have HX4 := Lib.hid (HX3.out.to hb4)
              have HO4 := Lib.hid (HO3.out.to hb4)
              have HG4 := Lib.hid (grown_trans HG3.out (bel_grown (row := mb) hb4))
              have HG24 := Lib.hid (grown_trans HG23.out (bel_grown (row := mb) hb4))
              have HM4 := Lib.hid (HM3.out.grown hb4)
              have hb4s := hb4.size
              have HRR := Lib.hid (show linT.rd w4 (fun k => NM mb k ∧ some k ≠ (Value.slice AO acc.length cO).ownBlock) (sb, ps) [.slice A4 sb.length c4, .slice A1 ps.length c1] from lin_mk
                (hr4.mono (fun k hk => ⟨fun e => by have := HMB.out k e.symm; unfold Ge at hk; omega, fun e => by have := HO3.out.lt e.symm; unfold Ge at hk; omega⟩))
                ((R1.out w4 HG4.out).mono (fun k hk => ⟨hk.2, fun e => by have := HO3.out.ge e.symm; have := hk.1; omega⟩)))
              clear y0 y1
              obtain ⟨z0, z1, _, _⟩ := HX4.out.cells
              clear ho4 hr4 hb4 HQ
              go_wp2_with (at_builtin; refine wp_append1e linT w.heap.size 24 30 (.agg #[.slice none 0 0, .slice none 0 0]) 48 rfl _ _ rfl Tryz.underlying24 info_lin rfl (NM mb) (.slice AO acc.length cO) acc (sb, ps) [.slice A4 sb.length c4, .slice A1 ps.length c1] _ rfl rfl rfl HO4.out (by omega) HRR.out (by unfold maxLen; omega) (by omega) ?_; rintro v9 w9 ho9 hg9 hn9; obtain ⟨A9, c9, hv9⟩ := ho9.form; rw [List.length_append, List.length_singleton] at hv9; subst hv9; have HM9 : MetO w9 64 mv mb st3 := HM4.out.row hg9 (fun g hg e => by have := HMB.out g hg; have := HO4.out.ge e; omega); have HG9 := grown_own HG4.out hg9 (fun g e => HO4.out.ge e); have HG29 : w2.grownBy w9 mb := grown_own HG24.out hg9 (fun g e => HOGE.out g e); have HOGE9 : ∀ g, (Value.slice A9 (acc.length + 1) c9).ownBlock = some g → w2.heap.size ≤ g := fun g hg => by (rcases hn9 with e | ⟨g9, e, he9⟩; exact HOGE.out g (e.symm.trans hg); (rw [hg] at e; injection e with e; omega)))
              go_roundw
              case rel => exact ⟨k + 1, _, A9, c9, acc ++ [(sb, ps)], st3, rfl, by omega, by go_num, by rw [List.length_append, List.length_singleton], (show (acc ++ [(sb, ps)]).length ≤ (k + 1) * 101 by rw [List.length_append, List.length_singleton]; omega), (show ∀ y ∈ acc ++ [(sb, ps)], y.2.length ≤ 100 from fun y hy => by
                rcases List.mem_append.1 hy with h | h
                · exact HAP.out y h
                · obtain rfl : y = (sb, ps) := by simpa using h
                  exact hp8), HN.out, by rw [List.length_append, List.length_singleton]; exact ho9, HM9, HG9, HG29, by rw [List.length_append, List.length_singleton]; exact HOGE9⟩
              case measure => simp [intOf]; omega
            | false =>
              have HLP := Lib.hid (leftS_per (x := (xb, ps)) (tag := tag) (acc := acc) hsp hh)
              rw [hst3] at HLP HM3
              rw [hh] at HHAS
              dsimp only at HLP
              clear hm3 hsp hst3 hh
              go_wp2_with fail
              refine HHAS.out.mono ?_
              rintro e w4 ⟨rfl, rfl⟩
              go_wp2
              go_loopw [9, 65] (fun v11 v42 wr => ∃ (q : Nat) (W3 : World) (AQ : Option Addr) (cQ : Nat) (acc2 : List Lin) (st2 : MSt), W3 = wr ∧ q ≤ ps.length ∧ v42 = .int .i64 q ∧ v11 = .slice AQ acc2.length cQ ∧ Hid (acc2.length ≤ k * 101 + q) ∧ Hid (∀ y ∈ acc2, y.2.length ≤ 100) ∧ Hid (leftF (xb, ps) tag ps st3 acc = leftF (xb, ps) tag (ps.drop q) st2 acc2) ∧
                  Own linT 30 W3 w.heap.size (NM mb) (.slice AQ acc2.length cQ) acc2 ∧ Go.Cb.Box W3 30 TG (.slice A0 xb.length c0) (.slice A1 ps.length c1) ∧ Hid (∀ g, (Value.slice AQ acc2.length cQ).ownBlock = some g → w2.heap.size ≤ g ∧ g ≠ TG) ∧ Hid (MetO W3 64 mv mb st2) ∧ Hid (w.grownBy W3 mb) ∧ Hid (w2.grownBy W3 mb) ∧ TG < W3.heap.size) (fun _ v42 _ => ps.length - (intOf v42).toNat)
              case atStart => exact ⟨0, _, AO, cO, acc, st3, rfl, Nat.zero_le _, rfl, rfl, HAL.out, HAP.out, rfl, HO3.out, HX3.out, (fun g h => ⟨HOGE.out g h, HOT.out g h⟩ : ∀ g, (Value.slice AO acc.length cO).ownBlock = some g → w2.heap.size ≤ g ∧ g ≠ TG), HM3.out, HG3.out, HG23.out, hT3⟩
              case round =>
                clear HX3 HM3 HG3 y0 y1 HG23 HO3 hT3
                obtain ⟨q, W3, AQ, cQ, acc2, st2, rfl, hq, rfl, rfl, HAL2, HAP2, HF2, hO, hX, HOT2, HMW2, HGW2, HG2W2, hTW⟩ := hrel
                have hWs := HGW2.out.size
                have hW2s := HG2W2.out.size
                by_cases hql : q < ps.length
                · obtain ⟨ad9, Ap, cp, rfl, y9, hpr⟩ := (R1.out W3 HGW2.out).row hql
                  obtain ⟨p, hpe⟩ : ∃ p, ps[q] = p := ⟨_, rfl⟩
                  have hp? : ps[q]? = some p := by rw [List.getElem?_eq_getElem hql, hpe]
                  have HFA2 := Lib.hid (HF2.out.trans (leftF_at hp?))
                  rw [hpe] at y9 hpr
                  obtain ⟨z0, z1, _, _⟩ := hX.cells
                  have HHP := Lib.hid (refHas_c _ Ap cp p tag W3 hpr _ rfl)
                  have hal2 := HAL2.out
                  clear hpe hp?
                  cases hh : hasB p tag with
                  | false =>
                    have HN := Lib.hid (HFA2.out.trans (leftF_skip hh))
                    rw [hh] at HHP
                    clear hh
                    go_wp2_with fail
                    refine HHP.out.mono ?_
                    rintro e w5 ⟨rfl, rfl⟩
                    go_wp2
                    go_roundw
                    case rel => exact ⟨q + 1, _, AQ, cQ, acc2, st2, rfl, by omega, by go_num, rfl, (show acc2.length ≤ k * 101 + (q + 1) by omega), HAP2.out, HN.out, hO, hX, HOT2.out, HMW2.out, HGW2.out, HG2W2.out, hTW⟩
                    case measure => simp [intOf]; omega
                  | true =>
                    rw [hh] at HHP
                    have HO := Lib.hid hO
                    have HX := Lib.hid hX
                    clear hO hX
                    go_wp2_with fail
                    refine HHP.out.mono ?_
                    rintro e w5 ⟨rfl, rfl⟩
                    go_wp2_with fail
                    refine (spendM_s2 mv mb st2 1 _ HMW2.out).mono ?_
                    rintro e w6 ⟨rfl, hm6, hg6, hz6⟩
                    obtain ⟨st6, hst6⟩ : ∃ st6, (spendM st2 1).1 = st6 := ⟨_, rfl⟩
                    have HM6 := Lib.hid hm6
                    rw [hst6] at HM6
                    have HG6 := Lib.hid (grown_trans HGW2.out hg6)
                    have HG26 := Lib.hid (grown_trans HG2W2.out hg6)
                    have HX6 := Lib.hid (show Go.Cb.Box w6 30 TG (.slice A0 xb.length c0) (.slice (some ad9) ps.length c1) from (hg6.block TG HX.out.lt (fun e => by have := HMB.out _ e.symm; omega)).trans HX.out)
                    have HO6 := Lib.hid (own_nm HO.out hg6 HMB.out)
                    have HPR6 := Lib.hid (low_row hpr HGW2.out HG6.out)
                    have hg6s := hg6.size
                    clear hm6 hg6 hpr y9 z0 z1 HX HO hz6
                    cases hsp : (spendM st2 1).2 with
                    | false =>
                      have HR := Lib.hid (HBAD.out _ _ _ (HFA.out.trans (byF_bad (HLP.out.trans (HFA2.out.trans (leftF_work hh hsp))) (by decide))) (by decide))
                      rw [hst6] at HR
                      clear hh hsp hst6
                      go_wp2_with fail
                      go_ret2
                      rw [HR.out]
                      exact ⟨_, rfl, DSem.nil _ _ _, HM6.out, HG6.out⟩
                    | true =>
                      have Q := refSub_c _ _ Ap A2 cp c2 p (oneB tag 1) w6 HPR6.out (HONE.out w6 HG26.out) _ _ rfl rfl
                      have HB2 := Lib.hid (fun h3 => HBAD.out _ _ _ (HFA.out.trans (byF_bad (HLP.out.trans (HFA2.out.trans (leftF_bad (x := (xb, ps)) (r := ps.drop (q + 1)) (acc := acc2) hh hsp h3))) (by decide))) (by decide))
                      have HNXT := Lib.hid (fun h3 => HFA2.out.trans (leftF_next (x := (xb, ps)) (r := ps.drop (q + 1)) (acc := acc2) hh hsp h3))
                      dsimp only at HB2 HNXT
                      obtain ⟨sq, hsq⟩ : ∃ sq, (subB p (oneB tag 1)).1 = sq := ⟨_, rfl⟩
                      rw [hst6, hsq] at HB2 HNXT
                      rw [hsq] at Q
                      have HQ := Lib.hid Q
                      clear Q hh hsp hst6 hsq
                      go_wp2_with fail
                      refine HQ.out.mono ?_
                      rintro e w7 ⟨v7, rfl, ho7, hb7⟩
                      obtain ⟨A7, c7, rfl, hr7⟩ := ho7.rdAll
                      have HG7 := Lib.hid (grown_trans HG6.out (bel_grown (row := mb) hb7))
                      have HG27 := Lib.hid (grown_trans HG26.out (bel_grown (row := mb) hb7))
                      have HX7 := Lib.hid (HX6.out.to hb7)
                      have Q2 := refAddBag_c _ _ A0 A7 c0 c7 xb sq w7 ((R0.out w7 HG7.out).all) hr7 _ _ rfl rfl
                      obtain ⟨z0, z1, _, _⟩ := HX7.out.cells
                      have hb7s := hb7.size
                      cases hadd : (addB xb sq).2 with
                      | false =>
                        have HR := Lib.hid (HB2.out hadd)
                        rw [hadd] at Q2
                        have HQ2 := Lib.hid Q2
                        clear Q2 hadd ho7 hr7 HQ
                        go_wp2_with fail
                        refine HQ2.out.mono ?_
                        rintro e w8 ⟨v8, rfl, _, hb8⟩
                        go_wp2
                        go_ret2
                        rw [HR.out]
                        exact ⟨_, rfl, DSem.nil _ _ _, (HM6.out.grown hb7).grown hb8, grown_trans HG7.out (bel_grown hb8)⟩
                      | true =>
                        have HN := Lib.hid (HNXT.out hadd)
                        rw [hadd] at Q2
                        obtain ⟨nb, hnb⟩ : ∃ nb, (addB xb sq).1 = nb := ⟨_, rfl⟩
                        rw [hnb] at Q2 HN
                        have HQ2 := Lib.hid Q2
                        clear Q2 hadd ho7 hr7 HQ hnb
                        go_wp2_with fail
                        refine HQ2.out.mono ?_
                        rintro e w8 ⟨v8, rfl, ho8, hb8⟩
                        obtain ⟨A8, c8, rfl, hr8⟩ := ho8.rdGe
                        have HG8 := Lib.hid (grown_trans HG7.out (bel_grown (row := mb) hb8))
                        have HG28 := Lib.hid (grown_trans HG27.out (bel_grown (row := mb) hb8))
                        have HX8 := Lib.hid (HX7.out.to hb8)
                        have HO8 := Lib.hid (HO6.out.to (hb7.trans hb8))
                        have HM8 := Lib.hid (HM6.out.grown (hb7.trans hb8))
                        have hb8s := hb8.size
                        have HRR := Lib.hid (show linT.rd w8 (fun k => NM mb k ∧ some k ≠ (Value.slice AQ acc2.length cQ).ownBlock) (nb, ps) [.slice A8 nb.length c8, .slice (some ad9) ps.length c1] from lin_mk
                          (hr8.mono (fun k hk => ⟨fun e => by have := HMB.out k e.symm; unfold Ge at hk; omega, fun e => by have := HO6.out.lt e.symm; unfold Ge at hk; omega⟩))
                          ((R1.out w8 HG8.out).mono (fun k hk => ⟨hk.2, fun e => by have := HO6.out.ge e.symm; have := hk.1; omega⟩)))
                        clear z0 z1
                        obtain ⟨z0, z1, _, _⟩ := HX8.out.cells
                        clear ho8 hr8 hb8 hb7 HQ2
                        go_wp2_with (at_builtin; refine wp_append1e linT w.heap.size 24 30 (.agg #[.slice none 0 0, .slice none 0 0]) 48 rfl _ _ rfl Tryz.underlying24 info_lin rfl (NM mb) (.slice AQ acc2.length cQ) acc2 (nb, ps) [.slice A8 nb.length c8, .slice (some ad9) ps.length c1] _ rfl rfl rfl HO8.out (by omega) HRR.out (by unfold maxLen; omega) (by omega) ?_; rintro v9 w9 ho9 hg9 hn9; obtain ⟨A9, c9, hv9⟩ := ho9.form; rw [List.length_append, List.length_singleton] at hv9; subst hv9; have HX9 : Go.Cb.Box w9 30 TG (.slice A0 xb.length c0) (.slice (some ad9) ps.length c1) := (hg9.block TG HX8.out.lt (fun e => (HOT2.out TG e.symm).2 rfl)).trans HX8.out; have HM9 : MetO w9 64 mv mb st6 := HM8.out.row hg9 (fun g hg e => by have := HMB.out g hg; have := HO8.out.ge e; omega); have HG9 := grown_own HG8.out hg9 (fun g e => HO8.out.ge e); have HG29 : w2.grownBy w9 mb := grown_own HG28.out hg9 (fun g e => (HOT2.out g e).1); have hT9 := HX9.lt; have HOT9 : ∀ g, (Value.slice A9 (acc2.length + 1) c9).ownBlock = some g → w2.heap.size ≤ g ∧ g ≠ TG := fun g hg => by (rcases hn9 with e | ⟨g9, e, he9⟩; exact HOT2.out g (e.symm.trans hg); (rw [hg] at e; injection e with e; exact ⟨by omega, by omega⟩)))
                        go_roundw
                        case rel => exact ⟨q + 1, _, A9, c9, acc2 ++ [(nb, ps)], st6, rfl, by omega, by go_num, by rw [List.length_append, List.length_singleton], (show (acc2 ++ [(nb, ps)]).length ≤ k * 101 + (q + 1) by rw [List.length_append, List.length_singleton]; omega), (show ∀ y ∈ acc2 ++ [(nb, ps)], y.2.length ≤ 100 from fun y hy => by
                          rcases List.mem_append.1 hy with h | h
                          · exact HAP2.out y h
                          · obtain rfl : y = (nb, ps) := by simpa using h
                            exact hp8), HN.out, by rw [List.length_append, List.length_singleton]; exact ho9, HX9, by rw [List.length_append, List.length_singleton]; exact HOT9, HM9, HG9, HG29, hT9⟩
                        case measure => simp [intOf]; omega
                · obtain rfl : q = ps.length := by omega
                  have HN := Lib.hid (HFA.out.trans (byF_next2 (r := s.drop (k + 1)) (HLP.out.trans (HF2.out.trans leftF_end))))
                  have hal2 := HAL2.out
                  have HOGE9 := Lib.hid (fun g h => (HOT2.out g h).1)
                  go_wp2
                  go_roundw
                  case rel => exact ⟨k + 1, _, AQ, cQ, acc2, st2, rfl, by omega, by go_num, rfl, (show acc2.length ≤ (k + 1) * 101 by omega), HAP2.out, HN.out, hO, HMW2.out, HGW2.out, HG2W2.out, HOGE9.out⟩
                  case measure => simp [intOf]; omega
        · obtain rfl : k = s.length := by omega
          have HR := Lib.hid (HOK.out st' acc (HF.out.trans (by rw [List.drop_length]; rfl)))
          obtain ⟨AZ, cZ, eZ, rZ⟩ := hO.rd
          injection eZ with z1 z2 z3
          clear z2
          subst z1 z3
          have hal := HAL.out
          have hws := HGW.out.size
          have Q := ofD_c _ AO cO acc W rZ _ rfl (by omega) (fun y hy => by have := HAP.out y hy; omega)
          obtain ⟨o4, b4, h4⟩ : ∃ a b, ofS acc = (a, b) := ⟨_, _, rfl⟩
          rw [h4] at Q HR
          dsimp only at Q HR
          have HQ := Lib.hid Q
          clear Q hO rZ h4 hal
          go_wp2_with fail
          refine HQ.out.mono ?_
          rintro e w9 ⟨v9, rfl, r9, hb9⟩
          have HD := Lib.hid (show DSem 30 w.heap.size w9 v9 o4 from DSem.lower r9 hws)
          clear r9
          go_wp2
          go_ret2
          rw [HR.out]
          exact ⟨_, rfl, HD.out, HMW.out.grown hb9, grown_trans HGW.out (bel_grown hb9)⟩
    · have Hu := Lib.hid (byS_arg (st := st) (s := s) (tag := tag) (fun e => by omega))
      rw [hr] at KR
      clear hr
      go_enter Tryz.func30, Tryz.ntmps30
      go_wp2_with fail
      refine KR.out.mono ?_
      rintro e w1 ⟨rfl, hb1⟩
      go_wp2
      go_ret2
      rw [Hu.out]
      exact ⟨_, rfl, DSem.nil _ _ _, HM.out.grown hb1, bel_grown hb1⟩
end Go.Proofs.YtbfbhacdllhddaaGreat
