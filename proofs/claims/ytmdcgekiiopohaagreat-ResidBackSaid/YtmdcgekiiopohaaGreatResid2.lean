/- Walks: what is left of a set when one of a tag has come. -/
import Derived.Test.YtmdcgekiiopohaaGreatResid1
set_option linter.unusedVariables false
set_option linter.unusedSimpArgs false
set_option linter.all false
namespace Go.Cb
open Go.RowKit
theorem leftF_mem {x : Lin} {tag : Int} : ∀ {r : List (List Int)} {st : MSt} {acc : List Lin}, (leftF x tag r st acc).2.1.length ≤ acc.length + r.length ∧ ∀ y ∈ (leftF x tag r st acc).2.1, y ∈ acc ∨ y.2 = x.2
  | [], st, acc => ⟨Nat.le_refl _, fun y hy => .inl hy⟩
  | p :: r, st, acc => by
    rw [leftF]
    split
    · split
      · split
        · obtain ⟨h1, h2⟩ := leftF_mem (x := x) (tag := tag) (r := r) (st := (spendM st 1).1) (acc := acc ++ [(lessF x tag p).1])
          refine ⟨by rw [List.length_append, List.length_singleton] at h1; simp only [List.length_cons]; omega, fun y hy => ?_⟩
          rcases h2 y hy with h | h
          · rcases List.mem_append.1 h with h | h
            · exact .inl h
            · obtain rfl : y = (lessF x tag p).1 := by simpa using h
              exact .inr rfl
          · exact .inr h
        · exact ⟨Nat.zero_le _, fun y hy => by simp at hy⟩
      · exact ⟨Nat.zero_le _, fun y hy => by simp at hy⟩
    · obtain ⟨h1, h2⟩ := leftF_mem (x := x) (tag := tag) (r := r) (st := st) (acc := acc)
      exact ⟨by simp only [List.length_cons]; omega, h2⟩
theorem leftS_mem {x : Lin} {tag : Int} {st : MSt} {acc : List Lin} : (leftS x tag st acc).2.1.length ≤ acc.length + x.2.length + 1 ∧ ∀ y ∈ (leftS x tag st acc).2.1, y ∈ acc ∨ y.2 = x.2 := by
  unfold leftS
  split
  · split
    · refine ⟨by rw [List.length_append, List.length_singleton]; omega, fun y hy => ?_⟩
      rcases List.mem_append.1 hy with h | h
      · exact .inl h
      · obtain rfl : y = ((subB x.1 (oneB tag 1)).1, x.2) := by simpa using h
        exact .inr rfl
    · obtain ⟨h1, h2⟩ := leftF_mem (x := x) (tag := tag) (r := x.2) (st := (spendM st 1).1) (acc := acc)
      exact ⟨by omega, h2⟩
  · exact ⟨Nat.zero_le _, fun y hy => by simp at hy⟩
theorem byF_at {tag : Int} {s : SemS} {k : Nat} {x : Lin} {st : MSt} {acc : List Lin} (h : s[k]? = some x) : byF tag (s.drop k) st acc = byF tag (x :: s.drop (k + 1)) st acc := by
  have hlt := (List.getElem?_eq_some_iff.1 h).1
  rw [List.drop_eq_getElem_cons hlt, (List.getElem?_eq_some_iff.1 h).2]
theorem byF_bad {tag : Int} {x : Lin} {r : SemS} {st st' : MSt} {acc o : List Lin} {e : Int} (h : leftS x tag st acc = (st', o, e)) (he : e ≠ 0) : byF tag (x :: r) st acc = (st', [], e) := by rw [byF, h, if_neg he]
theorem byF_next {tag : Int} {x : Lin} {r : SemS} {st st' : MSt} {acc o : List Lin} (h : leftS x tag st acc = (st', o, 0)) : byF tag (x :: r) st acc = byF tag r st' o := by rw [byF, h, if_pos rfl]
theorem leftS_from {x : Lin} {tag : Int} {st st' : MSt} {acc o : List Lin} {e : Int} (h : leftS x tag st [] = (st', o, e)) : leftS x tag st acc = (st', if e = 0 then acc ++ o else [], e) := by rw [leftS_acc, h]
theorem byS_arg {st : MSt} {s : SemS} {tag : Int} (h : ¬ (rightS s = true ∧ 0 ≤ tag ∧ tag < 12)) : byS st s tag = (st, [], 1) := by unfold byS; rw [if_neg h]
theorem byS_bad {st st' : MSt} {s : SemS} {tag e : Int} {o : List Lin} (h : rightS s = true ∧ 0 ≤ tag ∧ tag < 12) (h2 : byF tag s st [] = (st', o, e)) (he : e ≠ 0) : byS st s tag = (st', [], e) := by unfold byS; rw [if_pos h, h2, if_neg he]
theorem byS_ok {st st' : MSt} {s : SemS} {tag : Int} {o : List Lin} (h : rightS s = true ∧ 0 ≤ tag ∧ tag < 12) (h2 : byF tag s st [] = (st', o, 0)) : byS st s tag = (st', (ofS o).1, 0) := by unfold byS; rw [if_pos h, h2, if_pos rfl]
end Go.Cb
namespace Go.Proofs.YtmdcgekiiopohaaGreat
open Go.RowKit Go.Cb Go.Sort
set_option maxRecDepth 100000 in
set_option maxHeartbeats 16000000 in
theorem residBy_c (mv : Value) (mb : Option Nat) (st : MSt) (S : Nat → Prop) (A : Option Addr) (ca : Nat) (s : SemS) (tag : Int) (w : World) (hm : MetO w 120 mv mb st) (h : Rd linT w S A ca s) (hS : ∀ k, S k → some k ≠ mb)
    (n : Nat) (hn : n = s.length) (h6 : s.length ≤ 100) (hp : ∀ x ∈ s, x.2.length ≤ 100) :
    Calls Tryz.prog 11 #[mv, .slice A n ca, .int .i64 tag] w fun e w' => ∃ v, e = .returned (.tuple #[v, .int .i64 (byS st s tag).2.2]) ∧ DSem 30 w.heap.size w' v (byS st s tag).2.1 ∧ MetO w' 120 mv mb (byS st s tag).1 ∧ w.grownBy w' mb := by
  subst hn
  have HMB := Lib.hid (hm.at_)
  have HM := Lib.hid hm
  have HS := Lib.hid (show ∀ W, w.grownBy W mb → Rd linT W (LowR w mb) A ca s from fun W hg => lowR_of h hS hg)
  have KR := Lib.hid (semRight_c _ _ _ _ _ h _ rfl)
  have HP := Lib.hid hp
  have hT0 : tag < 0 ∨ (0 ≤ tag ∧ tag < 12) ∨ 12 ≤ tag := by omega
  clear hm h hS hp
  cases hr : rightS s with
  | false =>
    have Hu := Lib.hid (byS_arg (st := st) (s := s) (tag := tag) (fun e => by rw [hr] at e; exact absurd e.1 (by decide)))
    rw [hr] at KR
    clear hr hT0
    go_enter Tryz.func11, Tryz.ntmps11
    go_wp2_with fail
    refine KR.out.mono ?_
    rintro e w1 ⟨rfl, hb1⟩
    go_wp2
    go_ret2
    rw [Hu.out]
    exact ⟨_, rfl, DSem.nil _ _ _, HM.out.grown hb1, bel_grown hb1⟩
  | true =>
    rcases hT0 with ht | ht | ht
    · have Hu := Lib.hid (byS_arg (st := st) (s := s) (tag := tag) (fun e => by omega))
      rw [hr] at KR
      clear hr
      go_enter Tryz.func11, Tryz.ntmps11
      go_wp2_with fail
      refine KR.out.mono ?_
      rintro e w1 ⟨rfl, hb1⟩
      go_wp2
      go_ret2
      rw [Hu.out]
      exact ⟨_, rfl, DSem.nil _ _ _, HM.out.grown hb1, bel_grown hb1⟩
    · obtain ⟨ht0, ht1⟩ := ht
      have HBAD := Lib.hid (fun st' o e (h2 : byF tag s st [] = (st', o, e)) he => byS_bad (st := st) ⟨hr, ht0, ht1⟩ h2 he)
      have HOK := Lib.hid (fun st' o (h2 : byF tag s st [] = (st', o, 0)) => byS_ok (st := st) ⟨hr, ht0, ht1⟩ h2)
      rw [hr] at KR
      clear hr
      go_enter Tryz.func11, Tryz.ntmps11
      go_wp2_with fail
      refine KR.out.mono ?_
      rintro e w1 ⟨rfl, hb1⟩
      have HM1 := Lib.hid (HM.out.grown hb1)
      have HG1 := Lib.hid (bel_grown (row := mb) hb1)
      clear hb1 KR
      go_wp2
      go_loopw [8, 28] (fun v8 v28 wr => ∃ (k : Nat) (W : World) (AO : Option Addr) (cO : Nat) (acc : List Lin) (st' : MSt), W = wr ∧ k ≤ s.length ∧ v28 = .int .i64 k ∧ v8 = .slice AO acc.length cO ∧ Hid (acc.length ≤ k * 101) ∧ Hid (∀ y ∈ acc, y.2.length ≤ 100) ∧ Hid (byF tag s st [] = byF tag (s.drop k) st' acc) ∧
          Own linT 30 W w.heap.size (NM mb) (.slice AO acc.length cO) acc ∧ Hid (MetO W 120 mv mb st') ∧ Hid (w.grownBy W mb)) (fun _ v28 _ => s.length - (intOf v28).toNat)
      case atStart => exact ⟨0, _, none, 0, [], st, rfl, Nat.zero_le _, rfl, rfl, Nat.zero_le _, (show ∀ y ∈ ([] : List Lin), y.2.length ≤ 100 from fun y hy => by simp at hy), rfl, Own.nil _ _ _ _ _, HM1.out, HG1.out⟩
      case round =>
        clear HM1 HG1
        obtain ⟨k, W, AO, cO, acc, st', rfl, hk, rfl, rfl, HAL, HAP, HF, hO, HMW, HGW⟩ := hrel
        by_cases hlt : k < s.length
        · obtain ⟨ad, A0, c0, A1, c1, rfl, x0, x1, r0, r1⟩ := (HS.out W HGW.out).lrow hlt
          obtain ⟨⟨xb, ps⟩, hx⟩ : ∃ x, s[k] = x := ⟨_, rfl⟩
          have hx? : s[k]? = some (xb, ps) := by rw [List.getElem?_eq_getElem hlt, hx]
          have hp8 := HP.out _ (List.mem_of_getElem? hx?)
          have HFA := Lib.hid (HF.out.trans (byF_at hx?))
          rw [hx] at x0 x1 r0 r1
          dsimp only at x0 x1 r0 r1 hp8
          have hal : Bel W (W.alloc (.cells #[.slice A0 xb.length c0, .slice A1 ps.length c1] 30)) := (Bel.refl _).alloc _
          have X := Box.new W 30 (.slice A0 xb.length c0) (.slice A1 ps.length c1)
          obtain ⟨z0, z1, _, _⟩ := X.cells
          have HO := Lib.hid (hO.to hal)
          have HG1 := Lib.hid (grown_trans HGW.out (bel_grown (row := mb) hal))
          have HM1 := Lib.hid (HMW.out.grown hal)
          have HR0 := Lib.hid (r0.to hal)
          have HR1 := Lib.hid (r1.to hal)
          have hws := HGW.out.size
          have hals := hal.size
          clear hx hx? r0 r1 hO hal X
          go_wp2_with fail
          generalize (W.alloc (.cells #[.slice A0 xb.length c0, .slice A1 ps.length c1] 30)) = W1 at *
          clear x0 x1 z0 z1
          have Q := residLeft_c mv mb st' (LowR w mb) (LowR w mb) A0 A1 c0 c1 (xb, ps) tag W1 HM1.out HR0.out HR1.out (fun k hk => hk.2) (fun k hk => hk.2) _ _ rfl rfl (by dsimp only; omega)
          obtain ⟨m1, m2⟩ := leftS_mem (x := (xb, ps)) (tag := tag) (st := st') (acc := [])
          obtain ⟨st3, o3, e3, h3⟩ : ∃ a b c, leftS (xb, ps) tag st' [] = (a, b, c) := ⟨_, _, _, rfl⟩
          rw [h3] at Q m1 m2
          dsimp only at Q m1 m2
          have HL3 := Lib.hid (leftS_from (acc := acc) h3)
          have HM2 := Lib.hid (show ∀ y ∈ o3, y.2.length ≤ 100 from fun y hy => by
            rcases m2 y hy with h | h
            · simp at h
            · rw [h]; omega)
          simp only [List.length_nil] at m1
          have HQ := Lib.hid Q
          clear Q h3 m2
          refine HQ.out.mono ?_
          rintro e w2 ⟨A3, c3, rfl, hr3, hm3, hg3⟩
          have HM3 := Lib.hid hm3
          have HG3 := Lib.hid (grown_trans HG1.out hg3)
          have HO3 := Lib.hid (own_nm HO.out hg3 HMB.out)
          have HOL := Lib.hid (fun k hk => HO.out.lt (k := k) hk)
          have HOG := Lib.hid (fun k hk => HO.out.ge (k := k) hk)
          have HR3 := Lib.hid hr3
          have hg3s := hg3.size
          clear hm3 hg3 hr3 HQ HR0 HR1 HO
          by_cases he : e3 = 0
          · subst he
            have HN := Lib.hid (HFA.out.trans (byF_next (HL3.out.trans (by rw [if_pos rfl]))))
            have hal := HAL.out
            go_wp2_with (at_builtin; refine wp_appende linT w.heap.size 23 30 (.agg #[.slice none 0 0, .slice none 0 0]) 48 rfl _ _ rfl Tryz.underlying23 info_lin rfl (NM mb) (QS W1 (LowR w mb)) (.slice AO acc.length cO) acc o3 A3 _ c3 rfl rfl rfl HO3.out (by omega) HR3.out (fun x cs hxx => linT.mono (fun k hk => ⟨QS.ne (fun k hk => hk.2) (fun g hg => by have := HMB.out g hg; omega) hk, fun e => by (have h8 := HOL.out k e.symm; have h9 := HOG.out k e.symm; rcases hk with hk | hk; (have := hk.1.1; omega); omega)⟩) hxx) (by unfold maxLen; omega) (by omega) ?_; rintro v9 w9 ho9 hg9; obtain ⟨A9, c9, hv9⟩ := ho9.form; subst hv9; have HM9 : MetO w9 120 mv mb st3 := HM3.out.row hg9 (fun g hg e => by have := HMB.out g hg; have := HO3.out.ge e; omega); have HG9 := grown_own HG3.out hg9 (fun g e => HO3.out.ge e))
            go_roundw
            case rel => exact ⟨k + 1, _, A9, c9, acc ++ o3, st3, rfl, by omega, by go_num, by rw [List.length_append], (show (acc ++ o3).length ≤ (k + 1) * 101 by rw [List.length_append]; omega), (show ∀ y ∈ acc ++ o3, y.2.length ≤ 100 from fun y hy => by
              rcases List.mem_append.1 hy with h | h
              · exact HAP.out y h
              · exact HM2.out y h), HN.out, ho9, HM9, HG9⟩
            case measure => simp [intOf]; omega
          · have HR := Lib.hid (HBAD.out _ _ _ (HFA.out.trans (byF_bad (HL3.out) he)) he)
            have hne : (e3 != 0) = true := by simp [he]
            clear he
            go_wp2_with fail
            go_ret2
            rw [HR.out]
            exact ⟨_, rfl, DSem.nil _ _ _, HM3.out, HG3.out⟩
        · obtain rfl : k = s.length := by omega
          have HR := Lib.hid (HOK.out st' acc (HF.out.trans (by rw [List.drop_length]; rfl)))
          obtain ⟨AZ, cZ, eZ, rZ⟩ := hO.rd
          injection eZ with z1 z2 z3
          clear z2
          subst z1 z3
          have hal := HAL.out
          have hws := HGW.out.size
          have Q := ofP_c _ AO cO acc W rZ _ rfl (by omega) (fun y hy => by have := HAP.out y hy; omega)
          obtain ⟨o4, b4, h4⟩ : ∃ a b, ofS acc = (a, b) := ⟨_, _, rfl⟩
          rw [h4] at Q HR
          dsimp only at Q HR
          have HQ := Lib.hid Q
          clear Q hO rZ h4 hal
          go_wp2_with fail
          refine HQ.out.mono ?_
          rintro e w9 ⟨v9, rfl, r9, hb9⟩
          have HD := Lib.hid (show DSem 30 w.heap.size w9 v9 o4 from DSem.lower r9.rd hws)
          clear r9
          go_wp2
          go_ret2
          rw [HR.out]
          exact ⟨_, rfl, HD.out, HMW.out.grown hb9, grown_trans HGW.out (bel_grown hb9)⟩
    · have Hu := Lib.hid (byS_arg (st := st) (s := s) (tag := tag) (fun e => by omega))
      rw [hr] at KR
      clear hr
      go_enter Tryz.func11, Tryz.ntmps11
      go_wp2_with fail
      refine KR.out.mono ?_
      rintro e w1 ⟨rfl, hb1⟩
      go_wp2
      go_ret2
      rw [Hu.out]
      exact ⟨_, rfl, DSem.nil _ _ _, HM.out.grown hb1, bel_grown hb1⟩
end Go.Proofs.YtmdcgekiiopohaaGreat
