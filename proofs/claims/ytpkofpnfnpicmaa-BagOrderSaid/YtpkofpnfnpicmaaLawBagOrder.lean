/- BagOrder: one of two words is ahead, or they are the same; what is ahead of what is ahead is ahead. -/
import Derived.Test.YtpkofpnfnpicmaaBag9
import Derived.Test.YtpkofpnfnpicmaaRowLib
namespace Go.Proofs.Ytpkofpnfnpicmaa
open Go.RowKit Go.Cb
set_option maxHeartbeats 4000000 in
set_option maxRecDepth 100000 in
theorem BagOrder_walk (w : World) (A : Option Addr) (ca : Nat) (a : List Int) (ha : Rd intT w All A ca a) (ia : ∀ x ∈ a, inI64 x) (_ : a.length * 8 ≤ 140737488351232)
    (B : Option Addr) (cb : Nat) (b : List Int) (hb : Rd intT w All B cb b) (ib : ∀ x ∈ b, inI64 x) (_ : b.length * 8 ≤ 140737488351232)
    (C : Option Addr) (cc : Nat) (c : List Int) (hc : Rd intT w All C cc c) (ic : ∀ x ∈ c, inI64 x) (_ : c.length * 8 ≤ 140737488351232) :
    Calls Try.prog 10 #[.slice A a.length ca, .slice B b.length cb, .slice C c.length cc] w fun e w' => e = .returned (.bool true) ∧ Bel w w' := by
  obtain ⟨x, hx⟩ : ∃ x, playBag a = x := ⟨_, rfl⟩
  obtain ⟨y, hy⟩ : ∃ y, playBag b = y := ⟨_, rfl⟩
  obtain ⟨z, hz⟩ : ∃ z, playBag c = z := ⟨_, rfl⟩
  have rx := Lib.hid (hx ▸ playBag_right a)
  have ry := Lib.hid (hy ▸ playBag_right b)
  have rz := Lib.hid (hz ▸ playBag_right c)
  have Hx := Lib.hid hx
  have Hy := Lib.hid hy
  have Hz := Lib.hid hz
  clear hx hy hz
  go_enter Try.func10, Try.ntmps10
  go_wp2_with fail
  refine (playBag_c _ _ _ _ _ ha ia _ rfl).mono ?_
  rw [Hx.out]
  rintro e w1 ⟨v1, rfl, ho1, hb1⟩
  obtain ⟨A1, c1, rfl, hr1⟩ := ho1.rd
  go_wp2_with fail
  refine (playBag_c _ _ _ _ _ (hb.to hb1) ib _ rfl).mono ?_
  rw [Hy.out]
  rintro e w2 ⟨v2, rfl, ho2, hb2⟩
  obtain ⟨A2, c2, rfl, hr2⟩ := ho2.rd
  go_wp2_with fail
  refine (playBag_c _ _ _ _ _ (hc.to (hb1.trans hb2)) ic _ rfl).mono ?_
  rw [Hz.out]
  rintro e w3 ⟨v3, rfl, ho3, hb3⟩
  obtain ⟨A3, c3, rfl, hr3⟩ := ho3.rd
  replace hr1 := (hr1.to (hb2.trans hb3)).all
  replace hr2 := (hr2.to hb3).all
  replace hr3 := hr3.all
  have hbb := (hb1.trans hb2).trans hb3
  clear ho1 ho2 ho3 hb1 hb2 hb3
  go_wp2_with fail
  refine (bagCompare_c _ _ _ _ _ _ _ _ _ hr1 hr2 _ _ rfl rfl).mono ?_
  rintro e w' ⟨rfl, rfl⟩
  go_wp2_with fail
  refine (bagCompare_c _ _ _ _ _ _ _ _ _ hr2 hr1 _ _ rfl rfl).mono ?_
  rw [cmpB_neg x y]
  rintro e w' ⟨rfl, rfl⟩
  obtain ⟨p, hp⟩ : ∃ p, cmpB x y = p := ⟨_, rfl⟩
  obtain ⟨q, hq⟩ : ∃ q, cmpB y z = q := ⟨_, rfl⟩
  obtain ⟨r, hr⟩ : ∃ r, cmpB x z = r := ⟨_, rfl⟩
  have Hp := Lib.hid hp
  have Hq := Lib.hid hq
  have Hr := Lib.hid hr
  rw [hp]
  obtain ⟨p0, p1⟩ := cmpB_range x y
  rw [hp] at p0 p1
  have hzero := cmpB_zero rx.out ry.out
  have htr : p ≤ 0 → q ≤ 0 → r ≤ 0 := by rw [← hp, ← hq, ← hr]; exact cmpB_trans rx.out ry.out rz.out
  have hlen : x.length ≠ y.length → (p < 0 ↔ x.length < y.length) := by rw [← hp]; exact cmpB_len rx.out ry.out
  rw [hp] at hzero
  have Hzero := Lib.hid hzero
  have Hlen := Lib.hid hlen
  have Htr := Lib.hid htr
  clear hp hq hr hzero hlen htr
  have hsame : decide (x = y) = (p == 0) := by
    rw [Bool.eq_iff_iff, beq_iff_eq, decide_eq_true_iff]
    exact Hzero.out.symm
  have Hsame := Lib.hid hsame
  clear hsame
  have lx := hr1.lenMax
  have ly := hr2.lenMax
  go_wp2_with fail
  refine (same03_c _ _ _ _ _ _ _ _ _ hr1 hr2 _ _ rfl rfl).mono ?_
  rw [Hsame.out]
  rintro e w4 ⟨rfl, hb4⟩
  have cmp1 := bagCompare_c _ _ _ _ _ _ _ _ w4 (hr2.to hb4) (hr3.to hb4) _ _ rfl rfl
  have cmp2 := bagCompare_c _ _ _ _ _ _ _ _ w4 (hr1.to hb4) (hr3.to hb4) _ _ rfl rfl
  rw [Hq.out] at cmp1
  rw [Hr.out] at cmp2
  have C1 := Lib.hid cmp1
  have C2 := Lib.hid cmp2
  clear cmp1 cmp2
  have hbb4 := hbb.trans hb4
  clear hbb hb4
  have hcase : p = -1 ∨ p = 0 ∨ p = 1 := by omega
  rcases hcase with rfl | rfl | rfl
  · by_cases hq : q ≤ 0
    · have hr := Htr.out (by omega) hq
      go_wp2_with fail
      refine C1.out.mono ?_
      rintro e w' ⟨rfl, rfl⟩
      go_wp2_with fail
      refine C2.out.mono ?_
      rintro e w' ⟨rfl, rfl⟩
      by_cases hl : x.length = y.length
      · have hl2 : (x.length == y.length) = true := by simpa using hl
        have hl3 : ((x.length : Int) == (y.length : Int)) = true := by rw [beq_iff_eq]; omega
        clear hl
        go_wp2_with fail
        refine (wakes03 _).mono ?_
        rintro e w5 ⟨rfl, hb5⟩
        go_wp2
        go_ret
        exact ⟨rfl, hbb4.trans hb5⟩
      · have hll := Hlen.out hl
        have hl2 : (x.length == y.length) = false := by simpa using hl
        have hl3 : ((x.length : Int) == (y.length : Int)) = false := by rw [beq_eq_false_iff_ne]; omega
        clear hl
        have hl4 : decide ((x.length : Int) < (y.length : Int)) = decide ((-1 : Int) < 0) := by
          rw [decide_eq_decide]; have := hll; omega
        have hl5 : decide (x.length < y.length) = decide ((-1 : Int) < 0) := by
          rw [decide_eq_decide]; exact hll.symm
        clear hll
        go_wp2_with fail
        refine (wakes03 _).mono ?_
        rintro e w5 ⟨rfl, hb5⟩
        go_wp2
        go_ret
        exact ⟨rfl, hbb4.trans hb5⟩
    · go_wp2_with fail
      refine C1.out.mono ?_
      rintro e w' ⟨rfl, rfl⟩
      by_cases hl : x.length = y.length
      · have hl2 : (x.length == y.length) = true := by simpa using hl
        have hl3 : ((x.length : Int) == (y.length : Int)) = true := by rw [beq_iff_eq]; omega
        clear hl
        go_wp2_with fail
        refine (wakes03 _).mono ?_
        rintro e w5 ⟨rfl, hb5⟩
        go_wp2
        go_ret
        exact ⟨rfl, hbb4.trans hb5⟩
      · have hll := Hlen.out hl
        have hl2 : (x.length == y.length) = false := by simpa using hl
        have hl3 : ((x.length : Int) == (y.length : Int)) = false := by rw [beq_eq_false_iff_ne]; omega
        clear hl
        have hl4 : decide ((x.length : Int) < (y.length : Int)) = decide ((-1 : Int) < 0) := by
          rw [decide_eq_decide]; have := hll; omega
        have hl5 : decide (x.length < y.length) = decide ((-1 : Int) < 0) := by
          rw [decide_eq_decide]; exact hll.symm
        clear hll
        go_wp2_with fail
        refine (wakes03 _).mono ?_
        rintro e w5 ⟨rfl, hb5⟩
        go_wp2
        go_ret
        exact ⟨rfl, hbb4.trans hb5⟩
  · by_cases hq : q ≤ 0
    · have hr := Htr.out (by omega) hq
      go_wp2_with fail
      refine C1.out.mono ?_
      rintro e w' ⟨rfl, rfl⟩
      go_wp2_with fail
      refine C2.out.mono ?_
      rintro e w' ⟨rfl, rfl⟩
      by_cases hl : x.length = y.length
      · have hl2 : (x.length == y.length) = true := by simpa using hl
        have hl3 : ((x.length : Int) == (y.length : Int)) = true := by rw [beq_iff_eq]; omega
        clear hl
        go_wp2_with fail
        refine (wakes03 _).mono ?_
        rintro e w5 ⟨rfl, hb5⟩
        go_wp2
        go_ret
        exact ⟨rfl, hbb4.trans hb5⟩
      · have hll := Hlen.out hl
        have hl2 : (x.length == y.length) = false := by simpa using hl
        have hl3 : ((x.length : Int) == (y.length : Int)) = false := by rw [beq_eq_false_iff_ne]; omega
        clear hl
        have hl4 : decide ((x.length : Int) < (y.length : Int)) = decide ((0 : Int) < 0) := by
          rw [decide_eq_decide]; have := hll; omega
        have hl5 : decide (x.length < y.length) = decide ((0 : Int) < 0) := by
          rw [decide_eq_decide]; exact hll.symm
        clear hll
        go_wp2_with fail
        refine (wakes03 _).mono ?_
        rintro e w5 ⟨rfl, hb5⟩
        go_wp2
        go_ret
        exact ⟨rfl, hbb4.trans hb5⟩
    · go_wp2_with fail
      refine C1.out.mono ?_
      rintro e w' ⟨rfl, rfl⟩
      by_cases hl : x.length = y.length
      · have hl2 : (x.length == y.length) = true := by simpa using hl
        have hl3 : ((x.length : Int) == (y.length : Int)) = true := by rw [beq_iff_eq]; omega
        clear hl
        go_wp2_with fail
        refine (wakes03 _).mono ?_
        rintro e w5 ⟨rfl, hb5⟩
        go_wp2
        go_ret
        exact ⟨rfl, hbb4.trans hb5⟩
      · have hll := Hlen.out hl
        have hl2 : (x.length == y.length) = false := by simpa using hl
        have hl3 : ((x.length : Int) == (y.length : Int)) = false := by rw [beq_eq_false_iff_ne]; omega
        clear hl
        have hl4 : decide ((x.length : Int) < (y.length : Int)) = decide ((0 : Int) < 0) := by
          rw [decide_eq_decide]; have := hll; omega
        have hl5 : decide (x.length < y.length) = decide ((0 : Int) < 0) := by
          rw [decide_eq_decide]; exact hll.symm
        clear hll
        go_wp2_with fail
        refine (wakes03 _).mono ?_
        rintro e w5 ⟨rfl, hb5⟩
        go_wp2
        go_ret
        exact ⟨rfl, hbb4.trans hb5⟩
  · by_cases hl : x.length = y.length
    · have hl2 : (x.length == y.length) = true := by simpa using hl
      have hl3 : ((x.length : Int) == (y.length : Int)) = true := by rw [beq_iff_eq]; omega
      clear hl
      go_wp2_with fail
      refine (wakes03 _).mono ?_
      rintro e w5 ⟨rfl, hb5⟩
      go_wp2
      go_ret
      exact ⟨rfl, hbb4.trans hb5⟩
    · have hll := Hlen.out hl
      have hl2 : (x.length == y.length) = false := by simpa using hl
      have hl3 : ((x.length : Int) == (y.length : Int)) = false := by rw [beq_eq_false_iff_ne]; omega
      clear hl
      have hl4 : decide ((x.length : Int) < (y.length : Int)) = decide ((1 : Int) < 0) := by
        rw [decide_eq_decide]; have := hll; omega
      have hl5 : decide (x.length < y.length) = decide ((1 : Int) < 0) := by
        rw [decide_eq_decide]; exact hll.symm
      clear hll
      go_wp2_with fail
      refine (wakes03 _).mono ?_
      rintro e w5 ⟨rfl, hb5⟩
      go_wp2
      go_ret
      exact ⟨rfl, hbb4.trans hb5⟩
end Go.Proofs.Ytpkofpnfnpicmaa
namespace Go.Proofs.Ytpkofpnfnpicmaa.rowBagOrder
open Go.ChangeShapes Go.WideShapes Go.ChangeAt Go.RowKit Go.Cb
open Go.ChangeMaps (open_string shut_string)
theorem own : ownKnob Try.prog.godebug = none := by kernel_rfl
theorem laidOut : laidOutB Try.prog = true := by kernel_rfl
set_option maxRecDepth 100000 in
theorem lifted (os : Os) (started : os.Started) (H : Type) (enc : TypeId × Value → H) :
    ReturnsInHanded {} Try.checked os 10 .any (Rows.bagOrderSpec.pre6 enc Try.prog Try.f10 Rows.bagOrderRow.domain false) (Rows.bagOrderSpec.post enc Try.prog Try.f10 false true false false) := by
  refine returnsInHanded_of_change_sized (C := Try.checked) own started (by kernel_rfl) Try.func10
    (ChangeSpec.witness6 (enc := enc) (C := Try.checked) false ⟨#[], #[.slice none 0 0, .slice none 0 0, .slice none 0 0], []⟩ 8 (by kernel_rfl) (by kernel_rfl) (by kernel_rfl) (by kernel_rfl)) ?_
  intro W base args ds gs before hval0 hW hcnd hsz0 _
  have hsz : (DataW.weightsEach Try.prog (Try.f10.params.toList ++ Rows.bagOrderSpec.plain.varTypes Try.prog) (ds ++ gs)).all (· ≤ reachBytes) = true := hsz0
  have hval : ∀ (j : Nat) t v, Try.f10.params[j]? = some t → args[j]? = some v → Value.okWide Try.prog W .any base t v := hval0
  have hW' := hW
  obtain ⟨p, q, hA0, hV, rfl, hfz, hnd⟩ := hW
  have hA : DataW.TrodAll enc Try.prog W 0 (fun _ => true) true Try.f10.params.toList args.toList ds p := hA0
  rw [Try.params10] at hA hval hsz
  obtain ⟨v0, vs0, d0, ds0, p0, q0, hargs, rfl, rfl, h0, r0⟩ := trodAll_cons hA
  obtain ⟨v1, vs1, d1, ds1, p1, q1, rfl, rfl, rfl, h1, r1⟩ := trodAll_cons r0
  obtain ⟨v2, vs2, d2, ds2, p2, q2, rfl, rfl, rfl, h2, r2⟩ := trodAll_cons r1
  obtain ⟨rfl, rfl, rfl⟩ := trodAll_nil r2
  obtain rfl : args = #[v0, v1, v2] := by cases args; simp_all
  obtain ⟨rfl, rfl⟩ := trodVars_none hV
  obtain ⟨a0, len0, cap0, rfl⟩ := okWide_slice Try.underlying22 (hval 0 22 v0 rfl rfl)
  have k0 := h0
  have lt0 : ∀ x ∈ p0, x.block < W.heap.size := by obtain ⟨m, hm⟩ := k0; exact DataW.trod_lt m _ _ _ hm
  obtain ⟨l0, rfl, R0, wf0, sz0⟩ := open_rd hsz (j := 0) (t := 22) rfl rfl Try.underlying22 Try.underlying3 (by kernel_rfl) (by kernel_rfl) h0
  obtain ⟨a1, len1, cap1, rfl⟩ := okWide_slice Try.underlying22 (hval 1 22 v1 rfl rfl)
  have k1 := h1
  have lt1 : ∀ x ∈ p1, x.block < W.heap.size := by obtain ⟨m, hm⟩ := k1; exact DataW.trod_lt m _ _ _ hm
  obtain ⟨l1, rfl, R1, wf1, sz1⟩ := open_rd hsz (j := 1) (t := 22) rfl rfl Try.underlying22 Try.underlying3 (by kernel_rfl) (by kernel_rfl) h1
  obtain ⟨a2, len2, cap2, rfl⟩ := okWide_slice Try.underlying22 (hval 2 22 v2 rfl rfl)
  have k2 := h2
  have lt2 : ∀ x ∈ p2, x.block < W.heap.size := by obtain ⟨m, hm⟩ := k2; exact DataW.trod_lt m _ _ _ hm
  obtain ⟨l2, rfl, R2, wf2, sz2⟩ := open_rd hsz (j := 2) (t := 22) rfl rfl Try.underlying22 Try.underlying3 (by kernel_rfl) (by kernel_rfl) h2
  clear hA0 hval0 hsz0 hsz
  refine (BagOrder_walk W a0 cap0 l0 R0 (fun x hx => inI64_wf (wf0 x hx)) sz0 a1 cap1 l1 R1 (fun x hx => inI64_wf (wf1 x hx)) sz1 a2 cap2 l2 R2 (fun x hx => inI64_wf (wf2 x hx)) sz2).mono fun e W' ⟨he, bel⟩ => ?_
  subst he
  exact ⟨_, rfl, _, _, _, [], _, [], hW', trodAll_mk1 (shut_bool Try.underlying4 _), (trodAll_cons_mk (Below.trod laidOut (by kernel_rfl) (of_decide_eq_true (by kernel_rfl)) k0 bel.out lt0) (trodAll_cons_mk (Below.trod laidOut (by kernel_rfl) (of_decide_eq_true (by kernel_rfl)) k1 bel.out lt1) (trodAll_cons_mk (Below.trod laidOut (by kernel_rfl) (of_decide_eq_true (by kernel_rfl)) k2 bel.out lt2) trodAll_mk0))), rfl, bel.out.frame _, fun h => by cases h⟩
theorem over : Rows.bagOrderRow.holds Try.pinned (OpenSpec.ofChange Rows.bagOrderSpec) :=
  OpenClaim.holds_of_wide 10 Try.f10 rfl rfl rfl rfl rfl rfl rfl ⟨rfl, rfl, rfl, rfl, rfl⟩ rfl rfl rfl rfl rfl (by kernel_rfl) Try.func10 (by kernel_rfl)
    (of_decide_eq_true (by kernel_rfl)) (by unfold Func.isWrapper; first | (rw [if_pos (by decide +kernel)]; kernel_rfl) | (rw [if_neg (by decide +kernel)]; exact ⟨rfl, rfl⟩))
    (fun os started H enc _ => lifted os started H enc)
end Go.Proofs.Ytpkofpnfnpicmaa.rowBagOrder
namespace Go.Proofs.Ytpkofpnfnpicmaa
theorem BagOrder_holds : Rows.BagOrderSaid := rowBagOrder.over
#print axioms BagOrder_holds
end Go.Proofs.Ytpkofpnfnpicmaa
