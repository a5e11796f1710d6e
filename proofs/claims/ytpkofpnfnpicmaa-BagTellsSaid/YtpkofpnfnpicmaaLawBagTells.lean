/- BagTells: any numbers as a word, any two of them: the program tells of them what the document tells. -/
import Derived.Test.YtpkofpnfnpicmaaBag9
import Derived.Test.YtpkofpnfnpicmaaRowLib
namespace Go.Proofs.Ytpkofpnfnpicmaa
open Go.RowKit Go.Cb
set_option maxHeartbeats 4000000 in
set_option maxRecDepth 100000 in
theorem BagTells_walk (w : World) (A : Option Addr) (ca : Nat) (a : List Int) (ha : Rd intT w All A ca a) (_ : ∀ x ∈ a, inI64 x) (sa : a.length * 8 ≤ 140737488351232)
    (B : Option Addr) (cb : Nat) (b : List Int) (hb : Rd intT w All B cb b) (_ : ∀ x ∈ b, inI64 x) (sb : b.length * 8 ≤ 140737488351232) :
    Calls Try.prog 14 #[.slice A a.length ca, .slice B b.length cb] w fun e w' => e = .returned (.bool true) ∧ Bel w w' := by
  obtain ⟨x, hx⟩ : ∃ x, a.take 20 = x := ⟨_, rfl⟩
  obtain ⟨y, hy⟩ : ∃ y, b.take 20 = y := ⟨_, rfl⟩
  have lx : x.length ≤ 20 := by rw [← hx, List.length_take]; omega
  have ly : y.length ≤ 20 := by rw [← hy, List.length_take]; omega
  have Hx := Lib.hid hx
  have Hy := Lib.hid hy
  clear hx hy
  go_enter Try.func14, Try.ntmps14
  go_wp2_with fail
  refine (cutInt_c _ _ _ _ 20 _ ha _ rfl (by omega) _ rfl).mono ?_
  rw [Hx.out]
  rintro e w1 ⟨v1, rfl, ho1, hb1⟩
  obtain ⟨A1, c1, rfl, hr1⟩ := ho1.rd
  go_wp2_with fail
  refine (cutInt_c _ _ _ _ 20 _ (hb.to hb1) _ rfl (by omega) _ rfl).mono ?_
  rw [Hy.out]
  rintro e w2 ⟨v2, rfl, ho2, hb2⟩
  obtain ⟨A2, c2, rfl, hr2⟩ := ho2.rd
  replace hr1 := (hr1.to hb2).all
  replace hr2 := hr2.all
  have hbb := hb1.trans hb2
  clear ho1 ho2 hb1 hb2
  go_wp2_with fail
  refine (bagAdd_c _ _ _ _ _ _ _ _ hr1 hr2 _ _ rfl rfl).mono ?_
  rintro e w3 ⟨v3, rfl, ho3, hb3⟩
  obtain ⟨A3, c3, rfl, hr3⟩ := ho3.rd
  go_wp2_with fail
  refine (refAddBag_c _ _ _ _ _ _ _ _ _ (hr1.to hb3) (hr2.to hb3) _ _ rfl rfl).mono ?_
  rintro e w4 ⟨v4, rfl, ho4, hb4⟩
  obtain ⟨A4, c4, rfl, hr4⟩ := ho4.rd
  replace hr1 := hr1.to (hb3.trans hb4)
  replace hr2 := hr2.to (hb3.trans hb4)
  replace hr3 := (hr3.to hb4).all
  replace hr4 := hr4.all
  replace hbb := (hbb.trans hb3).trans hb4
  clear ho3 ho4 hb3 hb4
  go_wp2_with fail
  refine (bagSub_c _ _ _ _ _ _ _ _ _ hr1 hr2 _ _ rfl rfl).mono ?_
  rintro e w5 ⟨v5, rfl, ho5, hb5⟩
  obtain ⟨A5, c5, rfl, hr5⟩ := ho5.rd
  go_wp2_with fail
  refine (refSub_c _ _ _ _ _ _ _ _ _ (hr1.to hb5) (hr2.to hb5) _ _ rfl rfl).mono ?_
  rintro e w6 ⟨v6, rfl, ho6, hb6⟩
  obtain ⟨A6, c6, rfl, hr6⟩ := ho6.rd
  replace hr1 := hr1.to (hb5.trans hb6)
  replace hr2 := hr2.to (hb5.trans hb6)
  replace hr3 := hr3.to (hb5.trans hb6)
  replace hr4 := hr4.to (hb5.trans hb6)
  replace hr5 := (hr5.to hb6).all
  replace hr6 := hr6.all
  replace hbb := (hbb.trans hb5).trans hb6
  clear ho5 ho6 hb5 hb6
  go_wp2_with fail
  refine (total_c _ _ _ _ _ hr1 _ rfl).mono ?_
  rintro e w' ⟨rfl, rfl⟩
  go_wp2_with fail
  refine (refTotal_c _ _ _ _ _ hr1 _ rfl).mono ?_
  rintro e w' ⟨rfl, rfl⟩
  go_wp2_with fail
  refine (right_c _ _ _ _ _ hr1 _ rfl).mono ?_
  rintro e w' ⟨rfl, rfl⟩
  go_wp2_with fail
  refine (refRight_c _ _ _ _ _ hr1 _ rfl).mono ?_
  rintro e w' ⟨rfl, rfl⟩
  go_wp2_with fail
  refine (norm_c _ _ _ _ _ hr1 _ rfl (by omega)).mono ?_
  rintro e w7 ⟨v7, rfl, ho7, hb7⟩
  obtain ⟨A7, c7, rfl, hr7⟩ := ho7.rd
  go_wp2_with fail
  refine (refNorm_c _ _ _ _ _ (hr1.to hb7) _ rfl (by omega)).mono ?_
  rintro e w8 ⟨v8, rfl, ho8, hb8⟩
  obtain ⟨A8, c8, rfl, hr8⟩ := ho8.rd
  replace hr1 := hr1.to (hb7.trans hb8)
  replace hr2 := hr2.to (hb7.trans hb8)
  replace hr3 := hr3.to (hb7.trans hb8)
  replace hr4 := hr4.to (hb7.trans hb8)
  replace hr5 := hr5.to (hb7.trans hb8)
  replace hr6 := hr6.to (hb7.trans hb8)
  replace hr7 := (hr7.to hb8).all
  replace hr8 := hr8.all
  replace hbb := (hbb.trans hb7).trans hb8
  clear ho7 ho8 hb7 hb8
  go_wp2_with fail
  refine (same03_c _ _ _ _ _ _ _ _ _ hr7 hr8 _ _ rfl rfl).mono ?_
  rw [decide_eq_true (rfl : normB x = normB x)]
  rintro e w9 ⟨rfl, hb9⟩
  replace hr1 := hr1.to hb9
  replace hr2 := hr2.to hb9
  replace hr3 := hr3.to hb9
  replace hr4 := hr4.to hb9
  replace hr5 := hr5.to hb9
  replace hr6 := hr6.to hb9
  replace hbb := hbb.trans hb9
  clear hr7 hr8 hb9
  go_wp2_with fail
  refine (same03_c _ _ _ _ _ _ _ _ _ hr3 hr4 _ _ rfl rfl).mono ?_
  rw [decide_eq_true (rfl : (addB x y).1 = (addB x y).1)]
  rintro e w10 ⟨rfl, hb10⟩
  replace hr1 := hr1.to hb10
  replace hr2 := hr2.to hb10
  replace hr5 := hr5.to hb10
  replace hr6 := hr6.to hb10
  replace hbb := hbb.trans hb10
  clear hr3 hr4 hb10
  go_wp2_with fail
  refine (same03_c _ _ _ _ _ _ _ _ _ hr5 hr6 _ _ rfl rfl).mono ?_
  rw [decide_eq_true (rfl : (subB x y).1 = (subB x y).1)]
  rintro e w11 ⟨rfl, hb11⟩
  replace hr1 := hr1.to hb11
  replace hr2 := hr2.to hb11
  replace hbb := hbb.trans hb11
  clear hr5 hr6 hb11
  go_wp2_with fail
  refine (bagCompare_c _ _ _ _ _ _ _ _ _ hr1 hr2 _ _ rfl rfl).mono ?_
  rintro e w' ⟨rfl, rfl⟩
  go_wp2_with fail
  refine (refCompare_c _ _ _ _ _ _ _ _ _ hr1 hr2 _ _ rfl rfl).mono ?_
  rintro e w12 ⟨rfl, hb12⟩
  go_wp2_with fail
  refine (wakes03 _).mono ?_
  rintro e w13 ⟨rfl, hb13⟩
  go_wp2
  go_ret
  exact ⟨rfl, (hbb.trans hb12).trans hb13⟩
end Go.Proofs.Ytpkofpnfnpicmaa
namespace Go.Proofs.Ytpkofpnfnpicmaa.rowBagTells
open Go.ChangeShapes Go.WideShapes Go.ChangeAt Go.RowKit Go.Cb
open Go.ChangeMaps (open_string shut_string)
theorem own : ownKnob Try.prog.godebug = none := by kernel_rfl
theorem laidOut : laidOutB Try.prog = true := by kernel_rfl
set_option maxRecDepth 100000 in
theorem lifted (os : Os) (started : os.Started) (H : Type) (enc : TypeId × Value → H) :
    ReturnsInHanded {} Try.checked os 14 .any (Rows.bagTellsSpec.pre6 enc Try.prog Try.f14 Rows.bagTellsRow.domain false) (Rows.bagTellsSpec.post enc Try.prog Try.f14 false true false false) := by
  refine returnsInHanded_of_change_sized (C := Try.checked) own started (by kernel_rfl) Try.func14
    (ChangeSpec.witness6 (enc := enc) (C := Try.checked) false ⟨#[], #[.slice none 0 0, .slice none 0 0], []⟩ 8 (by kernel_rfl) (by kernel_rfl) (by kernel_rfl) (by kernel_rfl)) ?_
  intro W base args ds gs before hval0 hW hcnd hsz0 _
  have hsz : (DataW.weightsEach Try.prog (Try.f14.params.toList ++ Rows.bagTellsSpec.plain.varTypes Try.prog) (ds ++ gs)).all (· ≤ reachBytes) = true := hsz0
  have hval : ∀ (j : Nat) t v, Try.f14.params[j]? = some t → args[j]? = some v → Value.okWide Try.prog W .any base t v := hval0
  have hW' := hW
  obtain ⟨p, q, hA0, hV, rfl, hfz, hnd⟩ := hW
  have hA : DataW.TrodAll enc Try.prog W 0 (fun _ => true) true Try.f14.params.toList args.toList ds p := hA0
  rw [Try.params14] at hA hval hsz
  obtain ⟨v0, vs0, d0, ds0, p0, q0, hargs, rfl, rfl, h0, r0⟩ := trodAll_cons hA
  obtain ⟨v1, vs1, d1, ds1, p1, q1, rfl, rfl, rfl, h1, r1⟩ := trodAll_cons r0
  obtain ⟨rfl, rfl, rfl⟩ := trodAll_nil r1
  obtain rfl : args = #[v0, v1] := by cases args; simp_all
  obtain ⟨rfl, rfl⟩ := trodVars_none hV
  obtain ⟨a0, len0, cap0, rfl⟩ := okWide_slice Try.underlying22 (hval 0 22 v0 rfl rfl)
  have k0 := h0
  have lt0 : ∀ x ∈ p0, x.block < W.heap.size := by obtain ⟨m, hm⟩ := k0; exact DataW.trod_lt m _ _ _ hm
  obtain ⟨l0, rfl, R0, wf0, sz0⟩ := open_rd hsz (j := 0) (t := 22) rfl rfl Try.underlying22 Try.underlying3 (by kernel_rfl) (by kernel_rfl) h0
  obtain ⟨a1, len1, cap1, rfl⟩ := okWide_slice Try.underlying22 (hval 1 22 v1 rfl rfl)
  have k1 := h1
  have lt1 : ∀ x ∈ p1, x.block < W.heap.size := by obtain ⟨m, hm⟩ := k1; exact DataW.trod_lt m _ _ _ hm
  obtain ⟨l1, rfl, R1, wf1, sz1⟩ := open_rd hsz (j := 1) (t := 22) rfl rfl Try.underlying22 Try.underlying3 (by kernel_rfl) (by kernel_rfl) h1
  clear hA0 hval0 hsz0 hsz
  refine (BagTells_walk W a0 cap0 l0 R0 (fun x hx => inI64_wf (wf0 x hx)) sz0 a1 cap1 l1 R1 (fun x hx => inI64_wf (wf1 x hx)) sz1).mono fun e W' ⟨he, bel⟩ => ?_
  subst he
  exact ⟨_, rfl, _, _, _, [], _, [], hW', trodAll_mk1 (shut_bool Try.underlying4 _), (trodAll_cons_mk (Below.trod laidOut (by kernel_rfl) (of_decide_eq_true (by kernel_rfl)) k0 bel.out lt0) (trodAll_cons_mk (Below.trod laidOut (by kernel_rfl) (of_decide_eq_true (by kernel_rfl)) k1 bel.out lt1) trodAll_mk0)), rfl, bel.out.frame _, fun h => by cases h⟩
theorem over : Rows.bagTellsRow.holds Try.pinned (OpenSpec.ofChange Rows.bagTellsSpec) :=
  OpenClaim.holds_of_wide 14 Try.f14 rfl rfl rfl rfl rfl rfl rfl ⟨rfl, rfl, rfl, rfl, rfl⟩ rfl rfl rfl rfl rfl (by kernel_rfl) Try.func14 (by kernel_rfl)
    (of_decide_eq_true (by kernel_rfl)) (by unfold Func.isWrapper; first | (rw [if_pos (by decide +kernel)]; kernel_rfl) | (rw [if_neg (by decide +kernel)]; exact ⟨rfl, rfl⟩))
    (fun os started H enc _ => lifted os started H enc)
end Go.Proofs.Ytpkofpnfnpicmaa.rowBagTells
namespace Go.Proofs.Ytpkofpnfnpicmaa
theorem BagTells_holds : Rows.BagTellsSaid := rowBagTells.over
#print axioms BagTells_holds
end Go.Proofs.Ytpkofpnfnpicmaa
