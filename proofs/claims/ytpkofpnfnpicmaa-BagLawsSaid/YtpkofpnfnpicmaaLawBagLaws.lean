/- BagLaws: words together are so in whatever order; what was put to it may be taken away. -/
import Derived.Test.YtpkofpnfnpicmaaBag9
import Derived.Test.YtpkofpnfnpicmaaRowLib
namespace Go.Proofs.Ytpkofpnfnpicmaa
open Go.RowKit Go.Cb
theorem small_add {a b : List Int} {m k : Int} (ha : rightB a = true) (hb : rightB b = true) (h1 : ∀ i, a.getD i 0 ≤ m) (h2 : ∀ i, b.getD i 0 ≤ k) (h : m + k ≤ far) : ∃ r, addB a b = (r, true) ∧ rightB r = true ∧ (∀ i, r.getD i 0 ≤ m + k) := by
  have h3 := addB_small ha hb (fun i => by have := h1 i; have := h2 i; omega)
  refine ⟨(addB a b).1, Prod.ext rfl h3, addB_right h3, fun i => ?_⟩
  rw [addB_getD h3]
  have := h1 i; have := h2 i; omega
theorem play_getD (l : List Int) (i : Nat) : (playBag l).getD i 0 ≤ 40 := by
  by_cases hi : i < (playBag l).length
  · rw [getD_of hi]; have := playBag_small l _ (List.getElem_mem hi); omega
  · rw [getD_out (by omega)]; omega
theorem total_of {a : List Int} {s : Int} (h : rightB a = true) (hs : a.sum = s) (h2 : s ≤ far) : totalB a = (s, true) := by rw [← hs] at h2 ⊢; exact totalB_yes h h2
set_option maxHeartbeats 4000000 in
set_option maxRecDepth 100000 in
theorem BagLaws_walk (w : World) (A : Option Addr) (ca : Nat) (a : List Int) (ha : Rd intT w All A ca a) (ia : ∀ x ∈ a, inI64 x) (_ : a.length * 8 ≤ 140737488351232)
    (B : Option Addr) (cb : Nat) (b : List Int) (hb : Rd intT w All B cb b) (ib : ∀ x ∈ b, inI64 x) (_ : b.length * 8 ≤ 140737488351232)
    (C : Option Addr) (cc : Nat) (c : List Int) (hc : Rd intT w All C cc c) (ic : ∀ x ∈ c, inI64 x) (_ : c.length * 8 ≤ 140737488351232) :
    Calls Try.prog 13 #[.slice A a.length ca, .slice B b.length cb, .slice C c.length cc] w fun e w' => e = .returned (.bool true) ∧ Bel w w' := by
  obtain ⟨x, hx⟩ : ∃ x, playBag a = x := ⟨_, rfl⟩
  obtain ⟨y, hy⟩ : ∃ y, playBag b = y := ⟨_, rfl⟩
  obtain ⟨z, hz⟩ : ∃ z, playBag c = z := ⟨_, rfl⟩
  have rx : rightB x = true := hx ▸ playBag_right a
  have ry : rightB y = true := hy ▸ playBag_right b
  have rz : rightB z = true := hz ▸ playBag_right c
  have gx : ∀ i, x.getD i 0 ≤ 40 := hx ▸ play_getD a
  have gy : ∀ i, y.getD i 0 ≤ 40 := hy ▸ play_getD b
  have gz : ∀ i, z.getD i 0 ≤ 40 := hz ▸ play_getD c
  obtain ⟨xy, e1, rxy, gxy⟩ := small_add rx ry gx gy (by unfold far; omega)
  obtain ⟨yz, e2, ryz, gyz⟩ := small_add ry rz gy gz (by unfold far; omega)
  obtain ⟨l, e3, rl, _⟩ := small_add rxy rz gxy gz (by unfold far; omega)
  obtain ⟨l2, e4, rl2, _⟩ := small_add rx ryz gx gyz (by unfold far; omega)
  have e0 : addB y x = (xy, true) := by rw [addB_comm]; exact e1
  have ell : l = l2 := by
    have h1 : (addB x y).2 = true := by rw [e1]
    have := addB_assoc (a := x) (b := y) (c := z) h1 (by rw [e1, e3]) (by rw [e2]) (by rw [e2, e4])
    rw [e1, e2, e3, e4] at this
    exact this
  subst ell
  have eb : subB xy y = (x, true) := by
    have := subB_add rx ry (by rw [e1])
    rwa [e1] at this
  have sx : 0 ≤ x.sum ∧ x.sum ≤ 40 * x.length := sum_small (hx ▸ playBag_small a) (by omega)
  have sy : 0 ≤ y.sum ∧ y.sum ≤ 40 * y.length := sum_small (hy ▸ playBag_small b) (by omega)
  have lx := right_len rx
  have ly := right_len ry
  have sxy : xy.sum = x.sum + y.sum := by have := addB_sum (a := x) (b := y) (by rw [e1]); rwa [e1] at this
  obtain ⟨n, hn⟩ : ∃ n, x.sum = n := ⟨_, rfl⟩
  obtain ⟨m, hm⟩ : ∃ m, y.sum = m := ⟨_, rfl⟩
  rw [hn] at sx sxy
  rw [hm] at sy sxy
  have t1 := Lib.hid (total_of rx hn (by unfold far; omega))
  have t2 := Lib.hid (total_of ry hm (by unfold far; omega))
  have t3 := Lib.hid (total_of rxy sxy (by unfold far; omega))
  have n0 := sx.1
  have m0 := sy.1
  have n1 : n ≤ 480 := by omega
  have m1 : m ≤ 480 := by omega
  have E0 := Lib.hid e0
  have E1 := Lib.hid e1
  have E2 := Lib.hid e2
  have E3 := Lib.hid e3
  have E4 := Lib.hid e4
  have Eb := Lib.hid eb
  have Rxy := Lib.hid rxy
  have Hx := Lib.hid hx
  have Hy := Lib.hid hy
  have Hz := Lib.hid hz
  clear hx hy hz e0 e1 e2 e3 e4 eb sxy hn hm rx ry rz gx gy gz rxy ryz rl rl2 gxy gyz sx sy lx ly
  go_enter Try.func13, Try.ntmps13
  go_wp2_with fail
  refine (playBag_c _ _ _ _ _ ha ia _ rfl).mono ?_
  rw [Hx.out]
  rintro e w1 ⟨v1, rfl, ho1, hb1⟩
  obtain ⟨A1, c1, rfl, hr1⟩ := ho1.rd
  go_wp2_with fail
  refine (playBag_c _ _ _ _ _ (hb.to hb1) ib _ rfl).mono ?_
  rw [Hy.out]
  rintro e w2 ⟨v2, rfl, ho2, hb2⟩
  obtain ⟨A2, c2, rfl, hr2⟩ := ho2.rd
  go_wp2_with fail
  refine (playBag_c _ _ _ _ _ (hc.to (hb1.trans hb2)) ic _ rfl).mono ?_
  rw [Hz.out]
  rintro e w3 ⟨v3, rfl, ho3, hb3⟩
  obtain ⟨A3, c3, rfl, hr3⟩ := ho3.rd
  replace hr1 := (hr1.to (hb2.trans hb3)).all
  replace hr2 := (hr2.to hb3).all
  replace hr3 := hr3.all
  have hbb := (hb1.trans hb2).trans hb3
  clear ho1 ho2 ho3 hb1 hb2 hb3
  go_wp2_with fail
  refine (bagAdd_c _ _ _ _ _ _ _ _ hr1 hr2 _ _ rfl rfl).mono ?_
  rw [E1.out]
  rintro e w4 ⟨v4, rfl, ho4, hb4⟩
  obtain ⟨A4, c4, rfl, hr4⟩ := ho4.rd
  replace hr1 := hr1.to hb4
  replace hr2 := hr2.to hb4
  replace hr3 := hr3.to hb4
  replace hr4 := hr4.all
  replace hbb := hbb.trans hb4
  clear ho4 hb4
  go_wp2_with fail
  refine (bagAdd_c _ _ _ _ _ _ _ _ hr2 hr1 _ _ rfl rfl).mono ?_
  rw [E0.out]
  rintro e w5 ⟨v5, rfl, ho5, hb5⟩
  obtain ⟨A5, c5, rfl, hr5⟩ := ho5.rd
  replace hr1 := hr1.to hb5
  replace hr2 := hr2.to hb5
  replace hr3 := hr3.to hb5
  replace hr4 := hr4.to hb5
  replace hr5 := hr5.all
  replace hbb := hbb.trans hb5
  clear ho5 hb5
  go_wp2_with fail
  refine (bagAdd_c _ _ _ _ _ _ _ _ hr4 hr3 _ _ rfl rfl).mono ?_
  rw [E3.out]
  rintro e w6 ⟨v6, rfl, ho6, hb6⟩
  obtain ⟨A6, c6, rfl, hr6⟩ := ho6.rd
  replace hr1 := hr1.to hb6
  replace hr2 := hr2.to hb6
  replace hr3 := hr3.to hb6
  replace hr4 := hr4.to hb6
  replace hr5 := hr5.to hb6
  replace hr6 := hr6.all
  replace hbb := hbb.trans hb6
  clear ho6 hb6
  go_wp2_with fail
  refine (bagAdd_c _ _ _ _ _ _ _ _ hr2 hr3 _ _ rfl rfl).mono ?_
  rw [E2.out]
  rintro e w7 ⟨v7, rfl, ho7, hb7⟩
  obtain ⟨A7, c7, rfl, hr7⟩ := ho7.rd
  replace hr1 := hr1.to hb7
  replace hr2 := hr2.to hb7
  replace hr4 := hr4.to hb7
  replace hr5 := hr5.to hb7
  replace hr6 := hr6.to hb7
  replace hr7 := hr7.all
  replace hbb := hbb.trans hb7
  clear ho7 hb7 hr3
  go_wp2_with fail
  refine (bagAdd_c _ _ _ _ _ _ _ _ hr1 hr7 _ _ rfl rfl).mono ?_
  rw [E4.out]
  rintro e w8 ⟨v8, rfl, ho8, hb8⟩
  obtain ⟨A8, c8, rfl, hr8⟩ := ho8.rd
  replace hr1 := hr1.to hb8
  replace hr2 := hr2.to hb8
  replace hr4 := hr4.to hb8
  replace hr5 := hr5.to hb8
  replace hr6 := hr6.to hb8
  replace hr8 := hr8.all
  replace hbb := hbb.trans hb8
  clear ho8 hb8 hr7
  go_wp2_with fail
  refine (bagSub_c _ _ _ _ _ _ _ _ _ hr4 hr2 _ _ rfl rfl).mono ?_
  rw [Eb.out]
  rintro e w9 ⟨v9, rfl, ho9, hb9⟩
  obtain ⟨A9, c9, rfl, hr9⟩ := ho9.rd
  replace hr1 := hr1.to hb9
  replace hr2 := hr2.to hb9
  replace hr4 := hr4.to hb9
  replace hr5 := hr5.to hb9
  replace hr6 := hr6.to hb9
  replace hr8 := hr8.to hb9
  replace hr9 := hr9.all
  replace hbb := hbb.trans hb9
  clear ho9 hb9
  go_wp2_with fail
  refine (total_c _ _ _ _ _ hr1 _ rfl).mono ?_
  rw [t1.out]
  rintro e w' ⟨rfl, rfl⟩
  go_wp2_with fail
  refine (total_c _ _ _ _ _ hr2 _ rfl).mono ?_
  rw [t2.out]
  rintro e w' ⟨rfl, rfl⟩
  go_wp2_with fail
  refine (total_c _ _ _ _ _ hr4 _ rfl).mono ?_
  rw [t3.out]
  rintro e w' ⟨rfl, rfl⟩
  go_wp2_with fail
  refine (same03_c _ _ _ _ _ _ _ _ _ hr4 hr5 _ _ rfl rfl).mono ?_
  rw [decide_eq_true (rfl : xy = xy)]
  rintro e w10 ⟨rfl, hb10⟩
  replace hr1 := hr1.to hb10
  replace hr4 := hr4.to hb10
  replace hr6 := hr6.to hb10
  replace hr8 := hr8.to hb10
  replace hr9 := hr9.to hb10
  replace hbb := hbb.trans hb10
  clear hb10 hr2 hr5
  go_wp2_with fail
  refine (same03_c _ _ _ _ _ _ _ _ _ hr6 hr8 _ _ rfl rfl).mono ?_
  rw [decide_eq_true (rfl : l = l)]
  rintro e w11 ⟨rfl, hb11⟩
  replace hr1 := hr1.to hb11
  replace hr4 := hr4.to hb11
  replace hr9 := hr9.to hb11
  replace hbb := hbb.trans hb11
  clear hb11 hr6 hr8
  go_wp2_with fail
  refine (same03_c _ _ _ _ _ _ _ _ _ hr9 hr1 _ _ rfl rfl).mono ?_
  rw [decide_eq_true (rfl : x = x)]
  rintro e w12 ⟨rfl, hb12⟩
  replace hr4 := hr4.to hb12
  replace hbb := hbb.trans hb12
  clear hb12 hr1 hr9
  go_wp2_with fail
  refine (right_c _ _ _ _ _ hr4 _ rfl).mono ?_
  rw [Rxy.out]
  rintro e w' ⟨rfl, rfl⟩
  go_wp2_with fail
  refine (wakes03 _).mono ?_
  rintro e w13 ⟨rfl, hb13⟩
  go_wp2
  go_ret
  exact ⟨rfl, hbb.trans hb13⟩
end Go.Proofs.Ytpkofpnfnpicmaa
namespace Go.Proofs.Ytpkofpnfnpicmaa.rowBagLaws
open Go.ChangeShapes Go.WideShapes Go.ChangeAt Go.RowKit Go.Cb
open Go.ChangeMaps (open_string shut_string)
theorem own : ownKnob Try.prog.godebug = none := by kernel_rfl
theorem laidOut : laidOutB Try.prog = true := by kernel_rfl
set_option maxRecDepth 100000 in
theorem lifted (os : Os) (started : os.Started) (H : Type) (enc : TypeId × Value → H) :
    ReturnsInHanded {} Try.checked os 13 .any (Rows.bagLawsSpec.pre6 enc Try.prog Try.f13 Rows.bagLawsRow.domain false) (Rows.bagLawsSpec.post enc Try.prog Try.f13 false true false false) := by
  refine returnsInHanded_of_change_sized (C := Try.checked) own started (by kernel_rfl) Try.func13
    (ChangeSpec.witness6 (enc := enc) (C := Try.checked) false ⟨#[], #[.slice none 0 0, .slice none 0 0, .slice none 0 0], []⟩ 8 (by kernel_rfl) (by kernel_rfl) (by kernel_rfl) (by kernel_rfl)) ?_
  intro W base args ds gs before hval0 hW hcnd hsz0 _
  have hsz : (DataW.weightsEach Try.prog (Try.f13.params.toList ++ Rows.bagLawsSpec.plain.varTypes Try.prog) (ds ++ gs)).all (· ≤ reachBytes) = true := hsz0
  have hval : ∀ (j : Nat) t v, Try.f13.params[j]? = some t → args[j]? = some v → Value.okWide Try.prog W .any base t v := hval0
  have hW' := hW
  obtain ⟨p, q, hA0, hV, rfl, hfz, hnd⟩ := hW
  have hA : DataW.TrodAll enc Try.prog W 0 (fun _ => true) true Try.f13.params.toList args.toList ds p := hA0
  rw [Try.params13] at hA hval hsz
  obtain ⟨v0, vs0, d0, ds0, p0, q0, hargs, rfl, rfl, h0, r0⟩ := trodAll_cons hA
  obtain ⟨v1, vs1, d1, ds1, p1, q1, rfl, rfl, rfl, h1, r1⟩ := trodAll_cons r0
  obtain ⟨v2, vs2, d2, ds2, p2, q2, rfl, rfl, rfl, h2, r2⟩ := trodAll_cons r1
  obtain ⟨rfl, rfl, rfl⟩ := trodAll_nil r2
  obtain rfl : args = #[v0, v1, v2] := by cases args; simp_all
  obtain ⟨rfl, rfl⟩ := trodVars_none hV
  obtain ⟨a0, len0, cap0, rfl⟩ := okWide_slice Try.underlying22 (hval 0 22 v0 rfl rfl)
  have k0 := h0
  have lt0 : ∀ x ∈ p0, x.block < W.heap.size := by obtain ⟨m, hm⟩ := k0; exact DataW.trod_lt m _ _ _ hm
  obtain ⟨l0, rfl, R0, wf0, sz0⟩ := open_rd hsz (j := 0) (t := 22) rfl rfl Try.underlying22 Try.underlying3 (by kernel_rfl) (by kernel_rfl) h0
  obtain ⟨a1, len1, cap1, rfl⟩ := okWide_slice Try.underlying22 (hval 1 22 v1 rfl rfl)
  have k1 := h1
  have lt1 : ∀ x ∈ p1, x.block < W.heap.size := by obtain ⟨m, hm⟩ := k1; exact DataW.trod_lt m _ _ _ hm
  obtain ⟨l1, rfl, R1, wf1, sz1⟩ := open_rd hsz (j := 1) (t := 22) rfl rfl Try.underlying22 Try.underlying3 (by kernel_rfl) (by kernel_rfl) h1
  obtain ⟨a2, len2, cap2, rfl⟩ := okWide_slice Try.underlying22 (hval 2 22 v2 rfl rfl)
  have k2 := h2
  have lt2 : ∀ x ∈ p2, x.block < W.heap.size := by obtain ⟨m, hm⟩ := k2; exact DataW.trod_lt m _ _ _ hm
  obtain ⟨l2, rfl, R2, wf2, sz2⟩ := open_rd hsz (j := 2) (t := 22) rfl rfl Try.underlying22 Try.underlying3 (by kernel_rfl) (by kernel_rfl) h2
  clear hA0 hval0 hsz0 hsz
  refine (BagLaws_walk W a0 cap0 l0 R0 (fun x hx => inI64_wf (wf0 x hx)) sz0 a1 cap1 l1 R1 (fun x hx => inI64_wf (wf1 x hx)) sz1 a2 cap2 l2 R2 (fun x hx => inI64_wf (wf2 x hx)) sz2).mono fun e W' ⟨he, bel⟩ => ?_
  subst he
  exact ⟨_, rfl, _, _, _, [], _, [], hW', trodAll_mk1 (shut_bool Try.underlying4 _), (trodAll_cons_mk (Below.trod laidOut (by kernel_rfl) (of_decide_eq_true (by kernel_rfl)) k0 bel.out lt0) (trodAll_cons_mk (Below.trod laidOut (by kernel_rfl) (of_decide_eq_true (by kernel_rfl)) k1 bel.out lt1) (trodAll_cons_mk (Below.trod laidOut (by kernel_rfl) (of_decide_eq_true (by kernel_rfl)) k2 bel.out lt2) trodAll_mk0))), rfl, bel.out.frame _, fun h => by cases h⟩
theorem over : Rows.bagLawsRow.holds Try.pinned (OpenSpec.ofChange Rows.bagLawsSpec) :=
  OpenClaim.holds_of_wide 13 Try.f13 rfl rfl rfl rfl rfl rfl rfl ⟨rfl, rfl, rfl, rfl, rfl⟩ rfl rfl rfl rfl rfl (by kernel_rfl) Try.func13 (by kernel_rfl)
    (of_decide_eq_true (by kernel_rfl)) (by unfold Func.isWrapper; first | (rw [if_pos (by decide +kernel)]; kernel_rfl) | (rw [if_neg (by decide +kernel)]; exact ⟨rfl, rfl⟩))
    (fun os started H enc _ => lifted os started H enc)
end Go.Proofs.Ytpkofpnfnpicmaa.rowBagLaws
namespace Go.Proofs.Ytpkofpnfnpicmaa
theorem BagLaws_holds : Rows.BagLawsSaid := rowBagLaws.over
#print axioms BagLaws_holds
end Go.Proofs.Ytpkofpnfnpicmaa
