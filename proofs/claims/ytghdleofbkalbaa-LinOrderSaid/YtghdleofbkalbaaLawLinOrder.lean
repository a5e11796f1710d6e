/- LinOrder: one of two is ahead, or they are the same; what is ahead of what is ahead is ahead. -/
import Derived.Test.YtghdleofbkalbaaLin4
import Derived.Test.YtghdleofbkalbaaPure8
import Derived.Test.YtghdleofbkalbaaRowLib
namespace Go.Proofs.Ytghdleofbkalbaa
open Go.RowKit Go.Cb
set_option maxHeartbeats 8000000 in
set_option maxRecDepth 100000 in
theorem LinOrder_walk (w : World) (A : Option Addr) (ca : Nat) (a : List Int) (ha : Rd intT w All A ca a) (ia : ∀ x ∈ a, inI64 x) (_ : a.length * 8 ≤ 140737488351232)
    (B : Option Addr) (cb : Nat) (b : List Int) (hb : Rd intT w All B cb b) (ib : ∀ x ∈ b, inI64 x) (_ : b.length * 8 ≤ 140737488351232)
    (C : Option Addr) (cc : Nat) (c : List Int) (hc : Rd intT w All C cc c) (ic : ∀ x ∈ c, inI64 x) (_ : c.length * 8 ≤ 140737488351232) :
    Calls Try.prog 3 #[.slice A a.length ca, .slice B b.length cb, .slice C c.length cc] w fun e w' => e = .returned (.bool true) ∧ Bel w w' := by
  obtain ⟨x, hx⟩ : ∃ x, madeL a = x := ⟨_, rfl⟩
  obtain ⟨y, hy⟩ : ∃ y, madeL b = y := ⟨_, rfl⟩
  obtain ⟨z, hz⟩ : ∃ z, madeL c = z := ⟨_, rfl⟩
  have rx := Lib.hid (hx ▸ madeL_right a)
  have ry := Lib.hid (hy ▸ madeL_right b)
  have rz := Lib.hid (hz ▸ madeL_right c)
  have Hx := Lib.hid hx
  have Hy := Lib.hid hy
  have Hz := Lib.hid hz
  clear hx hy hz
  go_enter Try.func3, Try.ntmps3
  go_wp2_with fail
  refine (made06_c _ _ _ _ _ ha ia _ rfl).mono ?_
  rw [Hx.out]
  rintro e w1 ⟨A0, c0, A1, c1, rfl, p0, p1, hb1⟩
  go_wp2_with fail
  refine (made06_c _ _ _ _ _ (hb.to hb1) ib _ rfl).mono ?_
  rw [Hy.out]
  rintro e w2 ⟨B0, d0, B1, d1, rfl, q0, q1, hb2⟩
  go_wp2_with fail
  refine (made06_c _ _ _ _ _ (hc.to (hb1.trans hb2)) ic _ rfl).mono ?_
  rw [Hz.out]
  rintro e w3 ⟨C0, e0, C1, e1, rfl, r0, r1, hb3⟩
  replace p0 := (p0.to (hb2.trans hb3)).all
  replace p1 := (p1.to (hb2.trans hb3)).all
  replace q0 := (q0.to hb3).all
  replace q1 := (q1.to hb3).all
  replace r0 := r0.all
  replace r1 := r1.all
  have hbb := (hb1.trans hb2).trans hb3
  clear hb1 hb2 hb3
  obtain ⟨xa, xp⟩ := x
  obtain ⟨ya, yp⟩ := y
  obtain ⟨za, zp⟩ := z
  dsimp only at *
  obtain ⟨hba, X, Y, Z⟩ := threeBoxes w3 26 (.slice A0 xa.length c0) (.slice A1 xp.length c1) (.slice B0 ya.length d0) (.slice B1 yp.length d1) (.slice C0 za.length e0) (.slice C1 zp.length e1)
  obtain ⟨p, hp⟩ : ∃ p, cmpLin (xa, xp) (ya, yp) = p := ⟨_, rfl⟩
  obtain ⟨q, hq⟩ : ∃ q, cmpLin (ya, yp) (za, zp) = q := ⟨_, rfl⟩
  obtain ⟨r, hr⟩ : ∃ r, cmpLin (xa, xp) (za, zp) = r := ⟨_, rfl⟩
  obtain ⟨pl, pu⟩ := cmpLin_range (xa, xp) (ya, yp)
  have hzero := cmpLin_zero rx.out ry.out
  have htr : p ≤ 0 → q ≤ 0 → r ≤ 0 := by rw [← hp, ← hq, ← hr]; exact cmpLin_trans rx.out ry.out rz.out
  have hn := cmpLin_neg (xa, xp) (ya, yp)
  rw [hp] at pl pu hzero hn
  have hself := (cmpLin_zero rx.out rx.out).2 rfl
  have hsame : decide (((xa, xp) : Lin) = (ya, yp)) = (p == 0) := by
    rw [Bool.eq_iff_iff, beq_iff_eq, decide_eq_true_iff]
    exact hzero.symm
  go_wp2_with fail
  generalize ((w3.alloc (.cells #[.slice A0 xa.length c0, .slice A1 xp.length c1] 26)).alloc (.cells #[.slice B0 ya.length d0, .slice B1 yp.length d1] 26)).alloc (.cells #[.slice C0 za.length e0, .slice C1 zp.length e1] 26) = W at *
  replace hbb := hbb.trans hba
  have p0 := p0.to hba
  have p1 := p1.to hba
  have q0 := q0.to hba
  have q1 := q1.to hba
  have r0 := r0.to hba
  have r1 := r1.to hba
  generalize w3.heap.size = g at *
  replace Z : Box W 26 (g + 1 + 1) _ _ := Z
  clear hba
  have K1 : ∀ W', Bel W W' → Calls Try.prog 9 #[.agg #[.slice A0 xa.length c0, .slice A1 xp.length c1], .agg #[.slice B0 ya.length d0, .slice B1 yp.length d1]] W' fun e w' => e = .returned (.int .i64 p) ∧ Bel W' w' := fun W' h => by
    have := linCompare_c _ _ _ _ _ _ _ _ _ _ _ _ (xa, xp) (ya, yp) W' (p0.to h) (p1.to h) (q0.to h) (q1.to h) _ _ _ _ rfl rfl rfl rfl
    rw [hp] at this; exact this
  have K2 : ∀ W', Bel W W' → Calls Try.prog 9 #[.agg #[.slice B0 ya.length d0, .slice B1 yp.length d1], .agg #[.slice A0 xa.length c0, .slice A1 xp.length c1]] W' fun e w' => e = .returned (.int .i64 (-p)) ∧ Bel W' w' := fun W' h => by
    have := linCompare_c _ _ _ _ _ _ _ _ _ _ _ _ (ya, yp) (xa, xp) W' (q0.to h) (q1.to h) (p0.to h) (p1.to h) _ _ _ _ rfl rfl rfl rfl
    rw [hn] at this; exact this
  have K3 : ∀ W', Bel W W' → Calls Try.prog 9 #[.agg #[.slice B0 ya.length d0, .slice B1 yp.length d1], .agg #[.slice C0 za.length e0, .slice C1 zp.length e1]] W' fun e w' => e = .returned (.int .i64 q) ∧ Bel W' w' := fun W' h => by
    have := linCompare_c _ _ _ _ _ _ _ _ _ _ _ _ (ya, yp) (za, zp) W' (q0.to h) (q1.to h) (r0.to h) (r1.to h) _ _ _ _ rfl rfl rfl rfl
    rw [hq] at this; exact this
  have K4 : ∀ W', Bel W W' → Calls Try.prog 9 #[.agg #[.slice A0 xa.length c0, .slice A1 xp.length c1], .agg #[.slice C0 za.length e0, .slice C1 zp.length e1]] W' fun e w' => e = .returned (.int .i64 r) ∧ Bel W' w' := fun W' h => by
    have := linCompare_c _ _ _ _ _ _ _ _ _ _ _ _ (xa, xp) (za, zp) W' (p0.to h) (p1.to h) (r0.to h) (r1.to h) _ _ _ _ rfl rfl rfl rfl
    rw [hr] at this; exact this
  have K5 : ∀ W', Bel W W' → Calls Try.prog 9 #[.agg #[.slice A0 xa.length c0, .slice A1 xp.length c1], .agg #[.slice A0 xa.length c0, .slice A1 xp.length c1]] W' fun e w' => e = .returned (.int .i64 0) ∧ Bel W' w' := fun W' h => by
    have := linCompare_c _ _ _ _ _ _ _ _ _ _ _ _ (xa, xp) (xa, xp) W' (p0.to h) (p1.to h) (p0.to h) (p1.to h) _ _ _ _ rfl rfl rfl rfl
    rw [hself] at this; exact this
  have K6 : ∀ W', Bel W W' → Calls Try.prog 10 #[.agg #[.slice A0 xa.length c0, .slice A1 xp.length c1], .agg #[.slice B0 ya.length d0, .slice B1 yp.length d1]] W' fun e w' => e = .returned (.bool (p == 0)) ∧ Bel W' w' := fun W' h => by
    have := sameLin_c _ _ _ _ _ _ _ _ _ _ _ _ (xa, xp) (ya, yp) W' (p0.to h) (p1.to h) (q0.to h) (q1.to h) _ _ _ _ rfl rfl rfl rfl
    rw [hsame] at this; exact this
  have Htr := Lib.hid htr
  have K1 := Lib.hid K1
  have K2 := Lib.hid K2
  have K3 := Lib.hid K3
  have K4 := Lib.hid K4
  have K5 := Lib.hid K5
  have K6 := Lib.hid K6
  clear hp hq hr hzero htr hn hself hsame p0 p1 q0 q1 r0 r1 ha hb hc rx ry rz Hx Hy Hz
  refine (K1.out W (Bel.refl _)).mono ?_
  rintro e v1 ⟨rfl, b1⟩
  obtain ⟨x0, x1, _, _⟩ := (X.to b1).cells
  obtain ⟨y0, y1, _, _⟩ := (Y.to b1).cells
  go_wp2_with fail
  refine (K2.out _ b1).mono ?_
  rintro e v2 ⟨rfl, b2⟩
  replace b2 := b1.trans b2
  clear x0 x1 y0 y1
  obtain ⟨x0, x1, _, _⟩ := (X.to b2).cells
  obtain ⟨y0, y1, _, _⟩ := (Y.to b2).cells
  have hcase : p = -1 ∨ p = 0 ∨ p = 1 := by omega
  rcases hcase with rfl | rfl | rfl
  · have hr0 : q ≤ 0 → r ≤ 0 := Htr.out (by omega)
    have HR0 := Lib.hid hr0
    clear hr0
    go_wp2_with fail
    refine (K6.out _ b2).mono ?_
    rw [show ((-1 : Int) == 0) = false from rfl]
    rintro e v3 ⟨rfl, b3⟩
    replace b3 := b2.trans b3
    clear x0 x1 y0 y1
    obtain ⟨x0, x1, _, _⟩ := (X.to b3).cells
    obtain ⟨y0, y1, _, _⟩ := (Y.to b3).cells
    obtain ⟨z0, z1, _, _⟩ := (Z.to b3).cells
    go_wp2_with fail
    refine (K3.out _ b3).mono ?_
    rintro e v4 ⟨rfl, b4⟩
    replace b4 := b3.trans b4
    clear x0 x1 y0 y1 z0 z1
    obtain ⟨x0, x1, _, _⟩ := (X.to b4).cells
    obtain ⟨z0, z1, _, _⟩ := (Z.to b4).cells
    by_cases hq : q ≤ 0
    · have hr := HR0.out hq
      have hq1 : decide (0 < q) = false := decide_eq_false (by omega)
      go_wp2_with fail
      refine (K4.out _ b4).mono ?_
      rintro e v5 ⟨rfl, b5⟩
      replace b5 := b4.trans b5
      clear x0 x1 z0 z1
      obtain ⟨x0, x1, _, _⟩ := (X.to b5).cells
      go_wp2_with fail
      refine (K5.out _ b5).mono ?_
      rintro e v6 ⟨rfl, b6⟩
      replace b6 := b5.trans b6
      go_wp2_with fail
      refine (wakes06 _).mono ?_
      rintro e v7 ⟨rfl, b7⟩
      go_wp2_with fail
      go_ret
      exact ⟨rfl, (hbb.trans b6).trans b7⟩
    · have hq1 : decide (0 < q) = true := decide_eq_true (by omega)
      go_wp2_with fail
      refine (K5.out _ b4).mono ?_
      rintro e v6 ⟨rfl, b6⟩
      replace b6 := b4.trans b6
      go_wp2_with fail
      refine (wakes06 _).mono ?_
      rintro e v7 ⟨rfl, b7⟩
      go_wp2_with fail
      go_ret
      exact ⟨rfl, (hbb.trans b6).trans b7⟩
  · have hr0 : q ≤ 0 → r ≤ 0 := Htr.out (by omega)
    have HR0 := Lib.hid hr0
    clear hr0
    go_wp2_with fail
    refine (K6.out _ b2).mono ?_
    rw [show ((0 : Int) == 0) = true from rfl]
    rintro e v3 ⟨rfl, b3⟩
    replace b3 := b2.trans b3
    clear x0 x1 y0 y1
    obtain ⟨x0, x1, _, _⟩ := (X.to b3).cells
    obtain ⟨y0, y1, _, _⟩ := (Y.to b3).cells
    obtain ⟨z0, z1, _, _⟩ := (Z.to b3).cells
    go_wp2_with fail
    refine (K3.out _ b3).mono ?_
    rintro e v4 ⟨rfl, b4⟩
    replace b4 := b3.trans b4
    clear x0 x1 y0 y1 z0 z1
    obtain ⟨x0, x1, _, _⟩ := (X.to b4).cells
    obtain ⟨z0, z1, _, _⟩ := (Z.to b4).cells
    by_cases hq : q ≤ 0
    · have hr := HR0.out hq
      have hq1 : decide (0 < q) = false := decide_eq_false (by omega)
      go_wp2_with fail
      refine (K4.out _ b4).mono ?_
      rintro e v5 ⟨rfl, b5⟩
      replace b5 := b4.trans b5
      clear x0 x1 z0 z1
      obtain ⟨x0, x1, _, _⟩ := (X.to b5).cells
      go_wp2_with fail
      refine (K5.out _ b5).mono ?_
      rintro e v6 ⟨rfl, b6⟩
      replace b6 := b5.trans b6
      go_wp2_with fail
      refine (wakes06 _).mono ?_
      rintro e v7 ⟨rfl, b7⟩
      go_wp2_with fail
      go_ret
      exact ⟨rfl, (hbb.trans b6).trans b7⟩
    · have hq1 : decide (0 < q) = true := decide_eq_true (by omega)
      go_wp2_with fail
      refine (K5.out _ b4).mono ?_
      rintro e v6 ⟨rfl, b6⟩
      replace b6 := b4.trans b6
      go_wp2_with fail
      refine (wakes06 _).mono ?_
      rintro e v7 ⟨rfl, b7⟩
      go_wp2_with fail
      go_ret
      exact ⟨rfl, (hbb.trans b6).trans b7⟩
  · go_wp2_with fail
    refine (K6.out _ b2).mono ?_
    rw [show ((1 : Int) == 0) = false from rfl]
    rintro e v3 ⟨rfl, b3⟩
    replace b3 := b2.trans b3
    clear x0 x1 y0 y1
    obtain ⟨x0, x1, _, _⟩ := (X.to b3).cells
    obtain ⟨y0, y1, _, _⟩ := (Y.to b3).cells
    obtain ⟨z0, z1, _, _⟩ := (Z.to b3).cells
    go_wp2_with fail
    refine (K5.out _ b3).mono ?_
    rintro e v6 ⟨rfl, b6⟩
    replace b6 := b3.trans b6
    go_wp2_with fail
    refine (wakes06 _).mono ?_
    rintro e v7 ⟨rfl, b7⟩
    go_wp2_with fail
    go_ret
    exact ⟨rfl, (hbb.trans b6).trans b7⟩
end Go.Proofs.Ytghdleofbkalbaa
namespace Go.Proofs.Ytghdleofbkalbaa.rowLinOrder
open Go.ChangeShapes Go.WideShapes Go.ChangeAt Go.RowKit Go.Cb
open Go.ChangeMaps (open_string shut_string)
theorem own : ownKnob Try.prog.godebug = none := by kernel_rfl
theorem laidOut : laidOutB Try.prog = true := by kernel_rfl
set_option maxRecDepth 100000 in
theorem lifted (os : Os) (started : os.Started) (H : Type) (enc : TypeId × Value → H) :
    ReturnsInHanded {} Try.checked os 3 .any (Rows.linOrderSpec.pre6 enc Try.prog Try.f3 Rows.linOrderRow.domain false) (Rows.linOrderSpec.post enc Try.prog Try.f3 false true false false) := by
  refine returnsInHanded_of_change_sized (C := Try.checked) own started (by kernel_rfl) Try.func3
    (ChangeSpec.witness6 (enc := enc) (C := Try.checked) false ⟨#[], #[.slice none 0 0, .slice none 0 0, .slice none 0 0], []⟩ 8 (by kernel_rfl) (by kernel_rfl) (by kernel_rfl) (by kernel_rfl)) ?_
  intro W base args ds gs before hval0 hW hcnd hsz0 _
  have hsz : (DataW.weightsEach Try.prog (Try.f3.params.toList ++ Rows.linOrderSpec.plain.varTypes Try.prog) (ds ++ gs)).all (· ≤ reachBytes) = true := hsz0
  have hval : ∀ (j : Nat) t v, Try.f3.params[j]? = some t → args[j]? = some v → Value.okWide Try.prog W .any base t v := hval0
  have hW' := hW
  obtain ⟨p, q, hA0, hV, rfl, hfz, hnd⟩ := hW
  have hA : DataW.TrodAll enc Try.prog W 0 (fun _ => true) true Try.f3.params.toList args.toList ds p := hA0
  rw [Try.params3] at hA hval hsz
  obtain ⟨v0, vs0, d0, ds0, p0, q0, hargs, rfl, rfl, h0, r0⟩ := trodAll_cons hA
  obtain ⟨v1, vs1, d1, ds1, p1, q1, rfl, rfl, rfl, h1, r1⟩ := trodAll_cons r0
  obtain ⟨v2, vs2, d2, ds2, p2, q2, rfl, rfl, rfl, h2, r2⟩ := trodAll_cons r1
  obtain ⟨rfl, rfl, rfl⟩ := trodAll_nil r2
  obtain rfl : args = #[v0, v1, v2] := by cases args; simp_all
  obtain ⟨rfl, rfl⟩ := trodVars_none hV
  obtain ⟨a0, len0, cap0, rfl⟩ := okWide_slice Try.underlying22 (hval 0 22 v0 rfl rfl)
  have k0 := h0
  have lt0 : ∀ x ∈ p0, x.block < W.heap.size := by obtain ⟨m, hm⟩ := k0; exact DataW.trod_lt m _ _ _ hm
  obtain ⟨l0, rfl, R0, wf0, sz0⟩ := open_rd hsz (j := 0) (t := 22) rfl rfl Try.underlying22 Try.underlying3 (by kernel_rfl) (by kernel_rfl) h0
  obtain ⟨a1, len1, cap1, rfl⟩ := okWide_slice Try.underlying22 (hval 1 22 v1 rfl rfl)
  have k1 := h1
  have lt1 : ∀ x ∈ p1, x.block < W.heap.size := by obtain ⟨m, hm⟩ := k1; exact DataW.trod_lt m _ _ _ hm
  obtain ⟨l1, rfl, R1, wf1, sz1⟩ := open_rd hsz (j := 1) (t := 22) rfl rfl Try.underlying22 Try.underlying3 (by kernel_rfl) (by kernel_rfl) h1
  obtain ⟨a2, len2, cap2, rfl⟩ := okWide_slice Try.underlying22 (hval 2 22 v2 rfl rfl)
  have k2 := h2
  have lt2 : ∀ x ∈ p2, x.block < W.heap.size := by obtain ⟨m, hm⟩ := k2; exact DataW.trod_lt m _ _ _ hm
  obtain ⟨l2, rfl, R2, wf2, sz2⟩ := open_rd hsz (j := 2) (t := 22) rfl rfl Try.underlying22 Try.underlying3 (by kernel_rfl) (by kernel_rfl) h2
  clear hA0 hval0 hsz0 hsz
  refine (LinOrder_walk W a0 cap0 l0 R0 (fun x hx => inI64_wf (wf0 x hx)) sz0 a1 cap1 l1 R1 (fun x hx => inI64_wf (wf1 x hx)) sz1 a2 cap2 l2 R2 (fun x hx => inI64_wf (wf2 x hx)) sz2).mono fun e W' ⟨he, bel⟩ => ?_
  subst he
  exact ⟨_, rfl, _, _, _, [], _, [], hW', trodAll_mk1 (shut_bool Try.underlying4 _), (trodAll_cons_mk (Below.trod laidOut (by kernel_rfl) (of_decide_eq_true (by kernel_rfl)) k0 bel.out lt0) (trodAll_cons_mk (Below.trod laidOut (by kernel_rfl) (of_decide_eq_true (by kernel_rfl)) k1 bel.out lt1) (trodAll_cons_mk (Below.trod laidOut (by kernel_rfl) (of_decide_eq_true (by kernel_rfl)) k2 bel.out lt2) trodAll_mk0))), rfl, bel.out.frame _, fun h => by cases h⟩
theorem over : Rows.linOrderRow.holds Try.pinned (OpenSpec.ofChange Rows.linOrderSpec) :=
  OpenClaim.holds_of_wide 3 Try.f3 rfl rfl rfl rfl rfl rfl rfl ⟨rfl, rfl, rfl, rfl, rfl⟩ rfl rfl rfl rfl rfl (by kernel_rfl) Try.func3 (by kernel_rfl)
    (of_decide_eq_true (by kernel_rfl)) (by unfold Func.isWrapper; first | (rw [if_pos (by decide +kernel)]; kernel_rfl) | (rw [if_neg (by decide +kernel)]; exact ⟨rfl, rfl⟩))
    (fun os started H enc _ => lifted os started H enc)
end Go.Proofs.Ytghdleofbkalbaa.rowLinOrder
namespace Go.Proofs.Ytghdleofbkalbaa
theorem LinOrder_holds : Rows.LinOrderSaid := rowLinOrder.over
#print axioms LinOrder_holds
end Go.Proofs.Ytghdleofbkalbaa
