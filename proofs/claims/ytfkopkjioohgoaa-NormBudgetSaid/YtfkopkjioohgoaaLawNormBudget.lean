/- NormBudget: with just what it spends it is done, with one less it is not; with more it is the same. -/
import Derived.Test.YtfkopkjioohgoaaPureM
import Derived.Test.YtfkopkjioohgoaaWak8
import Derived.Test.YtfkopkjioohgoaaMK
import Derived.Test.YtfkopkjioohgoaaMB
set_option linter.unusedVariables false
set_option linter.unusedSimpArgs false
set_option linter.all false
namespace Go.Proofs.Ytfkopkjioohgoaa
open Go.RowKit Go.Cb Go.Sort
/-- norm.Of by a new meter. -/
theorem normM_c (g : Nat) (B : Int) (S : Nat → Prop) (A : Option Addr) (c : Nat) (p : List PN) (W : World) (hB0 : 0 ≤ B) (hB9 : B ≤ 9223372036854775807) (HM : Cb.Met W 71 g B 0 false) (h : Rd patT W S A c p) (hS : ∀ k, S k → k ≠ g) (n : Nat) (hn : n = p.length) (s : SemS) (e : Int) (he : (normS (some (B, 0, false)) p 4).2 = (s, e)) :
    Calls Try.prog 9 #[.pointer (some ⟨g, 0, none⟩), .slice A n c, .int .i64 4] W fun ex w' => ∃ A c, ex = .returned (.tuple #[.slice A s.length c, .int .i64 e]) ∧ Rd linT w' (Ge W.heap.size) A c s ∧ (∃ s1 o1, (normS (some (B, 0, false)) p 4).1 = some (B, s1, o1) ∧ Cb.Met w' 71 g B s1 o1) ∧ W.grownBy w' (some g) := by
  have Q := normOf_c (.pointer (some ⟨g, 0, none⟩)) (some g) (some (B, 0, false)) S A c p 4 W (MetO.of1 HM (Int.le_refl _) hB0 hB9) h (fun k hk e => hS k hk (Option.some.inj e)) n hn (fun hc => norm_fit_any hc _)
  obtain ⟨s1, o1, f0, _, _⟩ := normS_bud B 0 false hB0 p 4
  rw [he, f0] at Q
  dsimp only at Q
  refine Q.mono ?_
  rintro ex w' ⟨v, hex, ⟨A, c, hv, r⟩, hm, hg⟩
  subst hv
  exact ⟨A, c, hex, r, ⟨s1, o1, f0, (hm.at1 rfl).1⟩, hg⟩
set_option maxHeartbeats 64000000 in
set_option maxRecDepth 100000 in
theorem NormBudget_walk (w : World) (C : Option Addr) (cc : Nat) (l : List Int) (hl : Rd intT w All C cc l) (il : ∀ x ∈ l, inI64 x) (_ : l.length * 8 ≤ 140737488351232) (more : Int) (_ : inI64 more) :
    Calls Try.prog 6 #[.slice C l.length cc, .int .i64 more] w fun e w' => e = .returned (.bool true) ∧ Bel w w' := by
  obtain ⟨s, n, b1, b2, b3, hb⟩ := budget_law l
  obtain ⟨p, hp⟩ : ∃ p, playPat l = p := ⟨_, rfl⟩
  have Hp := Lib.hid hp
  rw [hp] at b1 hb
  have hr := withinI_range (v := more) (n := 100) (by decide)
  obtain ⟨k, hk⟩ : ∃ k, withinI more 100 = k := ⟨_, rfl⟩
  have HK := Lib.hid hk
  rw [hk] at hr
  obtain ⟨hk0, hk1⟩ := hr
  have HYES := Lib.hid (fun B h0 => (hb B h0).1)
  have HNO := Lib.hid (fun B h0 => (hb B h0).2)
  have hwn : IntKind.i64.wrap ((n : Int) - 1) = (n : Int) - 1 := by rw [IntKind.wrap_i64]; omega
  have hwk : IntKind.i64.wrap ((n : Int) + k) = (n : Int) + k := by rw [IntKind.wrap_i64]; omega
  have HB2 := Lib.hid b2
  have HB3 := Lib.hid b3
  have HK0 := Lib.hid hk0
  have HK1 := Lib.hid hk1
  have hbl : (p.length : Int) ≤ (n : Int) := by omega
  clear hb hp hk
  go_enter Try.func6, Try.ntmps6
  have Q := playPat_c _ C cc l w hl il _ rfl
  rw [Hp.out] at Q
  have HQ := Lib.hid Q
  clear Q
  go_wp2_with fail
  refine HQ.out.mono ?_
  rintro e w1 ⟨Ax, cx, rfl, hr, hb⟩
  clear HQ
  have hr0 := hr.bound
  have HS0 := Lib.hid (fun W (h : Bel w1 W) => (hr0.to h))
  have HW := Lib.hid hb
  clear hr hr0 hb
  go_wp2_with fail
  refine (newMeter_s1 1099511627776 _ (by decide)).mono ?_
  rintro e w2 ⟨g, rfl, hg, HM, hb⟩
  rw [show max (1099511627776 : Int) 0 = 1099511627776 by decide] at HM
  have hgw1 := hb.size
  have Q := normM_c g 1099511627776 _ Ax cx p w2 (by decide) (by decide) HM (HS0.out _ hb) (fun j hj e => by have := hj.2; omega) _ rfl s 0 (by rw [HYES.out 1099511627776 (by decide) (by omega)])
  have HQ := Lib.hid Q
  have HBA := Lib.hid hb
  have hgl := HM.lt
  clear Q HM hb
  go_wp2_with fail
  refine HQ.out.mono ?_
  rintro e w3 ⟨As, cs, rfl, hrs, ⟨s1, o1, f1, HM⟩, hg3⟩
  rw [HYES.out 1099511627776 (by decide) (by omega)] at f1
  injection f1 with f1
  injection f1 with _ f1
  injection f1 with f1 f2
  subst f1 f2
  have HB3w := Lib.hid (HBA.out.grown hg3 (fun j e => by injection e with e; omega))
  have HRS := Lib.hid (hrs.bound)
  have HMS := Lib.hid HM
  have hs3 := hg3.size
  clear HQ hrs hg3 HM
  go_wp2_with fail
  refine (spent_s1 g _ _ _ w3 HMS.out).mono ?_
  rintro e w4 ⟨rfl, rfl⟩
  have hn0 : (0 : Int) ≤ (n : Int) := by omega
  go_wp2_with fail
  refine (newMeter_s1 (n : Int) w3 (by omega)).mono ?_
  rintro e w5 ⟨ga, rfl, hga, HMa, hb5⟩
  have hla := HMa.lt
  rw [show max (n : Int) 0 = (n : Int) by omega] at HMa
  have HMA := Lib.hid HMa
  have HB5 := Lib.hid hb5
  clear HMa hb5
  go_wp2_with fail
  refine (newMeter_s1 ((n : Int) - 1) w5 (by omega)).mono ?_
  rintro e w6 ⟨gb, rfl, hgb, HMb, hb6⟩
  have hlb := HMb.lt
  rw [show max ((n : Int) - 1) 0 = (n : Int) - 1 by omega] at HMb
  have HMB := Lib.hid HMb
  have HB6 := Lib.hid hb6
  clear HMb hb6
  go_wp2_with fail
  refine (within_c more 100 _ (by decide)).mono ?_
  rw [HK.out]
  rintro e wB ⟨rfl, rfl⟩
  go_wp2_with fail
  refine (newMeter_s1 ((n : Int) + k) w6 (by omega)).mono ?_
  rintro e w7 ⟨gc, rfl, hgc, HMc, hb7⟩
  have hlc := HMc.lt
  rw [show max ((n : Int) + k) 0 = (n : Int) + k by omega] at HMc
  have hs5 := HB5.out.size
  have hs6 := HB6.out.size
  have hs7 := hb7.size
  have HMA7 := Lib.hid ((HMA.out.to HB6.out).to hb7)
  have HMB7 := Lib.hid (HMB.out.to hb7)
  have HMC7 := Lib.hid HMc
  have HB37 := Lib.hid (HB5.out.trans (HB6.out.trans hb7))
  have Q := normM_c ga (n : Int) _ Ax cx p w7 hn0 (by omega) HMA7.out (HS0.out _ (HB3w.out.trans HB37.out)) (fun j hj e => by have := hj.2; omega) _ rfl s 0 (by rw [HYES.out (n : Int) hn0 (Int.le_refl _)])
  have HQ := Lib.hid Q
  clear Q HMc hb7 HMA HMB HB5 HB6
  go_wp2_with fail
  refine HQ.out.mono ?_
  rintro e w8 ⟨At, ct, rfl, hrt, _, hg8⟩
  have hs8 := hg8.size
  have HB38 := Lib.hid (HB37.out.grown hg8 (fun j e => by injection e with e; omega))
  have HMB8 := Lib.hid (HMB7.out.by_ hg8 (by omega))
  have HMC8 := Lib.hid (HMC7.out.by_ hg8 (by omega))
  have HRT := Lib.hid hrt.bound
  have Q := normM_c gb ((n : Int) - 1) _ Ax cx p w8 (by omega) (by omega) HMB8.out (HS0.out _ (HB3w.out.trans HB38.out)) (fun j hj e => by have := hj.2; omega) _ rfl [] 7 (HNO.out ((n : Int) - 1) (by omega) (by omega))
  have HQ2 := Lib.hid Q
  clear Q HQ hrt hg8 HMA7 HMB7 HMC7
  go_wp2_with fail
  refine HQ2.out.mono ?_
  rintro e w9 ⟨Au, cu, rfl, _, _, hg9⟩
  have hs9 := hg9.size
  have HB39 := Lib.hid (HB38.out.grown hg9 (fun j e => by injection e with e; omega))
  have HMC9 := Lib.hid (HMC8.out.by_ hg9 (by omega))
  have HRT9 := Lib.hid (HRT.out.step' (fun j hj => hg9.block j hj.2 (fun e => by injection e with e; have := hj.1; unfold Ge at this; omega)))
  have Q := normM_c gc ((n : Int) + k) _ Ax cx p w9 (by omega) (by omega) HMC9.out (HS0.out _ (HB3w.out.trans HB39.out)) (fun j hj e => by have := hj.2; omega) _ rfl s 0 (by rw [HYES.out ((n : Int) + k) (by omega) (by omega)])
  have HQ3 := Lib.hid Q
  clear Q HQ2 hg9 HMB8 HMC8 HRT
  go_wp2_with fail
  refine HQ3.out.mono ?_
  rintro e w10 ⟨Av, cv, rfl, hrv, ⟨s3, o3, f3, HMD⟩, hg10⟩
  rw [HYES.out ((n : Int) + k) (by omega) (by omega)] at f3
  injection f3 with f3
  injection f3 with _ f3
  injection f3 with f3 f4
  subst f3 f4
  have HB310 := Lib.hid (HB39.out.grown hg10 (fun j e => by injection e with e; omega))
  have HRT10 := Lib.hid (HRT9.out.step' (fun j hj => hg10.block j (Nat.lt_of_lt_of_le hj.2 hs9) (fun e => by injection e with e; have := hj.1; unfold Ge at this; omega)))
  have HRS10 := Lib.hid (HRS.out.to HB310.out)
  have HRV10 := Lib.hid hrv
  have HMD10 := Lib.hid HMD
  have Q := sameSem_c _ _ As At cs ct s s w10 HRS10.out HRT10.out _ _ rfl rfl
  rw [decide_eq_true (show s = s from rfl)] at Q
  have HQ4 := Lib.hid Q
  clear Q HQ3 hg10 hrv HMD HRT9
  go_wp2_with fail
  refine HQ4.out.mono ?_
  rintro e w11 ⟨rfl, hb11⟩
  have Q := sameSem_c _ _ As Av cs cv s s w11 (HRS10.out.to hb11) (HRV10.out.to hb11) _ _ rfl rfl
  rw [decide_eq_true (show s = s from rfl)] at Q
  have HQ5 := Lib.hid Q
  have HB11 := Lib.hid hb11
  clear Q HQ4 hb11
  go_wp2_with fail
  refine HQ5.out.mono ?_
  rintro e w12 ⟨rfl, hb12⟩
  have HMF := Lib.hid (HMD10.out.to (HB11.out.trans hb12))
  have HB12 := Lib.hid (HW.out.trans (HB3w.out.trans (HB310.out.trans (HB11.out.trans hb12))))
  clear hb12
  go_wp2_with fail
  refine (spent_s1 gc _ _ _ w12 HMF.out).mono ?_
  rintro e w13 ⟨rfl, rfl⟩
  go_wp2_with fail
  refine (wakes08 _).mono ?_
  rintro e w14 ⟨rfl, hb14⟩
  go_wp2
  go_ret
  exact ⟨rfl, HB12.out.trans hb14⟩
end Go.Proofs.Ytfkopkjioohgoaa
namespace Go.Proofs.Ytfkopkjioohgoaa.rowNormBudget
open Go.ChangeShapes Go.WideShapes Go.ChangeAt Go.RowKit Go.Cb
open Go.ChangeMaps (open_string shut_string)
theorem own : ownKnob Try.prog.godebug = none := by kernel_rfl
theorem laidOut : laidOutB Try.prog = true := by kernel_rfl
set_option maxRecDepth 100000 in
theorem lifted (os : Os) (started : os.Started) (H : Type) (enc : TypeId × Value → H) :
    ReturnsInHanded {} Try.checked os 6 .any (Rows.normBudgetSpec.pre6 enc Try.prog Try.f6 Rows.normBudgetRow.domain false) (Rows.normBudgetSpec.post enc Try.prog Try.f6 false true false false) := by
  refine returnsInHanded_of_change_sized (C := Try.checked) own started (by kernel_rfl) Try.func6
    (ChangeSpec.witness6 (enc := enc) (C := Try.checked) false ⟨#[], #[.slice none 0 0, .int .i64 0], []⟩ 8 (by kernel_rfl) (by kernel_rfl) (by kernel_rfl) (by kernel_rfl)) ?_
  intro W base args ds gs before hval0 hW hcnd hsz0 _
  have hsz : (DataW.weightsEach Try.prog (Try.f6.params.toList ++ Rows.normBudgetSpec.plain.varTypes Try.prog) (ds ++ gs)).all (· ≤ reachBytes) = true := hsz0
  have hval : ∀ (j : Nat) t v, Try.f6.params[j]? = some t → args[j]? = some v → Value.okWide Try.prog W .any base t v := hval0
  have hW' := hW
  obtain ⟨p, q, hA0, hV, rfl, hfz, hnd⟩ := hW
  have hA : DataW.TrodAll enc Try.prog W 0 (fun _ => true) true Try.f6.params.toList args.toList ds p := hA0
  rw [Try.params6] at hA hval hsz
  obtain ⟨v0, vs0, d0, ds0, p0, q0, hargs, rfl, rfl, h0, r0⟩ := trodAll_cons hA
  obtain ⟨v1, vs1, d1, ds1, p1, q1, rfl, rfl, rfl, h1, r1⟩ := trodAll_cons r0
  obtain ⟨rfl, rfl, rfl⟩ := trodAll_nil r1
  obtain rfl : args = #[v0, v1] := by cases args; simp_all
  obtain ⟨rfl, rfl⟩ := trodVars_none hV
  obtain ⟨a0, len0, cap0, rfl⟩ := okWide_slice Try.underlying22 (hval 0 22 v0 rfl rfl)
  have k0 := h0
  have lt0 : ∀ x ∈ p0, x.block < W.heap.size := by obtain ⟨m, hm⟩ := k0; exact DataW.trod_lt m _ _ _ hm
  obtain ⟨l0, rfl, R0, wf0, sz0⟩ := open_rd hsz (j := 0) (t := 22) rfl rfl Try.underlying22 Try.underlying3 (by kernel_rfl) (by kernel_rfl) h0
  obtain ⟨a1, rfl, rfl, rfl, w1⟩ := open_int Try.underlying3 (hval 1 3 v1 rfl rfl) h1
  clear hA0 hval0 hsz0 hsz
  refine (NormBudget_walk W a0 cap0 l0 R0 (fun x hx => inI64_wf (wf0 x hx)) sz0 a1 (inI64_wf w1)).mono fun e W' ⟨he, bel⟩ => ?_
  subst he
  exact ⟨_, rfl, _, _, _, [], _, [], hW', trodAll_mk1 (shut_bool Try.underlying4 _), (trodAll_cons_mk (Below.trod laidOut (by kernel_rfl) (of_decide_eq_true (by kernel_rfl)) k0 bel.out lt0) (trodAll_cons_mk (shut_int Try.underlying3 w1) trodAll_mk0)), rfl, bel.out.frame _, fun h => by cases h⟩
theorem over : Rows.normBudgetRow.holds Try.pinned (OpenSpec.ofChange Rows.normBudgetSpec) :=
  OpenClaim.holds_of_wide 6 Try.f6 rfl rfl rfl rfl rfl rfl rfl ⟨rfl, rfl, rfl, rfl, rfl⟩ rfl rfl rfl rfl rfl (by kernel_rfl) Try.func6 (by kernel_rfl)
    (of_decide_eq_true (by kernel_rfl)) (by unfold Func.isWrapper; first | (rw [if_pos (by decide +kernel)]; kernel_rfl) | (rw [if_neg (by decide +kernel)]; exact ⟨rfl, rfl⟩))
    (fun os started H enc _ => lifted os started H enc)
end Go.Proofs.Ytfkopkjioohgoaa.rowNormBudget
namespace Go.Proofs.Ytfkopkjioohgoaa
theorem NormBudget_holds : Rows.NormBudgetSaid := rowNormBudget.over
#print axioms NormBudget_holds
end Go.Proofs.Ytfkopkjioohgoaa
