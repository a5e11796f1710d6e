/- NormOne: the smallest patterns' words. -/
import Derived.Test.YtfkopkjioohgoaaPureX
import Derived.Test.YtfkopkjioohgoaaWak8
import Derived.Test.YtfkopkjioohgoaaMB
set_option linter.unusedVariables false
set_option linter.unusedSimpArgs false
set_option linter.all false
namespace Go.Cb
open Go.RowKit
/-- Two nodes, laid. -/
theorem pat_lit2 (w : World) (x y : PN) (t : TypeId) : Rd patT (w.alloc (.cells #[.int .i64 x.k, .int .i64 x.a, .int .i64 x.b, .int .i64 x.n, .string x.s, .int .i64 y.k, .int .i64 y.a, .int .i64 y.b, .int .i64 y.n, .string y.s] t)) All (some ⟨w.heap.size, 0, none⟩) 2 [x, y] := by
  have hc := heap_alloc_new w (.cells #[.int .i64 x.k, .int .i64 x.a, .int .i64 x.b, .int .i64 x.n, .string x.s, .int .i64 y.k, .int .i64 y.a, .int .i64 y.b, .int .i64 y.n, .string y.s] t)
  refine ⟨by simp, by decide, fun j z hj => ?_⟩
  rcases j with _ | _ | j
  · obtain rfl : x = z := by simpa using hj
    refine ⟨_, [.int .i64 x.k, .int .i64 x.a, .int .i64 x.b, .int .i64 x.n, .string x.s], rfl, trivial, rfl, fun i u hu => ?_⟩
    rw [add_plain, cellAt hc, show 0 * patT.sz + i = i by omega]
    rcases i with _ | _ | _ | _ | _ | i
    · exact hu
    · exact hu
    · exact hu
    · exact hu
    · exact hu
    · simp at hu
  · obtain rfl : y = z := by simpa using hj
    refine ⟨_, [.int .i64 y.k, .int .i64 y.a, .int .i64 y.b, .int .i64 y.n, .string y.s], rfl, trivial, rfl, fun i u hu => ?_⟩
    rw [add_plain, cellAt hc, show (0 + 1) * patT.sz + i = 5 + i by show 1 * 5 + i = 5 + i; omega]
    rcases i with _ | _ | _ | _ | _ | i
    · exact hu
    · exact hu
    · exact hu
    · exact hu
    · exact hu
    · simp at hu
  · simp at hj
end Go.Cb
namespace Go.Proofs.Ytfkopkjioohgoaa
open Go.RowKit Go.Cb Go.Sort
theorem normN_c (W W1 : World) (A : Option Addr) (c n : Nat) (p : List PN) (tags : Int) (s : SemS) (ec : Int) (hW : Bel W W1) (h : Rd patT W1 All A c p) (hn : n = p.length) (hs : normS none p tags = (none, s, ec)) :
    Calls Try.prog 9 #[.pointer none, .slice A n c, .int .i64 tags] W1 fun e w' => ∃ A c, e = .returned (.tuple #[.slice A s.length c, .int .i64 ec]) ∧ Rd linT w' All A c s ∧ Bel W w' := by
  have Q := normOf_c (.pointer none) none none _ A c p tags W1 ⟨rfl, rfl⟩ h (fun _ _ => by simp) n hn (fun hc => norm_fit_any hc none)
  rw [hs] at Q
  refine Q.mono ?_
  rintro e w' ⟨v, he, ⟨A, c, hv, r⟩, _, hg⟩
  subst hv
  exact ⟨A, c, he, r.all, hW.trans ((Bel.refl _).grown hg (fun k hk => by cases hk))⟩
set_option maxHeartbeats 64000000 in
set_option maxRecDepth 100000 in
theorem NormOne_walk (w : World) (tag : Int) (_ : inI64 tag) (many : Int) (_ : inI64 many) :
    Calls Try.prog 5 #[.int .i64 tag, .int .i64 many] w fun e w' => e = .returned (.bool true) ∧ Bel w w' := by
  have hr1 := withinI_range (v := tag) (n := 12) (by decide)
  have hr2 := withinI_range (v := many) (n := 999999999) (by decide)
  obtain ⟨q, hq⟩ : ∃ q : Nat, withinI tag 12 = (q : Int) := ⟨(withinI tag 12).toNat, by omega⟩
  obtain ⟨m0, hm0⟩ : ∃ m, withinI many 999999999 = m := ⟨_, rfl⟩
  have HQ := Lib.hid hq
  have HM0 := Lib.hid hm0
  rw [hq] at hr1
  rw [hm0] at hr2
  obtain ⟨m, hm⟩ : ∃ m, m0 + 1 = m := ⟨_, rfl⟩
  have HM := Lib.hid hm
  have hm1 : 1 ≤ m ∧ m ≤ 999999999 := by omega
  have hwm : IntKind.i64.wrap (m0 + 1) = m := by rw [IntKind.wrap_i64]; omega
  obtain ⟨ob, hob⟩ : ∃ b, oneB (q : Int) m = b := ⟨_, rfl⟩
  have HOB := Lib.hid hob
  have hobl : ob.length = q + 1 := by rw [← hob, oneB_eq (by omega) hm1.1 (by omega), List.length_set, List.length_replicate]
  have HSET := Lib.hid (show (List.replicate (q + 1) (0 : Int)).set q m = ob by rw [← hob, oneB_eq (by omega) hm1.1 (by omega)])
  have N1 := Lib.hid (show normS none [⟨3, m, 0, (q : Int), ⟨#[]⟩⟩] 12 = (none, [(ob, [])], 0) by rw [← hob]; exact norm_tag (by omega) (by omega) hm1.1 hm1.2)
  have N3 := Lib.hid (show normS none [⟨3, m, 0, (q : Int), ⟨#[]⟩⟩, ⟨6, 0, 0, 0, ⟨#[]⟩⟩] 12 = (none, [([], [ob])], 0) by rw [← hob]; exact norm_tag_star (by omega) (by omega) hm1.1 hm1.2)
  have N4 := Lib.hid (show normS none [⟨3, m, 0, (q : Int), ⟨#[]⟩⟩] (q : Int) = (none, [], 1) from norm_tag_no)
  have hm2 := hm1.1
  have hm3 := hm1.2
  have hq11 : q ≤ 11 := by omega
  clear hq hm0 hm hob hm1 hr1 hr2
  go_enter Try.func5, Try.ntmps5
  go_wp2_with fail
  refine (within_c tag 12 _ (by decide)).mono ?_
  rw [HQ.out]
  rintro e wB ⟨rfl, rfl⟩
  go_wp2_with fail
  refine (within_c many 999999999 _ (by decide)).mono ?_
  rw [HM0.out]
  rintro e wB ⟨rfl, rfl⟩
  go_wp2_with fail
  refine (normN_c w _ _ _ _ [⟨3, m, 0, (q : Int), ⟨#[]⟩⟩] 12 _ _ ((Bel.refl _).alloc _) (pat_lit w ⟨3, m, 0, (q : Int), ⟨#[]⟩⟩ 35) rfl N1.out).mono ?_
  rintro e w1 ⟨A1, c1, rfl, hr1, hb1⟩
  have HR1 := Lib.hid hr1
  have HB1 := Lib.hid hb1
  clear hr1 hb1
  go_wp2_with fail
  refine (normN_c w1 _ _ _ _ [⟨2, 0, 0, 0, ⟨#[]⟩⟩] 0 _ _ ((Bel.refl _).alloc _) (pat_lit w1 ⟨2, 0, 0, 0, ⟨#[]⟩⟩ 35) rfl norm_one).mono ?_
  rintro e w2 ⟨A2, c2, rfl, hr2, hb2⟩
  have HR2 := Lib.hid hr2
  have HB2 := Lib.hid hb2
  clear hr2 hb2
  go_wp2_with fail
  refine (normN_c w2 _ _ _ _ [⟨3, m, 0, (q : Int), ⟨#[]⟩⟩, ⟨6, 0, 0, 0, ⟨#[]⟩⟩] 12 _ _ ((Bel.refl _).alloc _) (pat_lit2 w2 ⟨3, m, 0, (q : Int), ⟨#[]⟩⟩ ⟨6, 0, 0, 0, ⟨#[]⟩⟩ 35) rfl N3.out).mono ?_
  rintro e w3 ⟨A3, c3, rfl, hr3, hb3⟩
  have HR3 := Lib.hid hr3
  have HB3 := Lib.hid hb3
  clear hr3 hb3
  go_wp2_with fail
  refine (normN_c w3 _ _ _ _ [⟨3, m, 0, (q : Int), ⟨#[]⟩⟩] (q : Int) _ _ ((Bel.refl _).alloc _) (pat_lit w3 ⟨3, m, 0, (q : Int), ⟨#[]⟩⟩ 35) rfl N4.out).mono ?_
  rintro e w4 ⟨A4, c4, rfl, _, hb4⟩
  have H34 := HB3.out.trans hb4
  have H24 := HB2.out.trans H34
  have HW4 := Lib.hid (HB1.out.trans H24)
  have HRA := Lib.hid (HR1.out.to H24)
  have HRB := Lib.hid (HR2.out.to H34)
  have HRC := Lib.hid (HR3.out.to hb4)
  clear H34 H24 hb4
  obtain ⟨adA, A0, e0, A01, e01, rfl, xa0, xa1, ra0, ra1⟩ := HRA.out.lrow (k := 0) (by simp)
  obtain ⟨adC, C0, f0, C1, f1, rfl, xc0, xc1, rc0, rc1⟩ := HRC.out.lrow (k := 0) (by simp)
  dsimp only [List.getElem_cons_zero, List.length_nil, List.length_cons] at xa0 xa1 ra0 ra1 xc0 xc1 rc0 rc1
  have HRA0 := Lib.hid ra0
  obtain ⟨adP, CP, fP, rfl, yP, rP⟩ := rc1.row (k := 0) (by simp)
  dsimp only [List.getElem_cons_zero] at yP rP
  have HRP := Lib.hid rP
  have hwq : IntKind.i64.wrap ((q : Int) + 1) = ((q + 1 : Nat) : Int) := by rw [IntKind.wrap_i64]; omega
  have hzz : ∀ ad : Addr, ad.add 0 = ad := fun ad => by unfold Addr.add; simp
  simp only [Nat.zero_mul, Nat.zero_add, hzz] at xa0 xa1 xc0 xc1 yP
  clear hzz
  have KA0 := Lib.hid (fun W (h : Bel w4 W) => cell_keep xa0 (h.block (World.block_lt_of_cell? _ _ xa0)))
  have KA1 := Lib.hid (fun W (h : Bel w4 W) => cell_keep xa1 (h.block (World.block_lt_of_cell? _ _ xa1)))
  have KC0 := Lib.hid (fun W (h : Bel w4 W) => cell_keep xc0 (h.block (World.block_lt_of_cell? _ _ xc0)))
  have KC1 := Lib.hid (fun W (h : Bel w4 W) => cell_keep xc1 (h.block (World.block_lt_of_cell? _ _ xc1)))
  have KP := Lib.hid (fun W (h : Bel w4 W) => cell_keep yP (h.block (World.block_lt_of_cell? _ _ yP)))
  have HOL := Lib.hid hobl
  clear ra0 ra1 rc0 rc1 rP hobl
  go_wp2_with (at_make; refine wp_make (enc := Value.int .i64) (fun _ => rfl) 0 (w0 := w4) 43 3 8 rfl _ _ rfl Try.underlying43 info_int rfl (q + 1) _ _ rfl rfl rfl rfl (Bel.refl _) (by omega) (by unfold maxLen; omega) ?_; intro w5 ho5 hb5 _ hz5; obtain ⟨hc5, hf5⟩ := ho5.cell (i := q) (by simp); obtain ⟨w6, hw6⟩ : ∃ W, w5.setCell ⟨w4.heap.size, q, none⟩ (.int .i64 m) = W := ⟨_, rfl⟩; have HO6 := Lib.hid (ho5.set q m); have hb6 := hb5.set (p := ⟨w4.heap.size, q, none⟩) (Nat.le_refl _) (.int .i64 m); rw [hw6] at hb6; replace HO6 := Lib.hid (show Own intT 3 w6 _ _ _ ob by rw [← hw6, ← HSET.out]; exact HO6.out); obtain ⟨A6, c6, e6, r6⟩ := HO6.out.rdAll; have HR6 := Lib.hid (show Rd intT w6 All (some ⟨w4.heap.size, 0, none⟩) (q + 1) ob from by injection e6 with z1 z2 z3; rw [z1, z3]; exact r6); clear ho5 e6 r6; have HB6 := Lib.hid hb6; clear xa0 xa1 xc0 xc1 yP; have xa0 := KA0.out w6 hb6; clear hb6)
  have Q1 := sameInt_c _ _ A0 (some ⟨w4.heap.size, 0, none⟩) e0 (q + 1) ob ob w6 (HRA0.out.to HB6.out) HR6.out _ (q + 1) rfl HOL.out.symm
  rw [decide_eq_true (show ob = ob from rfl)] at Q1
  have HQ1 := Lib.hid Q1
  clear Q1 hw6 hc5 hf5 hwq hb5 hz5 hwm
  refine HQ1.out.mono ?_
  rintro e w7 ⟨rfl, hb7⟩
  have xa1 := KA1.out w7 (HB6.out.trans hb7)
  have HB7 := Lib.hid (HB6.out.trans hb7)
  have HR7 := Lib.hid (HR6.out.to hb7)
  clear hb7 xa0 HQ1
  go_wp2_with fail
  refine (semOne_c _).mono ?_
  rintro e w8 ⟨AB, cB, rfl, hr8, _, hb8⟩
  have Q2 := sameSem_c _ _ A2 AB c2 cB oneS oneS w8 (HRB.out.to (HB7.out.trans hb8)) hr8 _ 1 rfl rfl
  rw [decide_eq_true (show oneS = oneS from rfl)] at Q2
  have HQ2 := Lib.hid Q2
  have HB8 := Lib.hid (HB7.out.trans hb8)
  have HR8 := Lib.hid (HR7.out.to hb8)
  clear Q2 hr8 hb8 xa1
  go_wp2_with fail
  refine HQ2.out.mono ?_
  rintro e w9 ⟨rfl, hb9⟩
  have xc0 := KC0.out w9 (HB8.out.trans hb9)
  have xc1 := KC1.out w9 (HB8.out.trans hb9)
  have yP := KP.out w9 (HB8.out.trans hb9)
  have Q3 := sameInt_c _ _ CP (some ⟨w4.heap.size, 0, none⟩) fP (q + 1) ob ob w9 (HRP.out.to (HB8.out.trans hb9)) (HR8.out.to hb9) _ (q + 1) rfl HOL.out.symm
  rw [decide_eq_true (show ob = ob from rfl)] at Q3
  have HQ3 := Lib.hid Q3
  have HB9 := Lib.hid (HB8.out.trans hb9)
  clear Q3 hb9 HQ2
  go_wp2_with fail
  refine HQ3.out.mono ?_
  rintro e w10 ⟨rfl, hb10⟩
  clear HQ3 xc0 xc1 yP
  go_wp2_with fail
  refine (wakes08 _).mono ?_
  rintro e w11 ⟨rfl, hb11⟩
  go_wp2
  go_ret
  exact ⟨rfl, (HW4.out.trans (HB9.out.trans hb10)).trans hb11⟩
end Go.Proofs.Ytfkopkjioohgoaa
namespace Go.Proofs.Ytfkopkjioohgoaa.rowNormOne
open Go.ChangeShapes Go.WideShapes Go.ChangeAt Go.RowKit Go.Cb
open Go.ChangeMaps (open_string shut_string)
theorem own : ownKnob Try.prog.godebug = none := by kernel_rfl
theorem laidOut : laidOutB Try.prog = true := by kernel_rfl
set_option maxRecDepth 100000 in
theorem lifted (os : Os) (started : os.Started) (H : Type) (enc : TypeId × Value → H) :
    ReturnsInHanded {} Try.checked os 5 .any (Rows.normOneSpec.pre6 enc Try.prog Try.f5 Rows.normOneRow.domain false) (Rows.normOneSpec.post enc Try.prog Try.f5 false true false false) := by
  refine returnsInHanded_of_change_sized (C := Try.checked) own started (by kernel_rfl) Try.func5
    (ChangeSpec.witness6 (enc := enc) (C := Try.checked) false ⟨#[], #[.int .i64 0, .int .i64 0], []⟩ 8 (by kernel_rfl) (by kernel_rfl) (by kernel_rfl) (by kernel_rfl)) ?_
  intro W base args ds gs before hval0 hW hcnd hsz0 _
  have hsz : (DataW.weightsEach Try.prog (Try.f5.params.toList ++ Rows.normOneSpec.plain.varTypes Try.prog) (ds ++ gs)).all (· ≤ reachBytes) = true := hsz0
  have hval : ∀ (j : Nat) t v, Try.f5.params[j]? = some t → args[j]? = some v → Value.okWide Try.prog W .any base t v := hval0
  have hW' := hW
  obtain ⟨p, q, hA0, hV, rfl, hfz, hnd⟩ := hW
  have hA : DataW.TrodAll enc Try.prog W 0 (fun _ => true) true Try.f5.params.toList args.toList ds p := hA0
  rw [Try.params5] at hA hval hsz
  obtain ⟨v0, vs0, d0, ds0, p0, q0, hargs, rfl, rfl, h0, r0⟩ := trodAll_cons hA
  obtain ⟨v1, vs1, d1, ds1, p1, q1, rfl, rfl, rfl, h1, r1⟩ := trodAll_cons r0
  obtain ⟨rfl, rfl, rfl⟩ := trodAll_nil r1
  obtain rfl : args = #[v0, v1] := by cases args; simp_all
  obtain ⟨rfl, rfl⟩ := trodVars_none hV
  obtain ⟨a0, rfl, rfl, rfl, w0⟩ := open_int Try.underlying3 (hval 0 3 v0 rfl rfl) h0
  obtain ⟨a1, rfl, rfl, rfl, w1⟩ := open_int Try.underlying3 (hval 1 3 v1 rfl rfl) h1
  clear hA0 hval0 hsz0 hsz
  refine (NormOne_walk W a0 (inI64_wf w0) a1 (inI64_wf w1)).mono fun e W' ⟨he, bel⟩ => ?_
  subst he
  exact ⟨_, rfl, _, _, _, [], _, [], hW', trodAll_mk1 (shut_bool Try.underlying4 _), (trodAll_cons_mk (shut_int Try.underlying3 w0) (trodAll_cons_mk (shut_int Try.underlying3 w1) trodAll_mk0)), rfl, bel.out.frame _, fun h => by cases h⟩
theorem over : Rows.normOneRow.holds Try.pinned (OpenSpec.ofChange Rows.normOneSpec) :=
  OpenClaim.holds_of_wide 5 Try.f5 rfl rfl rfl rfl rfl rfl rfl ⟨rfl, rfl, rfl, rfl, rfl⟩ rfl rfl rfl rfl rfl (by kernel_rfl) Try.func5 (by kernel_rfl)
    (of_decide_eq_true (by kernel_rfl)) (by unfold Func.isWrapper; first | (rw [if_pos (by decide +kernel)]; kernel_rfl) | (rw [if_neg (by decide +kernel)]; exact ⟨rfl, rfl⟩))
    (fun os started H enc _ => lifted os started H enc)
end Go.Proofs.Ytfkopkjioohgoaa.rowNormOne
namespace Go.Proofs.Ytfkopkjioohgoaa
theorem NormOne_holds : Rows.NormOneSaid := rowNormOne.over
#print axioms NormOne_holds
end Go.Proofs.Ytfkopkjioohgoaa
