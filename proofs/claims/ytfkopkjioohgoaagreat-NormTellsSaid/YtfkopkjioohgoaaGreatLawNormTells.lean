/- NormTells: of any pattern, by any budget: its words as a set, and what that spent, or why not. -/
import Derived.Test.YtfkopkjioohgoaaGreatNormW
import Derived.Test.YtfkopkjioohgoaaGreatPureY
import Derived.Test.YtfkopkjioohgoaaGreatWak8
import Derived.Test.YtfkopkjioohgoaaGreatMI
import Derived.Test.YtfkopkjioohgoaaGreatMK
import Derived.Test.YtfkopkjioohgoaaGreatMB
set_option linter.unusedVariables false
set_option linter.unusedSimpArgs false
set_option linter.all false
namespace Go.Proofs.YtfkopkjioohgoaaGreat
open Go.RowKit Go.Cb Go.Sort
set_option maxHeartbeats 64000000 in
set_option maxRecDepth 100000 in
theorem NormTells_walk (w : World) (C : Option Addr) (cc : Nat) (l : List Int) (hl : Rd intT w All C cc l) (il : ∀ x ∈ l, inI64 x) (_ : l.length * 8 ≤ 140737488351232) (budget : Int) (_ : inI64 budget) (tags : Int) (_ : inI64 tags) :
    Calls Tryz.prog 3 #[.slice C l.length cc, .int .i64 budget, .int .i64 tags] w fun e w' => e = .returned (.bool true) ∧ Bel w w' := by
  obtain ⟨p, hp⟩ : ∃ p, playPat l = p := ⟨_, rfl⟩
  have Hp := Lib.hid hp
  have hr := withinI_range (v := budget) (n := 500) (by decide)
  obtain ⟨B, hB⟩ : ∃ B, withinI budget 500 = B := ⟨_, rfl⟩
  have HBd := Lib.hid hB
  rw [hB] at hr
  have HBr := Lib.hid hr
  clear hp hB hr
  by_cases h0 : tags.tmod 3 = 0
  · have e0 : (tags.tmod 3 != 0) = false := by simp [h0]
    clear h0
    obtain ⟨tt, htt⟩ : ∃ tt, tt = tags := ⟨_, rfl⟩
    subst htt
    go_enter Tryz.func3, Tryz.ntmps3
    have Q := playPat_c _ C cc l w hl il _ rfl
    rw [Hp.out] at Q
    have HQ := Lib.hid Q
    clear Q
    go_wp2_with fail
    refine HQ.out.mono ?_
    rintro e w1 ⟨Ax, cx, rfl, hr, hb⟩
    clear HQ
    have hr0 := hr.bound
    have HS0 := Lib.hid (fun W (h : Bel w1 W) => (hr0.to h))
    have HW := Lib.hid hb
    clear hr hr0 hb
    go_wp2_with fail
    refine (within_c budget 500 _ (by decide)).mono ?_
    rw [HBd.out]
    rintro e wB ⟨rfl, rfl⟩
    have hBr := HBr.out
    go_wp2_with fail
    refine (newMeter_s1 B _ (by omega)).mono ?_
    rintro e wm ⟨g, rfl, hg, HM, hb⟩
    have HBN := hb
    clear hb
    go_wp2_with fail
    refine (newMeter_s2 B _ (by omega)).mono ?_
    rintro e W0 ⟨g2, rfl, hg2, HR, hb⟩
    have hgl := HM.lt
    have hne : g ≠ g2 := by omega
    replace HM := HM.to hb
    replace HBN := HBN.trans hb
    have hNg : w1.heap.size ≤ g := by omega
    have hNg2 : w1.heap.size ≤ g2 := by omega
    rw [show max B 0 = B by omega] at HM HR
    clear hb hg hg2 hgl
    have hB9 : B ≤ 9223372036854775807 := by omega
    have hB0 : 0 ≤ B := by omega
    obtain ⟨s1, o1, f0, l0, l1⟩ := normS_bud B 0 false hB0 p tt
    obtain ⟨a, ha⟩ : ∃ a, (normS (some (B, 0, false)) p tt).2.1 = a := ⟨_, rfl⟩
    obtain ⟨ec, hec⟩ : ∃ e, (normS (some (B, 0, false)) p tt).2.2 = e := ⟨_, rfl⟩
    have E0 := Lib.hid (show normS (some (B, 0, false)) p tt = (some (B, s1, o1), a, ec) by rw [← f0, ← ha, ← hec])
    clear f0 ha hec
    have HMK := Lib.hid HM
    have HRK := Lib.hid HR
    have hgs1 := HM.lt
    have hrs1 := HR.lt
    have Q := normOf_c (.pointer (some ⟨g, 0, none⟩)) (some g) (some (B, 0, false)) _ Ax cx p tt W0 (MetO.of1 HM (Int.le_refl _) hB0 hB9) (HS0.out _ HBN) (fun j hj e => by injection e with e; have := hj.2; omega) _ rfl (fun hc => norm_fit_any hc _)
    rw [E0.out] at Q
    dsimp only at Q
    have HQ := Lib.hid Q
    clear Q HM HR
    go_wp2_with fail
    refine HQ.out.mono ?_
    clear HQ
    rintro e wa ⟨v, rfl, r, hm, hg⟩
    obtain ⟨Aa, cA, rfl, hra⟩ := r.rd
    have HM := (hm.at1 rfl).1
    have HR := HRK.out.by_ hg (Ne.symm hne)
    have HBN := HBN.grown hg (fun j e => by injection e with e; omega)
    clear hm hg HMK HRK
    have HMK := Lib.hid HM
    have HRK := Lib.hid HR
    have hgs2 := HM.lt
    have hrs2 := HR.lt
    have Q := refNormS_c (.pointer (some ⟨g2, 0, none⟩)) (some g2) (some (B, 0, false)) _ Ax cx p tt wa (MetO.of1 HR (Int.le_refl _) hB0 hB9) (HS0.out _ HBN) (fun j hj e => by injection e with e; have := hj.2; omega) _ rfl (fun hc => norm_fit_any hc _)
    rw [E0.out] at Q
    dsimp only at Q
    have HQ := Lib.hid Q
    clear Q HM HR
    go_wp2_with fail
    refine HQ.out.mono ?_
    clear HQ
    rintro e wb ⟨v, rfl, r, hm, hg⟩
    obtain ⟨Ab, cB, rfl, hrb⟩ := r.rd
    have HR := (hm.at1 rfl).1
    have HM := HMK.out.by_ hg hne
    replace hra := (hra.bound.step' (fun j hj => hg.block j hj.2 (fun e => by injection e with e; have := hj.1; unfold Ge at this; omega))).all
    replace hrb := hrb.all
    have HBN := HBN.grown hg (fun j e => by injection e with e; omega)
    clear hm hg HMK HRK
    have HRA := Lib.hid (fun W (h : Bel wb W) => hra.to h)
    have HRB := Lib.hid (fun W (h : Bel wb W) => hrb.to h)
    have HMF := Lib.hid HM
    obtain ⟨q0, q1, q2, _⟩ := HR.cells
    have K1 := Lib.hid (show ∀ W', Bel wb W' → Calls Tryz.prog 10 #[.slice Aa a.length cA, .slice Ab a.length cB] W' fun e w' => e = .returned (.bool true) ∧ Bel W' w' from fun W' h => by
      have := sameSem_c _ _ Aa Ab cA cB a a W' (HRA.out _ h) (HRB.out _ h) _ _ rfl rfl
      rwa [decide_eq_true (show a = a from rfl)] at this)
    have K2 := Lib.hid (show ∀ W', Bel wb W' → Calls Tryz.prog 11 #[.pointer (some ⟨g, 0, none⟩)] W' fun e w' => e = .returned (.int .i64 s1) ∧ Bel W' w' from fun W' h => (spent_s1 g B s1 o1 W' (HMF.out.to h)).mono fun e w' ⟨a, b⟩ => ⟨a, by subst b; exact Bel.refl _⟩)
    have K3 := Lib.hid (show ∀ W', Bel wb W' → Calls Tryz.prog 12 #[.pointer (some ⟨g, 0, none⟩)] W' fun e w' => e = .returned (.bool o1) ∧ Bel W' w' from fun W' h => (out_s1 g B s1 o1 W' (HMF.out.to h)).mono fun e w' ⟨a, b⟩ => ⟨a, by subst b; exact Bel.refl _⟩)
    have K4 := Lib.hid (show ∀ W', Bel wb W' → Calls Tryz.prog 13 #[] W' fun e w' => e = .returned (.bool true) ∧ Bel W' w' from fun W' _ => wakes08 W')
    have Q1 := cellReg q1
    have Q2 := cellReg q2
    have HBF := Lib.hid (HW.out.trans HBN)
    have hso : ∀ b : Bool, (b == b) = true := fun b => by cases b <;> rfl
    have hRR := hso o1
    clear q0 q1 q2 hso hra hrb HBN HM HR
    go_wp2_with fail
    refine wp_region_quiet_below (by kernel_rfl) (by kernel_rfl) ?_
    repeat (go_big_quiet_step (first | with_reducible exact callsReg K1.out | with_reducible exact callsReg K2.out | with_reducible exact callsReg K3.out | with_reducible exact callsReg K4.out))
    refine wpQuiet_nil ?_
    intro _ hw'
    obtain ⟨⟨dq, oq⟩, hw''⟩ := hw'
    subst hw''
    go_wp2_with fail
    go_ret
    exact ⟨rfl, HBF.out.trans (bel_regrown wb dq oq)⟩
  · have e0 : (tags.tmod 3 != 0) = true := by simp [h0]
    clear h0
    go_enter Tryz.func3, Tryz.ntmps3
    have Q := playPat_c _ C cc l w hl il _ rfl
    rw [Hp.out] at Q
    have HQ := Lib.hid Q
    clear Q
    go_wp2_with fail
    refine HQ.out.mono ?_
    rintro e w1 ⟨Ax, cx, rfl, hr, hb⟩
    clear HQ
    have hr0 := hr.bound
    have HS0 := Lib.hid (fun W (h : Bel w1 W) => (hr0.to h))
    have HW := Lib.hid hb
    clear hr hr0 hb
    go_wp2_with fail
    refine (within_c budget 500 _ (by decide)).mono ?_
    rw [HBd.out]
    rintro e wB ⟨rfl, rfl⟩
    have hBr := HBr.out
    go_wp2_with fail
    refine (newMeter_s1 B _ (by omega)).mono ?_
    rintro e wm ⟨g, rfl, hg, HM, hb⟩
    have HBN := hb
    clear hb
    go_wp2_with fail
    refine (newMeter_s2 B _ (by omega)).mono ?_
    rintro e W0 ⟨g2, rfl, hg2, HR, hb⟩
    have hgl := HM.lt
    have hne : g ≠ g2 := by omega
    replace HM := HM.to hb
    replace HBN := HBN.trans hb
    have hNg : w1.heap.size ≤ g := by omega
    have hNg2 : w1.heap.size ≤ g2 := by omega
    rw [show max B 0 = B by omega] at HM HR
    clear hb hg hg2 hgl
    have hB9 : B ≤ 9223372036854775807 := by omega
    have hB0 : 0 ≤ B := by omega
    obtain ⟨s1, o1, f0, l0, l1⟩ := normS_bud B 0 false hB0 p 4
    obtain ⟨a, ha⟩ : ∃ a, (normS (some (B, 0, false)) p 4).2.1 = a := ⟨_, rfl⟩
    obtain ⟨ec, hec⟩ : ∃ e, (normS (some (B, 0, false)) p 4).2.2 = e := ⟨_, rfl⟩
    have E0 := Lib.hid (show normS (some (B, 0, false)) p 4 = (some (B, s1, o1), a, ec) by rw [← f0, ← ha, ← hec])
    clear f0 ha hec
    have HMK := Lib.hid HM
    have HRK := Lib.hid HR
    have hgs1 := HM.lt
    have hrs1 := HR.lt
    have Q := normOf_c (.pointer (some ⟨g, 0, none⟩)) (some g) (some (B, 0, false)) _ Ax cx p 4 W0 (MetO.of1 HM (Int.le_refl _) hB0 hB9) (HS0.out _ HBN) (fun j hj e => by injection e with e; have := hj.2; omega) _ rfl (fun hc => norm_fit_any hc _)
    rw [E0.out] at Q
    dsimp only at Q
    have HQ := Lib.hid Q
    clear Q HM HR
    go_wp2_with fail
    refine HQ.out.mono ?_
    clear HQ
    rintro e wa ⟨v, rfl, r, hm, hg⟩
    obtain ⟨Aa, cA, rfl, hra⟩ := r.rd
    have HM := (hm.at1 rfl).1
    have HR := HRK.out.by_ hg (Ne.symm hne)
    have HBN := HBN.grown hg (fun j e => by injection e with e; omega)
    clear hm hg HMK HRK
    have HMK := Lib.hid HM
    have HRK := Lib.hid HR
    have hgs2 := HM.lt
    have hrs2 := HR.lt
    have Q := refNormS_c (.pointer (some ⟨g2, 0, none⟩)) (some g2) (some (B, 0, false)) _ Ax cx p 4 wa (MetO.of1 HR (Int.le_refl _) hB0 hB9) (HS0.out _ HBN) (fun j hj e => by injection e with e; have := hj.2; omega) _ rfl (fun hc => norm_fit_any hc _)
    rw [E0.out] at Q
    dsimp only at Q
    have HQ := Lib.hid Q
    clear Q HM HR
    go_wp2_with fail
    refine HQ.out.mono ?_
    clear HQ
    rintro e wb ⟨v, rfl, r, hm, hg⟩
    obtain ⟨Ab, cB, rfl, hrb⟩ := r.rd
    have HR := (hm.at1 rfl).1
    have HM := HMK.out.by_ hg hne
    replace hra := (hra.bound.step' (fun j hj => hg.block j hj.2 (fun e => by injection e with e; have := hj.1; unfold Ge at this; omega))).all
    replace hrb := hrb.all
    have HBN := HBN.grown hg (fun j e => by injection e with e; omega)
    clear hm hg HMK HRK
    have HRA := Lib.hid (fun W (h : Bel wb W) => hra.to h)
    have HRB := Lib.hid (fun W (h : Bel wb W) => hrb.to h)
    have HMF := Lib.hid HM
    obtain ⟨q0, q1, q2, _⟩ := HR.cells
    have K1 := Lib.hid (show ∀ W', Bel wb W' → Calls Tryz.prog 10 #[.slice Aa a.length cA, .slice Ab a.length cB] W' fun e w' => e = .returned (.bool true) ∧ Bel W' w' from fun W' h => by
      have := sameSem_c _ _ Aa Ab cA cB a a W' (HRA.out _ h) (HRB.out _ h) _ _ rfl rfl
      rwa [decide_eq_true (show a = a from rfl)] at this)
    have K2 := Lib.hid (show ∀ W', Bel wb W' → Calls Tryz.prog 11 #[.pointer (some ⟨g, 0, none⟩)] W' fun e w' => e = .returned (.int .i64 s1) ∧ Bel W' w' from fun W' h => (spent_s1 g B s1 o1 W' (HMF.out.to h)).mono fun e w' ⟨a, b⟩ => ⟨a, by subst b; exact Bel.refl _⟩)
    have K3 := Lib.hid (show ∀ W', Bel wb W' → Calls Tryz.prog 12 #[.pointer (some ⟨g, 0, none⟩)] W' fun e w' => e = .returned (.bool o1) ∧ Bel W' w' from fun W' h => (out_s1 g B s1 o1 W' (HMF.out.to h)).mono fun e w' ⟨a, b⟩ => ⟨a, by subst b; exact Bel.refl _⟩)
    have K4 := Lib.hid (show ∀ W', Bel wb W' → Calls Tryz.prog 13 #[] W' fun e w' => e = .returned (.bool true) ∧ Bel W' w' from fun W' _ => wakes08 W')
    have Q1 := cellReg q1
    have Q2 := cellReg q2
    have HBF := Lib.hid (HW.out.trans HBN)
    have hso : ∀ b : Bool, (b == b) = true := fun b => by cases b <;> rfl
    have hRR := hso o1
    clear q0 q1 q2 hso hra hrb HBN HM HR
    go_wp2_with fail
    refine wp_region_quiet_below (by kernel_rfl) (by kernel_rfl) ?_
    repeat (go_big_quiet_step (first | with_reducible exact callsReg K1.out | with_reducible exact callsReg K2.out | with_reducible exact callsReg K3.out | with_reducible exact callsReg K4.out))
    refine wpQuiet_nil ?_
    intro _ hw'
    obtain ⟨⟨dq, oq⟩, hw''⟩ := hw'
    subst hw''
    go_wp2_with fail
    go_ret
    exact ⟨rfl, HBF.out.trans (bel_regrown wb dq oq)⟩
end Go.Proofs.YtfkopkjioohgoaaGreat
namespace Go.Proofs.YtfkopkjioohgoaaGreat.rowNormTells
open Go.ChangeShapes Go.WideShapes Go.ChangeAt Go.RowKit Go.Cb
open Go.ChangeMaps (open_string shut_string)
theorem own : ownKnob Tryz.prog.godebug = none := by kernel_rfl
theorem laidOut : laidOutB Tryz.prog = true := by kernel_rfl
set_option maxRecDepth 100000 in
theorem lifted (os : Os) (started : os.Started) (H : Type) (enc : TypeId × Value → H) :
    ReturnsInHanded {} Tryz.checked os 3 .any (Rows.normTellsSpec.pre6 enc Tryz.prog Tryz.f3 Rows.normTellsRow.domain false) (Rows.normTellsSpec.post enc Tryz.prog Tryz.f3 false true false false) := by
  refine returnsInHanded_of_change_sized (C := Tryz.checked) own started (by kernel_rfl) Tryz.func3
    (ChangeSpec.witness6 (enc := enc) (C := Tryz.checked) false ⟨#[], #[.slice none 0 0, .int .i64 0, .int .i64 0], []⟩ 8 (by kernel_rfl) (by kernel_rfl) (by kernel_rfl) (by kernel_rfl)) ?_
  intro W base args ds gs before hval0 hW hcnd hsz0 _
  have hsz : (DataW.weightsEach Tryz.prog (Tryz.f3.params.toList ++ Rows.normTellsSpec.plain.varTypes Tryz.prog) (ds ++ gs)).all (· ≤ reachBytes) = true := hsz0
  have hval : ∀ (j : Nat) t v, Tryz.f3.params[j]? = some t → args[j]? = some v → Value.okWide Tryz.prog W .any base t v := hval0
  have hW' := hW
  obtain ⟨p, q, hA0, hV, rfl, hfz, hnd⟩ := hW
  have hA : DataW.TrodAll enc Tryz.prog W 0 (fun _ => true) true Tryz.f3.params.toList args.toList ds p := hA0
  rw [Tryz.params3] at hA hval hsz
  obtain ⟨v0, vs0, d0, ds0, p0, q0, hargs, rfl, rfl, h0, r0⟩ := trodAll_cons hA
  obtain ⟨v1, vs1, d1, ds1, p1, q1, rfl, rfl, rfl, h1, r1⟩ := trodAll_cons r0
  obtain ⟨v2, vs2, d2, ds2, p2, q2, rfl, rfl, rfl, h2, r2⟩ := trodAll_cons r1
  obtain ⟨rfl, rfl, rfl⟩ := trodAll_nil r2
  obtain rfl : args = #[v0, v1, v2] := by cases args; simp_all
  obtain ⟨rfl, rfl⟩ := trodVars_none hV
  obtain ⟨a0, len0, cap0, rfl⟩ := okWide_slice Tryz.underlying22 (hval 0 22 v0 rfl rfl)
  have k0 := h0
  have lt0 : ∀ x ∈ p0, x.block < W.heap.size := by obtain ⟨m, hm⟩ := k0; exact DataW.trod_lt m _ _ _ hm
  obtain ⟨l0, rfl, R0, wf0, sz0⟩ := open_rd hsz (j := 0) (t := 22) rfl rfl Tryz.underlying22 Tryz.underlying3 (by kernel_rfl) (by kernel_rfl) h0
  obtain ⟨a1, rfl, rfl, rfl, w1⟩ := open_int Tryz.underlying3 (hval 1 3 v1 rfl rfl) h1
  obtain ⟨a2, rfl, rfl, rfl, w2⟩ := open_int Tryz.underlying3 (hval 2 3 v2 rfl rfl) h2
  clear hA0 hval0 hsz0 hsz
  refine (NormTells_walk W a0 cap0 l0 R0 (fun x hx => inI64_wf (wf0 x hx)) sz0 a1 (inI64_wf w1) a2 (inI64_wf w2)).mono fun e W' ⟨he, bel⟩ => ?_
  subst he
  exact ⟨_, rfl, _, _, _, [], _, [], hW', trodAll_mk1 (shut_bool Tryz.underlying4 _), (trodAll_cons_mk (Below.trod laidOut (by kernel_rfl) (of_decide_eq_true (by kernel_rfl)) k0 bel.out lt0) (trodAll_cons_mk (shut_int Tryz.underlying3 w1) (trodAll_cons_mk (shut_int Tryz.underlying3 w2) trodAll_mk0))), rfl, bel.out.frame _, fun h => by cases h⟩
theorem over : Rows.normTellsRow.holds Tryz.pinned (OpenSpec.ofChange Rows.normTellsSpec) :=
  OpenClaim.holds_of_wide 3 Tryz.f3 rfl rfl rfl rfl rfl rfl rfl ⟨rfl, rfl, rfl, rfl, rfl⟩ rfl rfl rfl rfl rfl (by kernel_rfl) Tryz.func3 (by kernel_rfl)
    (of_decide_eq_true (by kernel_rfl)) (by unfold Func.isWrapper; first | (rw [if_pos (by decide +kernel)]; kernel_rfl) | (rw [if_neg (by decide +kernel)]; exact ⟨rfl, rfl⟩))
    (fun os started H enc _ => lifted os started H enc)
end Go.Proofs.YtfkopkjioohgoaaGreat.rowNormTells
namespace Go.Proofs.YtfkopkjioohgoaaGreat
theorem NormTells_holds : Rows.NormTellsSaid := rowNormTells.over
#print axioms NormTells_holds
end Go.Proofs.YtfkopkjioohgoaaGreat
