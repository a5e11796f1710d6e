/- The statement ClockTells. -/
import Derived.Test.YtamihjibdcccmaaClks
set_option linter.unusedVariables false
set_option linter.unusedSimpArgs false
set_option linter.all false
namespace Go.Proofs.Ytamihjibdcccmaa
open Go.RowKit Go.Cb Go.Sort
set_option maxHeartbeats 32000000 in
set_option maxRecDepth 100000 in
theorem ClockTells_walk (w : World) (A : Option Addr) (c : Nat) (l : List (Int × Int × Int × List Int)) (hl : Rd raw29T w All A c l) (il : Raw29Ok l) (i : Int) (ii : inI64 i) (j : Int) (ij : inI64 j) :
    Calls Try.prog 4 #[.slice A l.length c, .int .i64 i, .int .i64 j] w fun e w' => e = .returned (.bool true) ∧ Bel w w' := by
  have HO := Lib.hid (of29_c w A c l hl _ rfl)
  have IL := Lib.hid (evsR_ok il 24 24)
  have H24 := Lib.hid (show ((l.take 24).map evR).length ≤ 24 by rw [List.length_map]; exact List.length_take_le 24 l)
  clear hl il
  go_enter Try.func4, Try.ntmps4
  go_wp2_with fail
  refine HO.out.mono ?_
  rintro e w1 ⟨A1, c1, he, hr1, hb1⟩
  have hce : (l.take 24).length = ((l.take 24).map evR).length := by simp
  rw [hce] at he
  subst he
  have HR1 := Lib.hid hr1
  have HB1 := Lib.hid hb1
  clear hr1 hb1 hce HO
  have IL2 := Lib.hid (show ∀ x ∈ (l.take 24).map evR, inI64 x.a ∧ inI64 x.n from fun x hx => IL.out x (by rw [List.take_of_length_le H24.out]; exact hx))
  clear IL
  generalize (l.take 24).map evR = es at *
  obtain ⟨n, hn⟩ : ∃ n, es.length = n := ⟨_, rfl⟩
  have HN := Lib.hid hn
  have n24 : n ≤ 24 := hn ▸ H24.out
  rw [hn]
  clear hn H24
  have KW := Lib.hid (show ∀ (v : Int) W', Calls Try.prog 10 #[.int .i64 v, .int .i64 ((n : Int) + 1)] W' fun e w' => e = .returned (.int .i64 (withinI v ((n : Int) + 1))) ∧ W' = w' from fun v W' => within_c v _ W' (by omega))
  have KB := Lib.hid (show ∀ W', Bel w1 W' → ∀ i j : Int, Calls Try.prog 8 #[.slice A1 n c1, .int .i64 i, .int .i64 j] W' fun e w' => e = .returned (.bool (befE es i j)) ∧ Bel W' w' from fun W' h i j => before_c W' A1 c1 es (HR1.out.to h) (by rw [HN.out]; exact n24) IL2.out i j n HN.out.symm)
  have KR := Lib.hid (show ∀ W', Bel w1 W' → ∀ i j : Int, Calls Try.prog 11 #[.slice A1 n c1, .int .i64 i, .int .i64 j] W' fun e w' => e = .returned (.bool (befE es i j)) ∧ Bel W' w' from fun W' h i j => refBefore_c W' A1 c1 es (HR1.out.to h) (by rw [HN.out]; omega) i j n HN.out.symm)
  go_wp2_with fail
  refine (KW.out i _).mono ?_
  rintro e _ ⟨rfl, rfl⟩
  go_wp2_with fail
  refine (KW.out j _).mono ?_
  rintro e _ ⟨rfl, rfl⟩
  go_wp2_with fail
  have hnw := heap_alloc_new w1 (.cells #[.int .i64 i, .int .i64 j, .int .i64 (withinI i ((n : Int) + 1)), .int .i64 (withinI j ((n : Int) + 1))] 34)
  have hal : Bel w1 (w1.alloc (.cells #[.int .i64 i, .int .i64 j, .int .i64 (withinI i ((n : Int) + 1)), .int .i64 (withinI j ((n : Int) + 1))] 34)) := (Bel.refl _).alloc _
  generalize withinI i ((n : Int) + 1) = i' at *
  generalize withinI j ((n : Int) + 1) = j' at *
  obtain ⟨g, hg⟩ : ∃ g, w1.heap.size = g := ⟨_, rfl⟩
  rw [hg] at hnw ⊢
  generalize w1.alloc (.cells #[.int .i64 i, .int .i64 j, .int .i64 i', .int .i64 j'] 34) = w2 at *
  have HNW := Lib.hid hnw
  have HAL := Lib.hid hal
  clear hnw hal hg KW
  go_loopw [28] (fun v28 wr => ∃ (k : Nat) (W : World), W = wr ∧ k ≤ 2 ∧ v28 = .int .i64 k ∧ Bel w2 W) (fun v28 _ => 2 - (intOf v28).toNat)
  case atStart => exact ⟨0, _, rfl, Nat.zero_le _, rfl, Bel.refl _⟩
  case round =>
    obtain ⟨k, W, rfl, hk, rfl, hbW⟩ := hrel
    have HBW := Lib.hid hbW
    clear hbW
    by_cases hlk : k < 2
    · have hkk := (HBW.out.block (blk_lt HNW.out)).trans HNW.out
      obtain ⟨p, q, c0, c1'⟩ : ∃ p q : Int, W.cell? ⟨g, k * 2, none⟩ = some (.int .i64 p) ∧ W.cell? ⟨g, k * 2 + 1, none⟩ = some (.int .i64 q) := by
        have e : k = 0 ∨ k = 1 := by omega
        rcases e with rfl | rfl
        · exact ⟨i, j, cellAt hkk 0, cellAt hkk 1⟩
        · exact ⟨i', j', cellAt hkk 2, cellAt hkk 3⟩
      have hal3 : Bel W (W.alloc (.cells #[.int .i64 p, .int .i64 q] 34)) := (Bel.refl _).alloc _
      have hnw3 := heap_alloc_new W (.cells #[.int .i64 p, .int .i64 q] 34)
      have z0 : (W.alloc (.cells #[.int .i64 p, .int .i64 q] 34)).cell? ⟨W.heap.size, 0, none⟩ = some (.int .i64 p) := cellAt hnw3 0
      have z1 : (W.alloc (.cells #[.int .i64 p, .int .i64 q] 34)).cell? ⟨W.heap.size, 1, none⟩ = some (.int .i64 q) := cellAt hnw3 1
      have HB3 := Lib.hid (HAL.out.trans (HBW.out.trans hal3))
      have HBW3 := Lib.hid (HBW.out.trans hal3)
      have k1 : (k : Int) < 2 := by omega
      clear hkk hal3 hnw3
      go_wp2_with fail
      clear c0 c1'
      generalize W.heap.size = gx at *
      generalize W.alloc (.cells #[.int .i64 p, .int .i64 q] 34) = W3 at *
      have Z0 := cellReg z0
      have Z1 := cellReg z1
      obtain ⟨b, hb⟩ : ∃ b, befE es p q = b := ⟨_, rfl⟩
      have K1 := Lib.hid (show ∀ W', Bel W3 W' → Calls Try.prog 8 #[.slice A1 n c1, .int .i64 p, .int .i64 q] W' fun e w' => e = .returned (.bool b) ∧ Bel W' w' from fun W' h => by have := KB.out W' (HB3.out.trans h) p q; rwa [hb] at this)
      have K2 := Lib.hid (show ∀ W', Bel W3 W' → Calls Try.prog 11 #[.slice A1 n c1, .int .i64 p, .int .i64 q] W' fun e w' => e = .returned (.bool b) ∧ Bel W' w' from fun W' h => by have := KR.out W' (HB3.out.trans h) p q; rwa [hb] at this)
      clear hb
      refine wp_region_quiet_below (by kernel_rfl) (by kernel_rfl) ?_
      repeat (go_big_quiet_step (first | with_reducible exact callsReg K1.out | with_reducible exact callsReg K2.out))
      refine wpQuiet_nil ?_
      intro _ hw'
      obtain ⟨⟨dq, oq⟩, hw''⟩ := hw'
      subst hw''
      have HBQ := Lib.hid (HBW3.out.trans (bel_regrown W3 dq oq))
      generalize grow (redrawn W3 dq) oq = W9 at *
      clear Z0 Z1 z0 z1
      go_wp2_with fail
      go_roundw
      case rel => exact ⟨k + 1, _, rfl, by omega, by go_num, HBQ.out⟩
      case measure => simp [intOf]; omega
    · obtain rfl : k = 2 := by omega
      have HR2 := Lib.hid (HR1.out.to (HAL.out.trans HBW.out))
      have HBB := Lib.hid (HB1.out.trans (HAL.out.trans HBW.out))
      have HC := Lib.hid (clocks29_c W A1 c1 es HR2.out (by rw [HN.out]; exact n24) IL2.out n HN.out.symm)
      clear KB KR
      go_wp2_with fail
      refine HC.out.mono ?_
      rintro e w4 ⟨rfl, hb4⟩
      have HR4 := Lib.hid (HR2.out.to hb4)
      have HB4 := Lib.hid (HBB.out.trans hb4)
      have HQ := Lib.hid (races_c w4 A1 c1 es HR4.out (by rw [HN.out]; exact n24) IL2.out n HN.out.symm)
      clear hb4 HC
      go_wp2_with fail
      refine HQ.out.mono ?_
      rintro e w5 ⟨A5, c5, rfl, hr5, hb5⟩
      have HR5 := Lib.hid hr5
      have HB5 := Lib.hid (HB4.out.trans hb5)
      have HQ2 := Lib.hid (refRaces_c w5 A1 c1 es (HR4.out.to hb5) (by rw [HN.out]; exact n24) n HN.out.symm)
      clear hr5 hb5 HQ
      go_wp2_with fail
      refine HQ2.out.mono ?_
      rintro e w6 ⟨A6, c6, rfl, hr6, hb6⟩
      have HR6 := Lib.hid hr6
      have HR56 := Lib.hid (HR5.out.to hb6)
      have HB6 := Lib.hid (HB5.out.trans hb6)
      clear hr6 hb6 HQ2
      generalize racesE es es.length = rs at *
      have HS := Lib.hid (same2_c _ _ w6 A5 A6 c5 c6 rs HR56.out HR6.out _ _ rfl rfl)
      go_wp2_with fail
      refine HS.out.mono ?_
      rintro e w7 ⟨rfl, hb7⟩
      have HB7 := Lib.hid (HB6.out.trans hb7)
      clear hb7 HS
      go_wp2_with fail
      refine (wakes29_c _).mono ?_
      rintro e w8 ⟨rfl, hb8⟩
      have HB8 := Lib.hid (HB7.out.trans hb8)
      clear hb8
      go_wp2_with fail
      go_ret
      exact ⟨rfl, HB8.out⟩
end Go.Proofs.Ytamihjibdcccmaa
namespace Go.Proofs.Ytamihjibdcccmaa.rowClockTells
open Go.ChangeShapes Go.WideShapes Go.ChangeAt Go.RowKit Go.Cb
open Go.ChangeMaps (open_string shut_string)
theorem own : ownKnob Try.prog.godebug = none := by kernel_rfl
theorem laidOut : laidOutB Try.prog = true := by kernel_rfl
set_option maxRecDepth 100000 in
theorem lifted (os : Os) (started : os.Started) (H : Type) (enc : TypeId × Value → H) :
    ReturnsInHanded {} Try.checked os 4 .any (Rows.clockTellsSpec.pre6 enc Try.prog Try.f4 Rows.clockTellsRow.domain false) (Rows.clockTellsSpec.post enc Try.prog Try.f4 false true false false) := by
  refine returnsInHanded_of_change_sized (C := Try.checked) own started (by kernel_rfl) Try.func4
    (ChangeSpec.witness6 (enc := enc) (C := Try.checked) false ⟨#[], #[.slice none 0 0, .int .i64 0, .int .i64 0], []⟩ 8 (by kernel_rfl) (by kernel_rfl) (by kernel_rfl) (by kernel_rfl)) ?_
  intro W base args ds gs before hval0 hW hcnd hsz0 _
  have hsz : (DataW.weightsEach Try.prog (Try.f4.params.toList ++ Rows.clockTellsSpec.plain.varTypes Try.prog) (ds ++ gs)).all (· ≤ reachBytes) = true := hsz0
  have hval : ∀ (j : Nat) t v, Try.f4.params[j]? = some t → args[j]? = some v → Value.okWide Try.prog W .any base t v := hval0
  have hW' := hW
  obtain ⟨p, q, hA0, hV, rfl, hfz, hnd⟩ := hW
  have hA : DataW.TrodAll enc Try.prog W 0 (fun _ => true) true Try.f4.params.toList args.toList ds p := hA0
  rw [Try.params4] at hA hval hsz
  obtain ⟨v0, vs0, d0, ds0, p0, q0, hargs, rfl, rfl, h0, r0⟩ := trodAll_cons hA
  obtain ⟨v1, vs1, d1, ds1, p1, q1, rfl, rfl, rfl, h1, r1⟩ := trodAll_cons r0
  obtain ⟨v2, vs2, d2, ds2, p2, q2, rfl, rfl, rfl, h2, r2⟩ := trodAll_cons r1
  obtain ⟨rfl, rfl, rfl⟩ := trodAll_nil r2
  obtain rfl : args = #[v0, v1, v2] := by cases args; simp_all
  obtain ⟨rfl, rfl⟩ := trodVars_none hV
  obtain ⟨a0, len0, cap0, rfl⟩ := okWide_slice Try.underlying22 (hval 0 22 v0 rfl rfl)
  have k0 := h0
  have lt0 : ∀ x ∈ p0, x.block < W.heap.size := by obtain ⟨m, hm⟩ := k0; exact DataW.trod_lt m _ _ _ hm
  obtain ⟨m0, hm0⟩ := h0
  obtain ⟨x0, R0, ok0⟩ := opensRaws29 _ _ _ _ _ _ _ _ _ hm0
  replace R0 : (sl raw29T).rd W All x0 [.slice a0 len0 cap0] := R0
  obtain ⟨A0, c0, eq0, q0⟩ := R0
  obtain ⟨rfl, rfl, rfl⟩ : a0 = A0 ∧ len0 = x0.length ∧ cap0 = c0 := by simpa using eq0
  obtain ⟨a1, rfl, rfl, rfl, w1⟩ := open_int Try.underlying3 (hval 1 3 v1 rfl rfl) h1
  obtain ⟨a2, rfl, rfl, rfl, w2⟩ := open_int Try.underlying3 (hval 2 3 v2 rfl rfl) h2
  clear hA0 hval0 hsz0 hsz
  refine (ClockTells_walk W a0 cap0 x0 q0 ok0 a1 (inI64_wf w1) a2 (inI64_wf w2)).mono fun e W' ⟨he, bel⟩ => ?_
  subst he
  exact ⟨_, rfl, _, _, _, [], _, [], hW', trodAll_mk1 (shut_bool Try.underlying4 _), (trodAll_cons_mk (Below.trod laidOut (by kernel_rfl) (of_decide_eq_true (by kernel_rfl)) k0 bel.out lt0) (trodAll_cons_mk (shut_int Try.underlying3 w1) (trodAll_cons_mk (shut_int Try.underlying3 w2) trodAll_mk0))), rfl, bel.out.frame _, fun h => by cases h⟩
theorem over : Rows.clockTellsRow.holds Try.pinned (OpenSpec.ofChange Rows.clockTellsSpec) :=
  OpenClaim.holds_of_wide 4 Try.f4 rfl rfl rfl rfl rfl rfl rfl ⟨rfl, rfl, rfl, rfl, rfl⟩ rfl rfl rfl rfl rfl (by kernel_rfl) Try.func4 (by kernel_rfl)
    (of_decide_eq_true (by kernel_rfl)) (by unfold Func.isWrapper; first | (rw [if_pos (by decide +kernel)]; kernel_rfl) | (rw [if_neg (by decide +kernel)]; exact ⟨rfl, rfl⟩))
    (fun os started H enc _ => lifted os started H enc)
end Go.Proofs.Ytamihjibdcccmaa.rowClockTells
namespace Go.Proofs.Ytamihjibdcccmaa
theorem ClockTells_holds : Rows.ClockTellsSaid := rowClockTells.over
#print axioms ClockTells_holds
end Go.Proofs.Ytamihjibdcccmaa
