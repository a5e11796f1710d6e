/- The statement ClockOrder. -/
import Derived.Test.YtjhnenineachaaaClk9
set_option linter.unusedVariables false
set_option linter.unusedSimpArgs false
set_option linter.all false
namespace Go.Proofs.Ytjhnenineachaaa
open Go.RowKit Go.Cb Go.Sort
set_option maxHeartbeats 32000000 in
set_option maxRecDepth 100000 in
theorem ClockOrder_walk (w : World) (A : Option Addr) (c : Nat) (l : List (Int × Int × Int × List Int)) (hl : Rd raw29T w All A c l) (il : Raw29Ok l) :
    Calls Try.prog 3 #[.slice A l.length c] w fun e w' => e = .returned (.bool true) ∧ Bel w w' := by
  have HO := Lib.hid (of29_c w A c l hl _ rfl)
  have IL := Lib.hid (evsR_ok il 24 14)
  have H14 := Lib.hid (List.length_take_le 14 ((l.take 24).map evR))
  clear hl il
  go_enter Try.func3, Try.ntmps3
  go_wp2_with fail
  refine HO.out.mono ?_
  rintro e w1 ⟨A1, c1, he, hr1, hb1⟩
  have hce : (l.take 24).length = ((l.take 24).map evR).length := by simp
  rw [hce] at he
  subst he
  have HC := Lib.hid (cutEvs_c evT rfl All A1 c1 _ 14 w1 hr1 _ rfl (by have := H14.out; omega) 14 rfl)
  have HB1 := Lib.hid hb1
  clear hr1 hb1 hce HO
  generalize (l.take 24).map evR = es at *
  go_wp2_with fail
  refine HC.out.mono ?_
  rintro e w2 ⟨v2, rfl, ho2, hb2⟩
  obtain ⟨A2, c2, rfl, hr2⟩ := ho2.rdAll
  have HR := Lib.hid hr2
  have HB2 := Lib.hid (HB1.out.trans hb2)
  clear ho2 hr2 hb2 HC HB1
  obtain ⟨ls, hls⟩ : ∃ ls, es.take 14 = ls := ⟨_, rfl⟩
  rw [hls] at HR IL H14 ⊢
  clear hls
  obtain ⟨n, hn⟩ : ∃ n, ls.length = n := ⟨_, rfl⟩
  have HN := Lib.hid hn
  have n14 : n ≤ 14 := hn ▸ H14.out
  rw [hn]
  clear hn H14
  have KB := Lib.hid (show ∀ W', Bel w2 W' → ∀ i j : Int, Calls Try.prog 8 #[.slice A2 n c2, .int .i64 i, .int .i64 j] W' fun e w' => e = .returned (.bool (befE ls i j)) ∧ Bel W' w' from fun W' h i j => before_c W' A2 c2 ls (HR.out.to h) (by have := HN.out; omega) IL.out i j n HN.out.symm)
  clear IL
  go_wp2
  go_loopw [13] (fun v13 wr => ∃ (i : Nat) (W : World), W = wr ∧ i ≤ n ∧ v13 = .int .i64 i ∧ Bel w2 W) (fun v13 _ => n - (intOf v13).toNat)
  case atStart => exact ⟨0, _, rfl, Nat.zero_le _, rfl, Bel.refl _⟩
  case round =>
    obtain ⟨i, WI, rfl, hi, rfl, hbi⟩ := hrel
    have HBI := Lib.hid hbi
    clear hbi
    by_cases hli : i < n
    · obtain ⟨⟨xa, xk, xn, xcs⟩, hx⟩ : ∃ x, ls[i]? = some x := ⟨_, List.getElem?_eq_getElem (HN.out ▸ hli)⟩
      have HX := Lib.hid hx
      have HXD := Lib.hid (show actE ls i = xa by unfold actE; rw [List.getD_eq_getElem?_getD, hx]; rfl)
      clear hx
      go_wp2
      go_loopw [18] (fun v18 wr => ∃ (j : Nat) (W : World), W = wr ∧ j ≤ n ∧ v18 = .int .i64 j ∧ Bel w2 W) (fun v18 _ => n - (intOf v18).toNat)
      case atStart => exact ⟨0, _, rfl, Nat.zero_le _, rfl, HBI.out⟩
      case round =>
        obtain ⟨j, W0, rfl, hj, rfl, hbj⟩ := hrel
        have HBJ0 := Lib.hid hbj
        clear hbj
        by_cases hlj : j < n
        · obtain ⟨⟨ya, yk, yn, ycs⟩, hy⟩ : ∃ x, ls[j]? = some x := ⟨_, List.getElem?_eq_getElem (HN.out ▸ hlj)⟩
          have HYD := Lib.hid (show actE ls j = ya by unfold actE; rw [List.getD_eq_getElem?_getD, hy]; rfl)
          have HY := Lib.hid hy
          clear hy
          obtain ⟨b, hb⟩ : ∃ b, aheadE ls i j = b := ⟨_, rfl⟩
          have HA := Lib.hid hb
          clear hb
          go_wp2_with fail
          refine (KB.out _ HBJ0.out i j).mono ?_
          rw [befE_yes (HN.out ▸ hli) (HN.out ▸ hlj), HA.out]
          rintro e WJ ⟨rfl, hbj⟩
          have HBJ := Lib.hid (HBJ0.out.trans hbj)
          clear hbj
          obtain ⟨ad, Ax, cx, ea, x0, _, _, _, _⟩ := (HR.out.to HBJ.out).ev HX.out
          obtain ⟨ad2, Ay, cy, ea2, y0, _, _, _, _⟩ := (HR.out.to HBJ.out).ev HY.out
          have ead : ad2 = ad := by
            have := ea2.symm.trans ea
            injection this
          subst ead
          dsimp only at x0 y0
          clear ea2
          subst ea
          have i1 : (i : Int) < (n : Int) := by omega
          have j1 : (j : Int) < (n : Int) := by omega
          have X0 := cellReg x0
          have Y0 := cellReg y0
          cases b with
          | true =>
            have hij : i < j := (aheadE_iff.1 HA.out).1
            have q1 : decide ((j : Int) ≤ (i : Int)) = false := decide_eq_false (by omega)
            have q2 : decide (j ≤ i) = false := decide_eq_false (by omega)
            have q3 : decide ((i : Int) < (j : Int)) = true := decide_eq_true (by omega)
            have q4 : decide (i < j) = true := decide_eq_true hij
            by_cases e : xa = ya
            · have q5 : (xa == ya) = true := by rw [e]; simp
              clear e
              go_wp2_with fail
              refine wp_region_quiet_below (by kernel_rfl) (by kernel_rfl) ?_
              repeat (go_big_quiet_step (fail))
              refine wpQuiet_nil ?_
              intro _ hw'
              obtain ⟨⟨dq, oq⟩, hw''⟩ := hw'
              subst hw''
              have HBQ := Lib.hid (HBJ.out.trans (bel_regrown WJ dq oq))
              generalize grow (redrawn WJ dq) oq = W3 at *
              clear X0 Y0 x0 y0
              go_wp2
              go_loopw [7] (fun v7 wr => ∃ (k : Nat) (W : World), W = wr ∧ k ≤ n ∧ v7 = .int .i64 k ∧ Bel w2 W) (fun v7 _ => n - (intOf v7).toNat)
              case atStart => exact ⟨j + 1, _, rfl, by omega, by go_num, HBQ.out⟩
              case round =>
                obtain ⟨k, W, rfl, hk, rfl, hbk⟩ := hrel
                have HBK := Lib.hid hbk
                clear hbk
                by_cases hlk : k < n
                · obtain ⟨b2, hb2⟩ : ∃ b, aheadE ls j k = b := ⟨_, rfl⟩
                  have HB2 := Lib.hid hb2
                  clear hb2
                  go_wp2_with fail
                  refine (KB.out _ HBK.out j k).mono ?_
                  rw [befE_yes (HN.out ▸ hlj) (HN.out ▸ hlk), HB2.out]
                  rintro e W5 ⟨rfl, hb5⟩
                  have HB5 := Lib.hid (HBK.out.trans hb5)
                  clear hb5
                  cases b2 with
                  | false =>
                    go_wp2_with fail
                    go_roundw
                    case rel => exact ⟨k + 1, _, rfl, by omega, by go_num, HB5.out⟩
                    case measure => simp [intOf]; omega
                  | true =>
                    go_wp2_with fail
                    refine (KB.out _ HB5.out i k).mono ?_
                    rw [befE_yes (HN.out ▸ hli) (HN.out ▸ hlk), ahead_trans HA.out HB2.out]
                    rintro e W6 ⟨rfl, hb6⟩
                    have HB6 := Lib.hid (HB5.out.trans hb6)
                    clear hb6
                    go_wp2_with fail
                    go_roundw
                    case rel => exact ⟨k + 1, _, rfl, by omega, by go_num, HB6.out⟩
                    case measure => simp [intOf]; omega
                · obtain rfl : k = n := by omega
                  go_wp2
                  go_roundw
                  case rel => exact ⟨j + 1, _, rfl, by omega, by go_num, HBK.out⟩
                  case measure => simp [intOf]; omega
            · have q5 : (xa == ya) = false := by simp [e]
              clear e
              go_wp2_with fail
              refine wp_region_quiet_below (by kernel_rfl) (by kernel_rfl) ?_
              repeat (go_big_quiet_step (fail))
              refine wpQuiet_nil ?_
              intro _ hw'
              obtain ⟨⟨dq, oq⟩, hw''⟩ := hw'
              subst hw''
              have HBQ := Lib.hid (HBJ.out.trans (bel_regrown WJ dq oq))
              generalize grow (redrawn WJ dq) oq = W3 at *
              clear X0 Y0 x0 y0
              go_wp2
              go_loopw [7] (fun v7 wr => ∃ (k : Nat) (W : World), W = wr ∧ k ≤ n ∧ v7 = .int .i64 k ∧ Bel w2 W) (fun v7 _ => n - (intOf v7).toNat)
              case atStart => exact ⟨j + 1, _, rfl, by omega, by go_num, HBQ.out⟩
              case round =>
                obtain ⟨k, W, rfl, hk, rfl, hbk⟩ := hrel
                have HBK := Lib.hid hbk
                clear hbk
                by_cases hlk : k < n
                · obtain ⟨b2, hb2⟩ : ∃ b, aheadE ls j k = b := ⟨_, rfl⟩
                  have HB2 := Lib.hid hb2
                  clear hb2
                  go_wp2_with fail
                  refine (KB.out _ HBK.out j k).mono ?_
                  rw [befE_yes (HN.out ▸ hlj) (HN.out ▸ hlk), HB2.out]
                  rintro e W5 ⟨rfl, hb5⟩
                  have HB5 := Lib.hid (HBK.out.trans hb5)
                  clear hb5
                  cases b2 with
                  | false =>
                    go_wp2_with fail
                    go_roundw
                    case rel => exact ⟨k + 1, _, rfl, by omega, by go_num, HB5.out⟩
                    case measure => simp [intOf]; omega
                  | true =>
                    go_wp2_with fail
                    refine (KB.out _ HB5.out i k).mono ?_
                    rw [befE_yes (HN.out ▸ hli) (HN.out ▸ hlk), ahead_trans HA.out HB2.out]
                    rintro e W6 ⟨rfl, hb6⟩
                    have HB6 := Lib.hid (HB5.out.trans hb6)
                    clear hb6
                    go_wp2_with fail
                    go_roundw
                    case rel => exact ⟨k + 1, _, rfl, by omega, by go_num, HB6.out⟩
                    case measure => simp [intOf]; omega
                · obtain rfl : k = n := by omega
                  go_wp2
                  go_roundw
                  case rel => exact ⟨j + 1, _, rfl, by omega, by go_num, HBK.out⟩
                  case measure => simp [intOf]; omega
          | false =>
            by_cases hij : i < j
            · have q3 : decide ((i : Int) < (j : Int)) = true := decide_eq_true (by omega)
              have q4 : decide (i < j) = true := decide_eq_true hij
              have q5 : (xa == ya) = false := beq_eq_false_iff_ne.2 (fun e => by
                have := ahead_own hij (HXD.out.trans (e.trans HYD.out.symm))
                rw [HA.out] at this
                cases this)
              go_wp2_with fail
              refine wp_region_quiet_below (by kernel_rfl) (by kernel_rfl) ?_
              repeat (go_big_quiet_step (fail))
              refine wpQuiet_nil ?_
              intro _ hw'
              obtain ⟨⟨dq, oq⟩, hw''⟩ := hw'
              subst hw''
              have HBQ := Lib.hid (HBJ.out.trans (bel_regrown WJ dq oq))
              generalize grow (redrawn WJ dq) oq = W3 at *
              clear X0 Y0 x0 y0
              go_wp2
              go_loopw [7] (fun v7 wr => ∃ (k : Nat) (W : World), W = wr ∧ k ≤ n ∧ v7 = .int .i64 k ∧ Bel w2 W) (fun v7 _ => n - (intOf v7).toNat)
              case atStart => exact ⟨j + 1, _, rfl, by omega, by go_num, HBQ.out⟩
              case round =>
                obtain ⟨k, W, rfl, hk, rfl, hbk⟩ := hrel
                have HBK := Lib.hid hbk
                clear hbk
                by_cases hlk : k < n
                · go_wp2_with fail
                  go_roundw
                  case rel => exact ⟨k + 1, _, rfl, by omega, by go_num, HBK.out⟩
                  case measure => simp [intOf]; omega
                · obtain rfl : k = n := by omega
                  go_wp2
                  go_roundw
                  case rel => exact ⟨j + 1, _, rfl, by omega, by go_num, HBK.out⟩
                  case measure => simp [intOf]; omega
            · have q3 : decide ((i : Int) < (j : Int)) = false := decide_eq_false (by omega)
              have q4 : decide (i < j) = false := decide_eq_false hij
              go_wp2_with fail
              refine wp_region_quiet_below (by kernel_rfl) (by kernel_rfl) ?_
              repeat (go_big_quiet_step (fail))
              refine wpQuiet_nil ?_
              intro _ hw'
              obtain ⟨⟨dq, oq⟩, hw''⟩ := hw'
              subst hw''
              have HBQ := Lib.hid (HBJ.out.trans (bel_regrown WJ dq oq))
              generalize grow (redrawn WJ dq) oq = W3 at *
              clear X0 Y0 x0 y0
              go_wp2
              go_loopw [7] (fun v7 wr => ∃ (k : Nat) (W : World), W = wr ∧ k ≤ n ∧ v7 = .int .i64 k ∧ Bel w2 W) (fun v7 _ => n - (intOf v7).toNat)
              case atStart => exact ⟨j + 1, _, rfl, by omega, by go_num, HBQ.out⟩
              case round =>
                obtain ⟨k, W, rfl, hk, rfl, hbk⟩ := hrel
                have HBK := Lib.hid hbk
                clear hbk
                by_cases hlk : k < n
                · go_wp2_with fail
                  go_roundw
                  case rel => exact ⟨k + 1, _, rfl, by omega, by go_num, HBK.out⟩
                  case measure => simp [intOf]; omega
                · obtain rfl : k = n := by omega
                  go_wp2
                  go_roundw
                  case rel => exact ⟨j + 1, _, rfl, by omega, by go_num, HBK.out⟩
                  case measure => simp [intOf]; omega
        · obtain rfl : j = n := by omega
          go_wp2
          go_roundw
          case rel => exact ⟨i + 1, _, rfl, by omega, by go_num, HBJ0.out⟩
          case measure => simp [intOf]; omega
    · obtain rfl : i = n := by omega
      go_wp2_with fail
      refine (KB.out _ HBI.out (-1) 0).mono ?_
      rw [befE_no (.inl (by omega))]
      rintro e W7 ⟨rfl, hb7⟩
      have HB7 := Lib.hid (HBI.out.trans hb7)
      clear hb7
      go_wp2_with fail
      refine (KB.out _ HB7.out 0 i).mono ?_
      rw [befE_no (.inr (.inr (.inr (by have := HN.out; omega))))]
      rintro e W8 ⟨rfl, hb8⟩
      have HB8 := Lib.hid (HB7.out.trans hb8)
      clear hb8
      go_wp2_with fail
      refine (wakes29_c _).mono ?_
      rintro e W9 ⟨rfl, hb9⟩
      have HB9 := Lib.hid (HB8.out.trans hb9)
      clear hb9
      go_wp2_with fail
      go_ret
      exact ⟨rfl, HB2.out.trans HB9.out⟩
end Go.Proofs.Ytjhnenineachaaa
namespace Go.Proofs.Ytjhnenineachaaa.rowClockOrder
open Go.ChangeShapes Go.WideShapes Go.ChangeAt Go.RowKit Go.Cb
open Go.ChangeMaps (open_string shut_string)
theorem own : ownKnob Try.prog.godebug = none := by kernel_rfl
theorem laidOut : laidOutB Try.prog = true := by kernel_rfl
set_option maxRecDepth 100000 in
theorem lifted (os : Os) (started : os.Started) (H : Type) (enc : TypeId × Value → H) :
    ReturnsInHanded {} Try.checked os 3 .any (Rows.clockOrderSpec.pre6 enc Try.prog Try.f3 Rows.clockOrderRow.domain false) (Rows.clockOrderSpec.post enc Try.prog Try.f3 false true false false) := by
  refine returnsInHanded_of_change_sized (C := Try.checked) own started (by kernel_rfl) Try.func3
    (ChangeSpec.witness6 (enc := enc) (C := Try.checked) false ⟨#[], #[.slice none 0 0], []⟩ 8 (by kernel_rfl) (by kernel_rfl) (by kernel_rfl) (by kernel_rfl)) ?_
  intro W base args ds gs before hval0 hW hcnd hsz0 _
  have hsz : (DataW.weightsEach Try.prog (Try.f3.params.toList ++ Rows.clockOrderSpec.plain.varTypes Try.prog) (ds ++ gs)).all (· ≤ reachBytes) = true := hsz0
  have hval : ∀ (j : Nat) t v, Try.f3.params[j]? = some t → args[j]? = some v → Value.okWide Try.prog W .any base t v := hval0
  have hW' := hW
  obtain ⟨p, q, hA0, hV, rfl, hfz, hnd⟩ := hW
  have hA : DataW.TrodAll enc Try.prog W 0 (fun _ => true) true Try.f3.params.toList args.toList ds p := hA0
  rw [Try.params3] at hA hval hsz
  obtain ⟨v0, vs0, d0, ds0, p0, q0, hargs, rfl, rfl, h0, r0⟩ := trodAll_cons hA
  obtain ⟨rfl, rfl, rfl⟩ := trodAll_nil r0
  obtain rfl : args = #[v0] := by cases args; simp_all
  obtain ⟨rfl, rfl⟩ := trodVars_none hV
  obtain ⟨a0, len0, cap0, rfl⟩ := okWide_slice Try.underlying22 (hval 0 22 v0 rfl rfl)
  have k0 := h0
  have lt0 : ∀ x ∈ p0, x.block < W.heap.size := by obtain ⟨m, hm⟩ := k0; exact DataW.trod_lt m _ _ _ hm
  obtain ⟨m0, hm0⟩ := h0
  obtain ⟨x0, R0, ok0⟩ := opensRaws29 _ _ _ _ _ _ _ _ _ hm0
  replace R0 : (sl raw29T).rd W All x0 [.slice a0 len0 cap0] := R0
  obtain ⟨A0, c0, eq0, q0⟩ := R0
  obtain ⟨rfl, rfl, rfl⟩ : a0 = A0 ∧ len0 = x0.length ∧ cap0 = c0 := by simpa using eq0
  clear hA0 hval0 hsz0 hsz
  refine (ClockOrder_walk W a0 cap0 x0 q0 ok0).mono fun e W' ⟨he, bel⟩ => ?_
  subst he
  exact ⟨_, rfl, _, _, _, [], _, [], hW', trodAll_mk1 (shut_bool Try.underlying4 _), (trodAll_cons_mk (Below.trod laidOut (by kernel_rfl) (of_decide_eq_true (by kernel_rfl)) k0 bel.out lt0) trodAll_mk0), rfl, bel.out.frame _, fun h => by cases h⟩
theorem over : Rows.clockOrderRow.holds Try.pinned (OpenSpec.ofChange Rows.clockOrderSpec) :=
  OpenClaim.holds_of_wide 3 Try.f3 rfl rfl rfl rfl rfl rfl rfl ⟨rfl, rfl, rfl, rfl, rfl⟩ rfl rfl rfl rfl rfl (by kernel_rfl) Try.func3 (by kernel_rfl)
    (of_decide_eq_true (by kernel_rfl)) (by unfold Func.isWrapper; first | (rw [if_pos (by decide +kernel)]; kernel_rfl) | (rw [if_neg (by decide +kernel)]; exact ⟨rfl, rfl⟩))
    (fun os started H enc _ => lifted os started H enc)
end Go.Proofs.Ytjhnenineachaaa.rowClockOrder
namespace Go.Proofs.Ytjhnenineachaaa
theorem ClockOrder_holds : Rows.ClockOrderSaid := rowClockOrder.over
#print axioms ClockOrder_holds
end Go.Proofs.Ytjhnenineachaaa
