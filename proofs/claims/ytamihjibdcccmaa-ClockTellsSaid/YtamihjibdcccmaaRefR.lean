/- Walks: the document's races. -/
import Derived.Test.YtamihjibdcccmaaOrdW
import Derived.Test.YtamihjibdcccmaaRefS
set_option linter.unusedVariables false
set_option linter.unusedSimpArgs false
set_option linter.all false
namespace Go.Proofs.Ytamihjibdcccmaa
open Go.RowKit Go.Cb Go.Sort
set_option maxHeartbeats 16000000 in
set_option maxRecDepth 100000 in
theorem refRaces_c (w : World) (A : Option Addr) (c : Nat) (l : List Ev) (hl : Rd evT w All A c l) (h24 : l.length ≤ 24) (n : Nat) (hn : n = l.length) :
    Calls Try.prog 14 #[.slice A n c] w fun e w' => ∃ A' c', e = .returned (.slice A' (racesE l l.length).length c') ∧ Rd keptT w' All A' c' (racesE l l.length) ∧ Bel w w' := by
  subst hn
  have HQ := Lib.hid (refOrder_c _ w A c l hl (by omega) _ rfl)
  have HL := Lib.hid hl
  clear hl
  go_enter Try.func14, Try.ntmps14
  go_wp2_with fail
  refine HQ.out.mono ?_
  rintro e w1 ⟨A1, c1, rfl, hr, hb⟩
  have HR := Lib.hid hr
  have HL1 := Lib.hid (HL.out.to hb)
  have HB := Lib.hid hb
  clear hr hb HQ
  go_wp2
  go_loopw [4, 11] (fun v4 v11 wr => ∃ (j : Nat) (W : World) (AO : Option Addr) (cO : Nat), W = wr ∧ j ≤ l.length ∧ v11 = .int .i64 j ∧ v4 = .slice AO (racesE l j).length cO ∧ Own keptT 34 W w1.heap.size (fun _ => False) (.slice AO (racesE l j).length cO) (racesE l j) ∧ Bel w1 W) (fun _ v11 _ => l.length - (intOf v11).toNat)
  case atStart => exact ⟨0, _, none, 0, rfl, Nat.zero_le _, rfl, rfl, Own.nil _ _ _ _ _, Bel.refl _⟩
  case round =>
    obtain ⟨j, W, AO, cO, rfl, hj, rfl, rfl, hO, hbW⟩ := hrel
    have HRL := Lib.hid (racesE_len l j)
    obtain ⟨R, hR⟩ : ∃ R, racesE l j = R := ⟨_, rfl⟩
    rw [hR] at hO HRL ⊢
    have HRE := Lib.hid hR
    have HO := Lib.hid hO
    have HBW := Lib.hid hbW
    clear hR hO hbW
    by_cases hlt : j < l.length
    · obtain ⟨⟨ya, yk, yn, ycs⟩, hy⟩ : ∃ x, l[j]? = some x := ⟨_, List.getElem?_eq_getElem hlt⟩
      have HYD := Lib.hid (show l.getD j default = ⟨ya, yk, yn, ycs⟩ by rw [List.getD_eq_getElem?_getD, hy]; rfl)
      have HY := Lib.hid hy
      clear hy
      obtain ⟨adA, B, cb, eA1, a0, hRI⟩ := HR.out.row (k := j) (by rw [rowsE_len]; exact hlt)
      have hrow : (rowsE l l.length)[j]'(by rw [rowsE_len]; exact hlt) = rowE l j := by
        have := rowsE_get (l := l) hlt
        rw [List.getElem?_eq_getElem (by rw [rowsE_len]; exact hlt)] at this
        injection this
      rw [hrow, rowE_len] at a0
      rw [hrow] at hRI
      have HA0 := Lib.hid (fun W' (h : Bel w1 W') => cell_keep a0 (h.block (World.block_lt_of_cell? _ _ a0)))
      have HRI := Lib.hid hRI
      clear hrow a0 hRI
      subst eA1
      go_wp2
      go_loopw [4, 6] (fun v4 v6 wr => ∃ (i : Nat) (Wi : World) (Ai : Option Addr) (ci : Nat), Wi = wr ∧ i ≤ j ∧ v6 = .int .i64 i ∧ v4 = .slice Ai (R ++ raceRow l j i).length ci ∧ Own keptT 34 Wi w1.heap.size (fun _ => False) (.slice Ai (R ++ raceRow l j i).length ci) (R ++ raceRow l j i) ∧ Bel w1 Wi) (fun _ v6 _ => j - (intOf v6).toNat)
      case atStart => exact ⟨0, _, AO, cO, rfl, Nat.zero_le _, rfl, by rw [raceRow, List.append_nil], by rw [raceRow, List.append_nil]; exact HO.out, HBW.out⟩
      case round =>
        obtain ⟨i, Wi, Ai, ci, rfl, hi, rfl, rfl, hOi, hbi⟩ := hrel
        have HRR := Lib.hid (show (R ++ raceRow l j i).length ≤ 1000 from by
          have h1 := HRL.out
          have h2 := raceRow_len l j i
          have h3 : j * j ≤ 24 * 24 := Nat.mul_le_mul (by omega) (by omega)
          rw [List.length_append]
          omega)
        obtain ⟨V, hV⟩ : ∃ V, R ++ raceRow l j i = V := ⟨_, rfl⟩
        rw [hV] at hOi HRR ⊢
        have HNX := Lib.hid (show R ++ raceRow l j (i + 1) = V ++ (if raceE l i j = true then [((i : Int), (j : Int))] else []) by rw [raceRow, ← List.append_assoc, hV])
        have HV := Lib.hid hV
        have HOI := Lib.hid hOi
        have HBI := Lib.hid hbi
        clear hV hOi hbi
        by_cases hli : i < j
        · obtain ⟨⟨xa, xk, xn, xcs⟩, hx⟩ : ∃ x, l[i]? = some x := ⟨_, List.getElem?_eq_getElem (by omega)⟩
          have HXD := Lib.hid (show l.getD i default = ⟨xa, xk, xn, xcs⟩ by rw [List.getD_eq_getElem?_getD, hx]; rfl)
          obtain ⟨ad, Ax, cx, rfl, x0, x1, x2, x3, hxc⟩ := (HL1.out.to HBI.out).ev hx
          obtain ⟨ad2, Ay, cy, ead, y0, y1, y2, y3, hyc⟩ := (HL1.out.to HBI.out).ev HY.out
          injection ead with ead
          subst ead
          dsimp only at x0 x1 x2 x3 y0 y1 y2 y3 hxc hyc
          have i1 : (i : Int) < (l.length : Int) := by omega
          have j1 : (j : Int) < (l.length : Int) := by omega
          have lml := HL.out.lenMax
          have X0 := cellReg x0
          have X1 := cellReg x1
          have X2 := cellReg x2
          have X3 := cellReg x3
          have Y0 := cellReg y0
          have Y1 := cellReg y1
          have Y2 := cellReg y2
          have Y3 := cellReg y3
          have K1 := Lib.hid (show ∀ W', Bel Wi W' → Calls Try.prog 25 #[.agg #[.int .i64 xa, .int .i64 xk, .int .i64 xn, .slice Ax xcs.length cx], .agg #[.int .i64 ya, .int .i64 yk, .int .i64 yn, .slice Ay ycs.length cy]] W' fun e w' => e = .returned (.bool (clashE ⟨xa, xk, xn, xcs⟩ ⟨ya, yk, yn, ycs⟩)) ∧ Bel W' w' from fun W' h => shared_c _ _ W' ⟨xa, xk, xn, xcs⟩ ⟨ya, yk, yn, ycs⟩ Ax Ay cx cy (hxc.to h) (hyc.to h))
          have b5 := HA0.out _ HBI.out
          obtain ⟨adI, eB, d1⟩ := (HRI.out.to HBI.out).get1 (k := i) (by rw [rowE_len]; exact hli)
          have d2 : (rowE l j)[i]'(by rw [rowE_len]; exact hli) = aheadE l i j := by
            have := rowE_get (l := l) hli
            rw [List.getElem?_eq_getElem (by rw [rowE_len]; exact hli)] at this
            injection this
          rw [d2] at d1
          obtain ⟨b2, hbv2⟩ : ∃ b, aheadE l i j = b := ⟨_, rfl⟩
          rw [hbv2] at d1
          have T0 := cellReg b5
          have T1 := cellReg d1
          have hli2 : (i : Int) < (j : Int) := by omega
          subst eB
          clear b5 d1 d2
          clear hx hxc hyc x0 x1 x2 x3 y0 y1 y2 y3
          by_cases e : xa = ya
          · have n1 : (xa != ya) = false := by rw [e]; simp
            have HN2 := Lib.hid (show R ++ raceRow l j (i + 1) = V by rw [HNX.out, raceE_no1 (by unfold actE; rw [HXD.out, HYD.out]; exact e)]; simp)
            clear e K1
            go_wp2_with fail
            refine wp_region_quiet_below (by kernel_rfl) (by kernel_rfl) ?_
            repeat (go_big_quiet_step (fail))
            refine wpQuiet_nil ?_
            intro _ hw'
            obtain ⟨⟨dq, oq⟩, hw''⟩ := hw'
            subst hw''
            have HBQ := Lib.hid (bel_regrown Wi dq oq)
            generalize grow (redrawn Wi dq) oq = W3 at *
            clear X0 X1 X2 X3 Y0 Y1 Y2 Y3 T0 T1
            go_wp2
            go_roundw
            case rel => exact ⟨i + 1, _, Ai, ci, rfl, by omega, by go_num, by rw [HN2.out], by rw [HN2.out]; exact HOI.out.to HBQ.out, HBI.out.trans HBQ.out⟩
            case measure => simp [intOf]; omega
          · have n1 : (xa != ya) = true := by simp [e]
            have HRV := Lib.hid (raceE_val (l := l) (i := i) (j := j) (by unfold actE; rw [HXD.out, HYD.out]; exact e))
            obtain ⟨b, hbv⟩ : ∃ b, clashE ⟨xa, xk, xn, xcs⟩ ⟨ya, yk, yn, ycs⟩ = b := ⟨_, rfl⟩
            have HRV2 := Lib.hid (show raceE l i j = (b && !b2) by rw [HRV.out, HXD.out, HYD.out, hbv, hbv2])
            rw [hbv] at K1
            clear hbv hbv2 HRV e
            cases b with
            | false =>
              have HN2 := Lib.hid (show R ++ raceRow l j (i + 1) = V by rw [HNX.out, HRV2.out]; simp)
              go_wp2_with fail
              refine wp_region_quiet_below (by kernel_rfl) (by kernel_rfl) ?_
              repeat (go_big_quiet_step (first | with_reducible exact callsReg K1.out))
              refine wpQuiet_nil ?_
              intro _ hw'
              obtain ⟨⟨dq, oq⟩, hw''⟩ := hw'
              subst hw''
              have HBQ := Lib.hid (bel_regrown Wi dq oq)
              generalize grow (redrawn Wi dq) oq = W3 at *
              clear X0 X1 X2 X3 Y0 Y1 Y2 Y3 T0 T1
              go_wp2
              go_roundw
              case rel => exact ⟨i + 1, _, Ai, ci, rfl, by omega, by go_num, by rw [HN2.out], by rw [HN2.out]; exact HOI.out.to HBQ.out, HBI.out.trans HBQ.out⟩
              case measure => simp [intOf]; omega
            | true =>
              cases b2 with
              | true =>
                have HN2 := Lib.hid (show R ++ raceRow l j (i + 1) = V by rw [HNX.out, HRV2.out]; simp)
                go_wp2_with fail
                refine wp_region_quiet_below (by kernel_rfl) (by kernel_rfl) ?_
                repeat (go_big_quiet_step (first | with_reducible exact callsReg K1.out))
                refine wpQuiet_nil ?_
                intro _ hw'
                obtain ⟨⟨dq, oq⟩, hw''⟩ := hw'
                subst hw''
                have HBQ := Lib.hid (bel_regrown Wi dq oq)
                generalize grow (redrawn Wi dq) oq = W3 at *
                clear X0 X1 X2 X3 Y0 Y1 Y2 Y3 T0 T1
                go_wp2
                go_roundw
                case rel => exact ⟨i + 1, _, Ai, ci, rfl, by omega, by go_num, by rw [HN2.out], by rw [HN2.out]; exact HOI.out.to HBQ.out, HBI.out.trans HBQ.out⟩
                case measure => simp [intOf]; omega
              | false =>
                have HN2 := Lib.hid (show R ++ raceRow l j (i + 1) = V ++ [((i : Int), (j : Int))] by rw [HNX.out, HRV2.out]; simp)
                go_wp2_with fail
                refine wp_region_quiet_below (by kernel_rfl) (by kernel_rfl) ?_
                repeat (go_big_quiet_step (first | with_reducible exact callsReg K1.out))
                refine wpQuiet_nil ?_
                intro _ hw'
                obtain ⟨⟨dq, oq⟩, hw''⟩ := hw'
                subst hw''
                have HBQ := Lib.hid (bel_regrown Wi dq oq)
                generalize grow (redrawn Wi dq) oq = W3 at *
                clear X0 X1 X2 X3 Y0 Y1 Y2 Y3 T0 T1
                have HO3 := Lib.hid (HOI.out.to HBQ.out)
                have HB3 := Lib.hid (HBI.out.trans HBQ.out)
                go_wp2_with (at_builtin; go_loud (refine wp_append1 keptT (w0 := w1) 29 34 (.agg #[.int .i64 0, .int .i64 0]) 16 rfl _ _ rfl Try.underlying29 info_pair rfl (fun _ => False) (.slice Ai V.length ci) V ((i : Int), (j : Int)) [.int .i64 i, .int .i64 j] rfl rfl HO3.out (kept_rd.2 rfl) HB3.out (by have := HRR.out; unfold maxLen; omega) (by have := HRR.out; omega) ?_); go_loud (rintro v2 W4 ho4 hb4 hg4 hf4; obtain ⟨A4, c4, hv4⟩ := ho4.form; subst hv4))
                go_roundw
                case rel => exact ⟨i + 1, _, A4, c4, rfl, by omega, by go_num, by rw [HN2.out, List.length_append]; rfl, by rw [HN2.out]; exact ho4, hb4⟩
                case measure => simp [intOf]; omega
        · obtain rfl : i = j := by omega
          have HN2 := Lib.hid (show racesE l (i + 1) = V by rw [racesE, HRE.out, HV.out])
          go_wp2
          go_roundw
          case rel => exact ⟨i + 1, _, Ai, ci, rfl, by omega, by go_num, by rw [HN2.out], by rw [HN2.out]; exact HOI.out, HBI.out⟩
          case measure => simp [intOf]; omega
    · obtain rfl : j = l.length := by omega
      obtain ⟨A9, c9, e9, r9⟩ := HO.out.rdAll
      injection e9 with z1 z2 z3
      subst z1 z3
      have HR9 := Lib.hid r9
      clear z2 r9
      go_wp2
      go_ret
      exact ⟨_, _, by rw [HRE.out]; rfl, by rw [HRE.out]; exact HR9.out, HB.out.trans HBW.out⟩
end Go.Proofs.Ytamihjibdcccmaa
