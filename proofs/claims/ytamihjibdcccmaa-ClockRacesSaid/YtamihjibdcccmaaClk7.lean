/- Walks: which events race. -/
import Derived.Test.YtamihjibdcccmaaClk6
import Derived.Test.YtamihjibdcccmaaPlays1
set_option linter.unusedVariables false
set_option linter.unusedSimpArgs false
set_option linter.all false
namespace Go.Cb
theorem raceE_no1 {l : List Ev} {i j : Nat} (h : actE l i = actE l j) : raceE l i j = false := by
  unfold raceE
  rw [decide_eq_false (fun hh => hh h)]; rfl
theorem raceE_val {l : List Ev} {i j : Nat} (h : actE l i ≠ actE l j) : raceE l i j = (clashE (l.getD i default) (l.getD j default) && !aheadE l i j) := by
  unfold raceE
  rw [decide_eq_true h]; rfl
theorem raceRow_len (l : List Ev) (j : Nat) : ∀ i, (raceRow l j i).length ≤ i
  | 0 => Nat.le_refl _
  | i + 1 => by
    have := raceRow_len l j i
    rw [raceRow, List.length_append]
    split <;> simp <;> omega
theorem racesE_len (l : List Ev) : ∀ j, (racesE l j).length ≤ j * j
  | 0 => Nat.le_refl _
  | j + 1 => by
    have h1 := racesE_len l j
    have h2 := raceRow_len l j j
    rw [racesE, List.length_append, Nat.mul_succ, Nat.succ_mul]
    omega
end Go.Cb
namespace Go.Proofs.Ytamihjibdcccmaa
open Go.RowKit Go.Cb Go.Sort
theorem info_pair : (Try.prog.info? 34).map (fun i => (i.zero, i.size, i.bytes)) = some (some (.agg #[.int .i64 0, .int .i64 0]), 2, 16) := by kernel_rfl
set_option maxHeartbeats 16000000 in
set_option maxRecDepth 100000 in
theorem races_c (w : World) (A : Option Addr) (c : Nat) (l : List Ev) (hl : Rd evT w All A c l) (h24 : l.length ≤ 24) (il : ∀ x ∈ l, inI64 x.a ∧ inI64 x.n) (n : Nat) (hn : n = l.length) :
    Calls Try.prog 7 #[.slice A n c] w fun e w' => ∃ A' c', e = .returned (.slice A' (racesE l l.length).length c') ∧ Rd keptT w' All A' c' (racesE l l.length) ∧ Bel w w' := by
  subst hn
  have HQ := Lib.hid (clocks_c w A c l hl h24 il _ rfl)
  have HL := Lib.hid hl
  clear hl il
  go_enter Try.func7, Try.ntmps7
  go_wp2_with fail
  refine HQ.out.mono ?_
  rintro e w1 ⟨A1, c1, gs, rfl, hr, hgl, ht, hb⟩
  have HR := Lib.hid hr
  have HGL := Lib.hid hgl
  have HT := Lib.hid ht
  have HL1 := Lib.hid (HL.out.to hb)
  have HB := Lib.hid hb
  clear hr hgl ht hb HQ
  go_wp2
  go_loopw [3, 11] (fun v3 v11 wr => ∃ (j : Nat) (W : World) (AO : Option Addr) (cO : Nat), W = wr ∧ j ≤ l.length ∧ v11 = .int .i64 j ∧ v3 = .slice AO (racesE l j).length cO ∧ Own keptT 34 W w1.heap.size (fun _ => False) (.slice AO (racesE l j).length cO) (racesE l j) ∧ Bel w1 W) (fun _ v11 _ => l.length - (intOf v11).toNat)
  case atStart => exact ⟨0, _, none, 0, rfl, Nat.zero_le _, rfl, rfl, Own.nil _ _ _ _ _, Bel.refl _⟩
  case round =>
    obtain ⟨j, W, AO, cO, rfl, hj, rfl, rfl, hO, hbW⟩ := hrel
    have HRL := Lib.hid (racesE_len l j)
    obtain ⟨R, hR⟩ : ∃ R, racesE l j = R := ⟨_, rfl⟩
    rw [hR] at hO HRL ⊢
    have HRE := Lib.hid hR
    have HO := Lib.hid hO
    have HBW := Lib.hid hbW
    clear hR hO hbW
    by_cases hlt : j < l.length
    · obtain ⟨⟨ya, yk, yn, ycs⟩, hy⟩ : ∃ x, l[j]? = some x := ⟨_, List.getElem?_eq_getElem hlt⟩
      have HYD := Lib.hid (show l.getD j default = ⟨ya, yk, yn, ycs⟩ by rw [List.getD_eq_getElem?_getD, hy]; rfl)
      have HY := Lib.hid hy
      clear hy
      go_wp2
      go_loopw [3, 15] (fun v3 v15 wr => ∃ (i : Nat) (Wi : World) (Ai : Option Addr) (ci : Nat), Wi = wr ∧ i ≤ j ∧ v15 = .int .i64 i ∧ v3 = .slice Ai (R ++ raceRow l j i).length ci ∧ Own keptT 34 Wi w1.heap.size (fun _ => False) (.slice Ai (R ++ raceRow l j i).length ci) (R ++ raceRow l j i) ∧ Bel w1 Wi) (fun _ v15 _ => j - (intOf v15).toNat)
      case atStart => exact ⟨0, _, AO, cO, rfl, Nat.zero_le _, rfl, by rw [raceRow, List.append_nil], by rw [raceRow, List.append_nil]; exact HO.out, HBW.out⟩
      case round =>
        obtain ⟨i, Wi, Ai, ci, rfl, hi, rfl, rfl, hOi, hbi⟩ := hrel
        have HRR := Lib.hid (show (R ++ raceRow l j i).length ≤ 1000 from by
          have h1 := HRL.out
          have h2 := raceRow_len l j i
          have h3 : j * j ≤ 24 * 24 := Nat.mul_le_mul (by omega) (by omega)
          rw [List.length_append]
          omega)
        obtain ⟨V, hV⟩ : ∃ V, R ++ raceRow l j i = V := ⟨_, rfl⟩
        rw [hV] at hOi HRR ⊢
        have HNX := Lib.hid (show R ++ raceRow l j (i + 1) = V ++ (if raceE l i j = true then [((i : Int), (j : Int))] else []) by rw [raceRow, ← List.append_assoc, hV])
        have HV := Lib.hid hV
        have HOI := Lib.hid hOi
        have HBI := Lib.hid hbi
        clear hV hOi hbi
        by_cases hli : i < j
        · obtain ⟨⟨xa, xk, xn, xcs⟩, hx⟩ : ∃ x, l[i]? = some x := ⟨_, List.getElem?_eq_getElem (by omega)⟩
          have HXD := Lib.hid (show l.getD i default = ⟨xa, xk, xn, xcs⟩ by rw [List.getD_eq_getElem?_getD, hx]; rfl)
          obtain ⟨ad, Ax, cx, rfl, x0, x1, x2, x3, hxc⟩ := (HL1.out.to HBI.out).ev hx
          obtain ⟨ad2, Ay, cy, ead, y0, y1, y2, y3, hyc⟩ := (HL1.out.to HBI.out).ev HY.out
          injection ead with ead
          subst ead
          dsimp only at x0 x1 x2 x3 y0 y1 y2 y3 hxc hyc
          have i1 : (i : Int) < (l.length : Int) := by omega
          have j1 : (j : Int) < (l.length : Int) := by omega
          have lml := HL.out.lenMax
          have X0 := cellReg x0
          have X1 := cellReg x1
          have X2 := cellReg x2
          have X3 := cellReg x3
          have Y0 := cellReg y0
          have Y1 := cellReg y1
          have Y2 := cellReg y2
          have Y3 := cellReg y3
          have K1 := Lib.hid (show ∀ W', Bel Wi W' → Calls Try.prog 19 #[.agg #[.int .i64 xa, .int .i64 xk, .int .i64 xn, .slice Ax xcs.length cx], .agg #[.int .i64 ya, .int .i64 yk, .int .i64 yn, .slice Ay ycs.length cy]] W' fun e w' => e = .returned (.bool (clashE ⟨xa, xk, xn, xcs⟩ ⟨ya, yk, yn, ycs⟩)) ∧ Bel W' w' from fun W' h => clash_c _ _ W' ⟨xa, xk, xn, xcs⟩ ⟨ya, yk, yn, ycs⟩ Ax Ay cx cy (hxc.to h) (hyc.to h))
          have K2 := Lib.hid (show ∀ W', Bel Wi W' → Calls Try.prog 20 #[.slice (some ad) l.length c, .slice A1 l.length c1, .int .i64 i, .int .i64 j] W' fun e w' => e = .returned (.bool (aheadE l i j)) ∧ Bel W' w' from fun W' h => ahead_c _ _ (some ad) A1 c c1 l gs w.heap.size W' (HL1.out.to (HBI.out.trans h)) (HR.out.to (HBI.out.trans h)) HGL.out (fun i g hg => (let ⟨vt, h9⟩ := HT.out i g hg; ⟨vt, h9.to (HBI.out.trans h)⟩)) i j (by omega) hlt _ _ rfl rfl)
          clear hx hxc hyc x0 x1 x2 x3 y0 y1 y2 y3
          by_cases e : xa = ya
          · have n1 : (xa != ya) = false := by rw [e]; simp
            have HN2 := Lib.hid (show R ++ raceRow l j (i + 1) = V by rw [HNX.out, raceE_no1 (by unfold actE; rw [HXD.out, HYD.out]; exact e)]; simp)
            clear e K1 K2
            go_wp2_with fail
            refine wp_region_quiet_below (by kernel_rfl) (by kernel_rfl) ?_
            repeat (go_big_quiet_step (fail))
            refine wpQuiet_nil ?_
            intro _ hw'
            obtain ⟨⟨dq, oq⟩, hw''⟩ := hw'
            subst hw''
            have HBQ := Lib.hid (bel_regrown Wi dq oq)
            generalize grow (redrawn Wi dq) oq = W3 at *
            clear X0 X1 X2 X3 Y0 Y1 Y2 Y3
            go_wp2
            go_roundw
            case rel => exact ⟨i + 1, _, Ai, ci, rfl, by omega, by go_num, by rw [HN2.out], by rw [HN2.out]; exact HOI.out.to HBQ.out, HBI.out.trans HBQ.out⟩
            case measure => simp [intOf]; omega
          · have n1 : (xa != ya) = true := by simp [e]
            have HRV := Lib.hid (raceE_val (l := l) (i := i) (j := j) (by unfold actE; rw [HXD.out, HYD.out]; exact e))
            obtain ⟨b, hbv⟩ : ∃ b, clashE ⟨xa, xk, xn, xcs⟩ ⟨ya, yk, yn, ycs⟩ = b := ⟨_, rfl⟩
            obtain ⟨b2, hbv2⟩ : ∃ b, aheadE l i j = b := ⟨_, rfl⟩
            have HRV2 := Lib.hid (show raceE l i j = (b && !b2) by rw [HRV.out, HXD.out, HYD.out, hbv, hbv2])
            rw [hbv] at K1
            rw [hbv2] at K2
            clear hbv hbv2 HRV e
            cases b with
            | false =>
              have HN2 := Lib.hid (show R ++ raceRow l j (i + 1) = V by rw [HNX.out, HRV2.out]; simp)
              clear K2
              go_wp2_with fail
              refine wp_region_quiet_below (by kernel_rfl) (by kernel_rfl) ?_
              repeat (go_big_quiet_step (first | with_reducible exact callsReg K1.out))
              refine wpQuiet_nil ?_
              intro _ hw'
              obtain ⟨⟨dq, oq⟩, hw''⟩ := hw'
              subst hw''
              have HBQ := Lib.hid (bel_regrown Wi dq oq)
              generalize grow (redrawn Wi dq) oq = W3 at *
              clear X0 X1 X2 X3 Y0 Y1 Y2 Y3
              go_wp2
              go_roundw
              case rel => exact ⟨i + 1, _, Ai, ci, rfl, by omega, by go_num, by rw [HN2.out], by rw [HN2.out]; exact HOI.out.to HBQ.out, HBI.out.trans HBQ.out⟩
              case measure => simp [intOf]; omega
            | true =>
              cases b2 with
              | true =>
                have HN2 := Lib.hid (show R ++ raceRow l j (i + 1) = V by rw [HNX.out, HRV2.out]; simp)
                go_wp2_with fail
                refine wp_region_quiet_below (by kernel_rfl) (by kernel_rfl) ?_
                repeat (go_big_quiet_step (first | with_reducible exact callsReg K1.out | with_reducible exact callsReg K2.out))
                refine wpQuiet_nil ?_
                intro _ hw'
                obtain ⟨⟨dq, oq⟩, hw''⟩ := hw'
                subst hw''
                have HBQ := Lib.hid (bel_regrown Wi dq oq)
                generalize grow (redrawn Wi dq) oq = W3 at *
                clear X0 X1 X2 X3 Y0 Y1 Y2 Y3
                go_wp2
                go_roundw
                case rel => exact ⟨i + 1, _, Ai, ci, rfl, by omega, by go_num, by rw [HN2.out], by rw [HN2.out]; exact HOI.out.to HBQ.out, HBI.out.trans HBQ.out⟩
                case measure => simp [intOf]; omega
              | false =>
                have HN2 := Lib.hid (show R ++ raceRow l j (i + 1) = V ++ [((i : Int), (j : Int))] by rw [HNX.out, HRV2.out]; simp)
                go_wp2_with fail
                refine wp_region_quiet_below (by kernel_rfl) (by kernel_rfl) ?_
                repeat (go_big_quiet_step (first | with_reducible exact callsReg K1.out | with_reducible exact callsReg K2.out))
                refine wpQuiet_nil ?_
                intro _ hw'
                obtain ⟨⟨dq, oq⟩, hw''⟩ := hw'
                subst hw''
                have HBQ := Lib.hid (bel_regrown Wi dq oq)
                generalize grow (redrawn Wi dq) oq = W3 at *
                clear X0 X1 X2 X3 Y0 Y1 Y2 Y3
                have HO3 := Lib.hid (HOI.out.to HBQ.out)
                have HB3 := Lib.hid (HBI.out.trans HBQ.out)
                go_wp2_with (at_builtin; go_loud (refine wp_append1 keptT (w0 := w1) 29 34 (.agg #[.int .i64 0, .int .i64 0]) 16 rfl _ _ rfl Try.underlying29 info_pair rfl (fun _ => False) (.slice Ai V.length ci) V ((i : Int), (j : Int)) [.int .i64 i, .int .i64 j] rfl rfl HO3.out (kept_rd.2 rfl) HB3.out (by have := HRR.out; unfold maxLen; omega) (by have := HRR.out; omega) ?_); go_loud (rintro v2 W4 ho4 hb4 hg4 hf4; obtain ⟨A4, c4, hv4⟩ := ho4.form; subst hv4))
                go_roundw
                case rel => exact ⟨i + 1, _, A4, c4, rfl, by omega, by go_num, by rw [HN2.out, List.length_append]; rfl, by rw [HN2.out]; exact ho4, hb4⟩
                case measure => simp [intOf]; omega
        · obtain rfl : i = j := by omega
          have HN2 := Lib.hid (show racesE l (i + 1) = V by rw [racesE, HRE.out, HV.out])
          go_wp2
          go_roundw
          case rel => exact ⟨i + 1, _, Ai, ci, rfl, by omega, by go_num, by rw [HN2.out], by rw [HN2.out]; exact HOI.out, HBI.out⟩
          case measure => simp [intOf]; omega
    · obtain rfl : j = l.length := by omega
      obtain ⟨A9, c9, e9, r9⟩ := HO.out.rdAll
      injection e9 with z1 z2 z3
      subst z1 z3
      have HR9 := Lib.hid r9
      clear z2 r9
      go_wp2
      go_ret
      exact ⟨_, _, by rw [HRE.out]; rfl, by rw [HRE.out]; exact HR9.out, HB.out.trans HBW.out⟩
end Go.Proofs.Ytamihjibdcccmaa
