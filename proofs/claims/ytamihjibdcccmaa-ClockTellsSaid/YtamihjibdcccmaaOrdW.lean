/- Walks: the document's order of events. -/
import Derived.Test.YtamihjibdcccmaaCD
import Derived.Test.YtamihjibdcccmaaClk7
import Derived.Deep.CutRange
set_option linter.unusedVariables false
set_option linter.unusedSimpArgs false
set_option linter.all false
namespace Go.Proofs.Ytamihjibdcccmaa
open Go.RowKit Go.Cb Go.Sort
theorem info_bool : (Try.prog.info? 4).map (fun i => (i.zero, i.size, i.bytes)) = some (some (.bool false), 1, 1) := by kernel_rfl
theorem info_bools : (Try.prog.info? 51).map (fun i => (i.zero, i.size, i.bytes)) = some (some (.slice none 0 0), 1, 24) := by kernel_rfl
set_option maxHeartbeats 16000000 in
set_option maxRecDepth 100000 in
theorem refOrder_c (S : Nat → Prop) (w : World) (A : Option Addr) (c : Nat) (l : List Ev) (hl : Rd evT w S A c l) (h24 : l.length ≤ 1000) (n : Nat) (hn : n = l.length) :
    Calls Try.prog 21 #[.slice A n c] w fun e w' => ∃ A' c', e = .returned (.slice A' n c') ∧ Rd (sl boolT) w' All A' c' (rowsE l n) ∧ Bel w w' := by
  subst hn
  have HL := Lib.hid hl
  clear hl
  go_enter Try.func21, Try.ntmps21
  go_wp2
  go_loopw [3, 12] (fun v3 v12 wr => ∃ (j : Nat) (W : World) (AO : Option Addr) (cO : Nat), W = wr ∧ j ≤ l.length ∧ v12 = .int .i64 j ∧ v3 = .slice AO j cO ∧ Own (sl boolT) 51 W w.heap.size (Ge w.heap.size) (.slice AO j cO) (rowsE l j) ∧ Bel w W) (fun _ v12 _ => l.length - (intOf v12).toNat)
  case atStart => exact ⟨0, _, none, 0, rfl, Nat.zero_le _, rfl, rfl, Own.nil _ _ _ _ _, Bel.refl _⟩
  case round =>
    obtain ⟨j, W, AO, cO, rfl, hj, rfl, rfl, hO, hbW⟩ := hrel
    have HO := Lib.hid hO
    have HBW := Lib.hid hbW
    clear hO hbW
    by_cases hlt : j < l.length
    · obtain ⟨⟨ya, yk, yn, ycs⟩, hy⟩ : ∃ x, l[j]? = some x := ⟨_, List.getElem?_eq_getElem hlt⟩
      have HYD := Lib.hid (show l.getD j default = ⟨ya, yk, yn, ycs⟩ by rw [List.getD_eq_getElem?_getD, hy]; rfl)
      obtain ⟨ad, Ay, cy, rfl, y0, y1, y2, y3, hyc⟩ := (HL.out.to HBW.out).ev hy
      dsimp only at y0 y1 y2 y3 hyc
      have hal : Bel W (W.alloc (.cells #[.int .i64 ya, .int .i64 yk, .int .i64 yn, .slice Ay ycs.length cy] 27)) := (Bel.refl _).alloc _
      have hnw := heap_alloc_new W (.cells #[.int .i64 ya, .int .i64 yk, .int .i64 yn, .slice Ay ycs.length cy] 27)
      have HAL := Lib.hid (And.intro hal hnw)
      clear hy hyc hal hnw
      go_wp2_with (at_make; refine wp_make (enc := Value.bool) (fun _ => rfl) false (w0 := W.alloc (.cells #[.int .i64 ya, .int .i64 yk, .int .i64 yn, .slice Ay ycs.length cy] 27)) 51 4 1 rfl _ _ rfl Try.underlying51 info_bool rfl j _ _ rfl rfl rfl rfl (Bel.refl _) (by omega) (by unfold maxLen; omega) ?_; intro w1 ho1 hb1 _ hz1)
      obtain ⟨WA, hWA⟩ : ∃ X, W.alloc (.cells #[.int .i64 ya, .int .i64 yk, .int .i64 yn, .slice Ay ycs.length cy] 27) = X := ⟨_, rfl⟩
      have hs : WA.heap.size = W.heap.size + 1 := by rw [← hWA]; simp
      rw [hWA] at ho1 hb1 hz1 HAL
      rw [hs] at ho1 hz1
      obtain ⟨hal, hnw⟩ := HAL.out
      obtain ⟨G, hG⟩ : ∃ G, W.heap.size = G := ⟨_, rfl⟩
      rw [hG] at ho1 hz1 hnw hs ⊢
      have HS := Lib.hid hs
      have HNW := Lib.hid hnw
      have HBA := Lib.hid (HBW.out.trans hal)
      have HOA := Lib.hid (HO.out.to hal)
      have HGG := Lib.hid (show G + 1 ≤ w1.heap.size by omega)
      have HO1 := Lib.hid (show Own boolT 4 w1 (G + 1) (fun _ => False) (.slice (some ⟨G + 1, 0, none⟩) j j) (ordRow l j j) by rw [ordRow_start]; exact ho1.any)
      have HB1 := Lib.hid hb1
      clear hWA hs ho1 hz1 HAL hnw hal hG hb1 y0 y1 y2 y3 HO HBW
      go_loopw [7] (fun v7 wr => ∃ (i' : Nat) (q : Int) (W2 : World), W2 = wr ∧ i' ≤ j ∧ v7 = .int .i64 q ∧ q = (i' : Int) - 1 ∧ Own boolT 4 W2 (G + 1) (fun _ => False) (.slice (some ⟨G + 1, 0, none⟩) j j) (ordRow l j i') ∧ Bel WA W2) (fun v7 _ => (intOf v7 + 1).toNat)
      case atStart => exact ⟨j, _, _, rfl, Nat.le_refl _, rfl, rfl, HO1.out, HB1.out⟩
      case round =>
        obtain ⟨i', q, W2, rfl, hi, rfl, hq, hOr, hb2⟩ := hrel
        have HB2 := Lib.hid hb2
        have HOR := Lib.hid hOr
        clear hb2 hOr
        rcases i' with _ | i
        · obtain rfl : q = -1 := by omega
          clear hq
          have HOE := Lib.hid (show Own boolT 4 W2 (G + 1) (fun _ => False) (.slice (some ⟨G + 1, 0, none⟩) j j) (rowE l j) by rw [← ordRow_end]; exact HOR.out)
          have HO2 := Lib.hid (HOA.out.to HB2.out)
          have HBW2 := Lib.hid (HBA.out.trans HB2.out)
          have HRN := Lib.hid (rowsE_next l j)
          have HRL := Lib.hid (rowsE_len l j)
          have d0 : decide ((-1 : Int) ≥ 0) = false := by decide
          have hrd : (sl boolT).rd W2 (fun k => Ge w.heap.size k ∧ some k ≠ (Value.slice AO j cO).ownBlock) (rowE l j) [.slice (some ⟨G + 1, 0, none⟩) j j] := by
            obtain ⟨A0, c0, e0, r0⟩ := HOE.out.rd
            rw [rowE_len] at e0
            injection e0 with e1 e2 e3
            subst e1 e3
            have hG1 : w.heap.size ≤ G + 1 := by have := HBA.out.size; have := HS.out; omega
            refine ⟨_, _, by rw [rowE_len], r0.mono (fun k hk => ?_)⟩
            rcases hk with hk | hk
            · exact hk.elim
            · have hk2 : k = G + 1 := by injection hk
              exact ⟨by unfold Ge; omega, fun e => by have := HOA.out.lt e.symm; have := HS.out; omega⟩
          have HRD := Lib.hid hrd
          clear hrd HOR HOE HOA
          go_wp2_with (at_builtin; go_loud (refine wp_append1 (sl boolT) (w0 := w) 52 51 (.slice none 0 0) 24 rfl _ _ rfl Try.underlying52 info_bools rfl (Ge w.heap.size) (.slice AO j cO) (rowsE l j) (rowE l j) [.slice (some ⟨G + 1, 0, none⟩) j j] rfl rfl HO2.out HRD.out HBW2.out (by rw [HRL.out]; unfold maxLen; omega) (by rw [HRL.out]; omega) ?_); rintro v4 W4 ho4 hb4 _ _; obtain ⟨A4, c4, hv4⟩ := ho4.form; rw [List.length_append, HRL.out, List.length_singleton] at hv4; subst hv4)
          go_roundw
          case rel => exact ⟨j + 1, _, A4, c4, rfl, by omega, by go_num, rfl, by rw [HRN.out]; exact ho4, hb4⟩
          case measure => simp [intOf]; omega
        · obtain rfl : q = (i : Int) := by omega
          clear hq
          have hij : i < j := by omega
          have HIJ := Lib.hid hij
          obtain ⟨⟨xa, xk, xn, xcs⟩, hx⟩ : ∃ x, l[i]? = some x := ⟨_, List.getElem?_eq_getElem (by omega)⟩
          have HXD := Lib.hid (show l.getD i default = ⟨xa, xk, xn, xcs⟩ by rw [List.getD_eq_getElem?_getD, hx]; rfl)
          obtain ⟨ad2, Ax, cx, ead, x0, x1, x2, x3, hxc⟩ := (HL.out.to (HBA.out.trans HB2.out)).ev hx
          injection ead with ead
          subst ead
          dsimp only at x0 x1 x2 x3 hxc
          have hil : (i : Int) < (l.length : Int) := by omega
          have hal3 : Bel W2 (W2.alloc (.cells #[.int .i64 xa, .int .i64 xk, .int .i64 xn, .slice Ax xcs.length cx] 27)) := (Bel.refl _).alloc _
          have hnw3 := heap_alloc_new W2 (.cells #[.int .i64 xa, .int .i64 xk, .int .i64 xn, .slice Ax xcs.length cx] 27)
          obtain ⟨W3, hW3⟩ : ∃ X, W2.alloc (.cells #[.int .i64 xa, .int .i64 xk, .int .i64 xn, .slice Ax xcs.length cx] 27) = X := ⟨_, rfl⟩
          have hb3 := HB2.out.trans hal3
          have hk := (hb3.block (by have := HS.out; omega : G < WA.heap.size)).trans HNW.out
          have hO3 := HOR.out.to hal3
          rw [hW3] at hal3 hnw3 hb3 hk hO3
          have HW3 := Lib.hid hW3
          obtain ⟨GX, hGX⟩ : ∃ g, W2.heap.size = g := ⟨_, rfl⟩
          rw [hGX] at hnw3
          have HGX := Lib.hid hGX
          have z0 : W3.cell? ⟨G, 0, none⟩ = some (.int .i64 ya) := cellAt hk 0
          have z1 : W3.cell? ⟨G, 1, none⟩ = some (.int .i64 yk) := cellAt hk 1
          have z2 : W3.cell? ⟨G, 2, none⟩ = some (.int .i64 yn) := cellAt hk 2
          have u0 : W3.cell? ⟨GX, 0, none⟩ = some (.int .i64 xa) := cellAt hnw3 0
          have u1 : W3.cell? ⟨GX, 1, none⟩ = some (.int .i64 xk) := cellAt hnw3 1
          have u2 : W3.cell? ⟨GX, 2, none⟩ = some (.int .i64 xn) := cellAt hnw3 2
          have HO3 := Lib.hid hO3
          have HB3 := Lib.hid hb3
          obtain ⟨b0, hb0⟩ : ∃ b, ordA l j (i + 1) i = b := ⟨_, rfl⟩
          obtain ⟨b, hb⟩ : ∃ b, aheadE l i j = b := ⟨_, rfl⟩
          have r0 : W3.cell? ⟨G + 1, i, none⟩ = some (.bool b0) := by
            have h := (hO3.cell (i := i) (by rw [ordRow_len]; exact hij)).1
            have h2 := ordRow_get (l := l) (i := i + 1) hij
            rw [List.getElem?_eq_getElem (by rw [ordRow_len]; exact hij)] at h2
            injection h2 with h2
            rw [h, h2, hb0]
          have r1 : W3.frozen? ⟨G + 1, i, none⟩ = false := (hO3.cell (i := i) (by rw [ordRow_len]; exact hij)).2
          have hT := ordA_test (l := l) hij
          unfold dirE at hT
          rw [show actE l i = xa by unfold actE; rw [HXD.out], show actE l j = ya by unfold actE; rw [HYD.out], HXD.out, HYD.out, hb0, hb] at hT
          have HTE := Lib.hid (show (b0 || (xa == ya || xk == 2 && xn == ya || xk == 3 && (yk == 4 && xn == yn))) = b from hT)
          have HAB := Lib.hid hb
          have hji : (i : Int) < (j : Int) := by omega
          clear hx hxc hnw3 hk hO3 hb3 hb0 hb hT hal3 hij hGX hW3
          go_upto_region 10 with fail
          rw [HW3.out, HGX.out]
          clear x0 x1 x2 x3
          go_cut [68] from 21 to 96 (fun v68 wx => v68 = .bool b ∧ wx = W3)
          case first =>
            cases b0 with
            | true =>
              have HV := Lib.hid (show true = b by rw [← HTE.out]; rfl)
              go_wp2_with fail
              go_meet
              exact ⟨by rw [← HV.out], rfl⟩
            | false =>
              cases e1 : (xa == ya) with
              | true =>
                have HV := Lib.hid (show true = b by rw [← HTE.out, e1]; rfl)
                go_wp2_with fail
                go_meet
                exact ⟨by rw [← HV.out], rfl⟩
              | false =>
                cases e2 : (xk == 2) with
                | true =>
                  have e3 : (xk == 3) = false := by rw [beq_iff_eq] at e2; rw [e2]; rfl
                  cases e4 : (xn == ya) with
                  | true =>
                    have HV := Lib.hid (show true = b by rw [← HTE.out, e1, e2, e4]; rfl)
                    go_wp2_with fail
                    go_meet
                    exact ⟨by rw [← HV.out], rfl⟩
                  | false =>
                    have HV := Lib.hid (show false = b by rw [← HTE.out, e1, e2, e4, e3]; rfl)
                    go_wp2_with fail
                    go_meet
                    exact ⟨by rw [← HV.out], rfl⟩
                | false =>
                  cases e3 : (xk == 3) with
                  | false =>
                    have HV := Lib.hid (show false = b by rw [← HTE.out, e1, e2, e3]; rfl)
                    go_wp2_with fail
                    go_meet
                    exact ⟨by rw [← HV.out], rfl⟩
                  | true =>
                    cases e4 : (yk == 4) with
                    | false =>
                      have HV := Lib.hid (show false = b by rw [← HTE.out, e1, e2, e3, e4]; rfl)
                      go_wp2_with fail
                      go_meet
                      exact ⟨by rw [← HV.out], rfl⟩
                    | true =>
                      cases e5 : (xn == yn) with
                      | false =>
                        have HV := Lib.hid (show false = b by rw [← HTE.out, e1, e2, e3, e4, e5]; rfl)
                        go_wp2_with fail
                        go_meet
                        exact ⟨by rw [← HV.out], rfl⟩
                      | true =>
                        have HV := Lib.hid (show true = b by rw [← HTE.out, e1, e2, e3, e4, e5]; rfl)
                        go_wp2_with fail
                        go_meet
                        exact ⟨by rw [← HV.out], rfl⟩
          case rest =>
            obtain ⟨rfl, rfl⟩ := hcut
            clear z0 z1 z2 u0 u1 u2 HW3 HGX
            cases b with
            | false =>
              have HRN := Lib.hid (ordRow_no HAB.out)
              go_wp2_with fail
              go_roundw
              case rel => exact ⟨i, _, _, rfl, by omega, rfl, by go_num, by rw [HRN.out]; exact HO3.out, HB3.out⟩
              case measure => simp [intOf]
            | true =>
              have hij := HIJ.out
              have hO4 := (HO3.out.set i true)
              rw [midRow_start] at hO4
              have hb4 := HB3.out.set (p := ⟨G + 1, i, none⟩) (by rw [HS.out]; exact Nat.le_refl _) (.bool true)
              obtain ⟨AA, cA, eA, hRA⟩ := HOA.out.rdAll
              injection eA with e1 e2 e3
              subst e1 e3
              obtain ⟨adA, B, cb, rfl, a0, hRI⟩ := hRA.row (k := i) (by rw [rowsE_len]; exact hij)
              have hrow : (rowsE l j)[i]'(by rw [rowsE_len]; exact hij) = rowE l i := by
                have := rowsE_get (l := l) hij
                rw [List.getElem?_eq_getElem (by rw [rowsE_len]; exact hij)] at this
                injection this
              rw [hrow, rowE_len] at a0
              rw [hrow] at hRI
              have HA0 := Lib.hid (fun W' (h : Bel WA W') => cell_keep a0 (h.block (World.block_lt_of_cell? _ _ a0)))
              have HRI := Lib.hid hRI
              have b4 := HA0.out _ hb4
              clear hRA hrow a0 hRI e2
              obtain ⟨W4, hW4⟩ : ∃ X, wc.setCell ⟨G + 1, i, none⟩ (.bool true) = X := ⟨_, rfl⟩
              rw [hW4] at hO4 hb4 b4
              go_wp2_with fail
              clear b4 r0 r1 hW4
              have HO4 := Lib.hid hO4
              have HB4 := Lib.hid hb4
              clear hO4 hb4 hij
              go_loopw [77] (fun v77 wr => ∃ (k : Nat) (W5 : World), W5 = wr ∧ k ≤ i ∧ v77 = .int .i64 k ∧ Own boolT 4 W5 (G + 1) (fun _ => False) (.slice (some ⟨G + 1, 0, none⟩) j j) (midRow l j i k) ∧ Bel WA W5) (fun v77 _ => i - (intOf v77).toNat)
              case atStart => exact ⟨0, _, rfl, Nat.zero_le _, rfl, HO4.out, HB4.out⟩
              case round =>
                obtain ⟨k, W5, rfl, hk, rfl, hO5, hb5⟩ := hrel
                by_cases hki : k < i
                · have hij := HIJ.out
                  have hkj : k < j := by omega
                  obtain ⟨bk, hbk⟩ : ∃ b, ordA l j (i + 1) k = b := ⟨_, rfl⟩
                  obtain ⟨c1, c2⟩ := hO5.cell (i := k) (by rw [midRow_len]; exact hkj)
                  have c3 : (midRow l j i k)[k]'(by rw [midRow_len]; exact hkj) = bk := by
                    have := midRow_here hki hij (l := l)
                    rw [List.getElem?_eq_getElem (by rw [midRow_len]; exact hkj), hbk] at this
                    injection this
                  rw [c3] at c1
                  have hNX := midRow_next hki hij HAB.out
                  rw [hbk] at hNX
                  have b5 := HA0.out _ hb5
                  obtain ⟨adI, rfl, d1⟩ := (HRI.out.to hb5).get1 (k := k) (by rw [rowE_len]; exact hki)
                  have d2 : (rowE l i)[k]'(by rw [rowE_len]; exact hki) = aheadE l k i := by
                    have := rowE_get (l := l) hki
                    rw [List.getElem?_eq_getElem (by rw [rowE_len]; exact hki)] at this
                    injection this
                  rw [d2] at d1
                  obtain ⟨bh, hbh⟩ : ∃ b, aheadE l k i = b := ⟨_, rfl⟩
                  rw [hbh] at d1 hNX
                  have k1 : (k : Int) < (i : Int) := by omega
                  have k2 : (k : Int) < (j : Int) := by omega
                  have HO6 := Lib.hid (hO5.set k (bk || bh))
                  rw [hNX] at HO6
                  have HB6 := Lib.hid (hb5.set (p := ⟨G + 1, k, none⟩) (by rw [HS.out]; exact Nat.le_refl _) (.bool (bk || bh)))
                  clear hO5 hb5 hbk c3 hNX d2 hbh hij
                  cases bk with
                  | true =>
                    go_wp2_with fail
                    go_roundw
                    case rel => exact ⟨k + 1, _, rfl, by omega, by go_num, HO6.out, HB6.out⟩
                    case measure => simp [intOf]; omega
                  | false =>
                    rw [Bool.false_or] at HO6 HB6
                    go_wp2_with fail
                    go_roundw
                    case rel => exact ⟨k + 1, _, rfl, by omega, by go_num, HO6.out, HB6.out⟩
                    case measure => simp [intOf]; omega
                · obtain rfl : k = i := by omega
                  have HO7 := Lib.hid hO5
                  rw [midRow_end HIJ.out HAB.out] at HO7
                  have HB7 := Lib.hid hb5
                  clear hO5 hb5
                  go_wp2_with fail
                  go_roundw
                  case rel => exact ⟨k, _, _, rfl, by omega, rfl, by go_num, HO7.out, HB7.out⟩
                  case measure => simp [intOf]
    · obtain rfl : j = l.length := by omega
      obtain ⟨A9, c9, e9, r9⟩ := HO.out.rdAll
      injection e9 with z1 z2 z3
      subst z1 z3
      have HR9 := Lib.hid r9
      clear z2 r9
      go_wp2
      go_ret
      exact ⟨_, _, rfl, HR9.out, HBW.out⟩
end Go.Proofs.Ytamihjibdcccmaa
