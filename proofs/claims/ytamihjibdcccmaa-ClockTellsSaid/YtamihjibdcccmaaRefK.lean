/- Walks: the document's clocks. -/
import Derived.Test.YtamihjibdcccmaaRefR
import Derived.Test.YtamihjibdcccmaaCA
import Derived.Deep.CutRange
set_option linter.unusedVariables false
set_option linter.unusedSimpArgs false
set_option linter.all false
namespace Go.Cb
open Go.RowKit
theorem keptS' {W : World} {S S' : Nat → Prop} : ∀ x cs, keptT.rd W S x cs → keptT.rd W S' x cs := fun _ _ h => kept_rd.2 (kept_rd.1 h)
theorem kept_len {e : TypeId} {w : World} {base n c : Nat} {A : Option Addr} {xs : List (Int × Int)} (h : RowP (Value.int .i64) (Value.int .i64) e w base (.slice A n c) xs) : n = xs.length ∧ n ≤ c ∧ c ≤ 9223372036854775807 ∧ Rd keptT w All A c xs := by
  obtain ⟨A', c', he, hr⟩ := (kept_own (S := All) h).rdAll
  injection he with e1 e2 e3
  subst e1 e3
  have h1 := hr.cap
  have h2 := hr.capMax
  unfold maxLen at h2
  exact ⟨e2, by omega, h2, hr⟩
theorem kept_drop {e : TypeId} {w : World} {base n c g p : Nat} {xs : List (Int × Int)} (h : RowP (Value.int .i64) (Value.int .i64) e w base (.slice (some ⟨g, 0, none⟩) n c) xs) (hp : p < n) : Rd keptT w All (some ⟨g, p * 2, none⟩) (c - p) (xs.drop p) := by
  obtain ⟨h1, h2, _, hr⟩ := kept_len h
  have h3 := hr.drop p (by omega)
  rw [if_neg (by omega)] at h3
  simp only [Option.map_some, add_plain] at h3
  exact h3
theorem kept_pre {e : TypeId} {w : World} {base n c p : Nat} {A : Option Addr} {xs : List (Int × Int)} (h : RowP (Value.int .i64) (Value.int .i64) e w base (.slice A n c) xs) (hp : p ≤ n) : RowP (Value.int .i64) (Value.int .i64) e w base (.slice A p c) (xs.take p) := by
  obtain ⟨h1, h2, _, _⟩ := kept_len h
  rcases h.form with ⟨e1, e2⟩ | ⟨g, c', e1, _⟩
  · injection e1 with e3 e4 e5
    obtain rfl : p = 0 := by omega
    subst e3 e5
    exact RowP.nil _ _ _
  · injection e1 with e3 e4 e5
    subst e3 e5
    exact h.prefix_ h1 hp
theorem xs_get {t : Tb} {k : Nat} {x : Int × Int} (h : t[k]? = some x) : ∃ a v, t[k]? = some (a, v) := ⟨x.1, x.2, h⟩
theorem numE_rng (l : List Ev) (j : Nat) (a : Int) : ∀ i, 0 ≤ numE l j a i ∧ numE l j a i ≤ (i : Int)
  | 0 => ⟨Int.le_refl _, Int.le_refl _⟩
  | i + 1 => by
    obtain ⟨h1, h2⟩ := numE_rng l j a i
    rw [numE]
    split <;> omega
theorem rd_litP {w : World} {q : Nat} {e : TypeId} {x : Int × Int} (h : w.heap[q]? = some (.cells #[.int .i64 x.1, .int .i64 x.2] e (0, 0))) : Rd keptT w All (some ⟨q, 0, none⟩) 1 [x] := by
  refine ⟨Nat.le_refl _, by decide, fun j y hj => ?_⟩
  obtain ⟨rfl, rfl⟩ : j = 0 ∧ x = y := by
    cases j with
    | zero => exact ⟨rfl, by simpa using hj⟩
    | succ j => simp at hj
  refine ⟨_, _, rfl, trivial, kept_rd.2 rfl, fun i u hu => ?_⟩
  rw [add_plain, cellAt h]
  rcases i with _ | _ | i
  · simpa using hu
  · simpa using hu
  · simp at hu
def SPred.litP (t : TypeId) (x : Int × Int) : SPred := ⟨fun v lo _ w => v = .slice (some ⟨lo, 0, none⟩) 1 1 ∧ w.heap[lo]? = some (.cells #[.int .i64 x.1, .int .i64 x.2] t (0, 0)), fun _ _ _ _ _ ⟨e, h⟩ hb => ⟨e, (hb.block (blk_lt h)).trans h⟩⟩
end Go.Cb
namespace Go.Proofs.Ytamihjibdcccmaa
open Go.RowKit Go.Cb Go.Sort
theorem info_row : (Try.prog.info? 29).map (fun i => (i.zero, i.size, i.bytes)) = some (some (.slice none 0 0), 1, 24) := by kernel_rfl
set_option maxHeartbeats 32000000 in
set_option maxRecDepth 100000 in
theorem refClocks_c (S : Nat → Prop) (w : World) (A : Option Addr) (c : Nat) (l : List Ev) (hl : Rd evT w S A c l) (h24 : l.length ≤ 1000) (n : Nat) (hn : n = l.length) :
    Calls Try.prog 22 #[.slice A n c] w fun e w' => ∃ A' c', e = .returned (.slice A' n c') ∧ Rd (sl keptT) w' All A' c' (cntsE l n) ∧ Bel w w' := by
  subst hn
  have HQ := Lib.hid (refOrder_c _ w A c l hl h24 _ rfl)
  have HL := Lib.hid hl
  clear hl
  go_enter Try.func22, Try.ntmps22
  go_wp2_with fail
  refine HQ.out.mono ?_
  rintro e w1 ⟨A1, c1, rfl, hr, hb⟩
  have HR := Lib.hid hr
  have HL1 := Lib.hid (HL.out.to hb)
  have HB := Lib.hid hb
  clear hr hb HQ
  go_wp2
  go_loopw [4, 14] (fun v4 v14 wr => ∃ (j : Nat) (W : World) (AO : Option Addr) (cO : Nat), W = wr ∧ j ≤ l.length ∧ v14 = .int .i64 j ∧ v4 = .slice AO j cO ∧ Own (sl keptT) 29 W w1.heap.size (Ge w1.heap.size) (.slice AO j cO) (cntsE l j) ∧ Bel w1 W) (fun _ v14 _ => l.length - (intOf v14).toNat)
  case atStart => exact ⟨0, _, none, 0, rfl, Nat.zero_le _, rfl, rfl, Own.nil _ _ _ _ _, Bel.refl _⟩
  case round =>
    obtain ⟨j, W, AO, cO, rfl, hj, rfl, rfl, hO, hbW⟩ := hrel
    have HO := Lib.hid hO
    have HBW := Lib.hid hbW
    clear hO hbW
    by_cases hlt : j < l.length
    · obtain ⟨adA, B, cb, rfl, a0, hRI⟩ := HR.out.row (k := j) (by rw [rowsE_len]; exact hlt)
      have hrow : (rowsE l l.length)[j]'(by rw [rowsE_len]; exact hlt) = rowE l j := by
        have := rowsE_get (l := l) hlt
        rw [List.getElem?_eq_getElem (by rw [rowsE_len]; exact hlt)] at this
        injection this
      rw [hrow, rowE_len] at a0
      rw [hrow] at hRI
      have HA0 := Lib.hid (fun W' (h : Bel w1 W') => cell_keep a0 (h.block (World.block_lt_of_cell? _ _ a0)))
      have HRI := Lib.hid hRI
      have HLT := Lib.hid hlt
      clear hrow a0 hRI
      go_wp2
      go_loopw [6, 7] (fun v6 v7 wr => ∃ (i : Nat) (t : Tb) (Wi : World) (Ai : Option Addr) (ci : Nat), Wi = wr ∧ i ≤ j + 1 ∧ v7 = .int .i64 i ∧ Hid (t = cntT l j i) ∧ v6 = .slice Ai t.length ci ∧ RowP (Value.int .i64) (Value.int .i64) 34 Wi W.heap.size (.slice Ai t.length ci) t ∧ Bel W Wi) (fun _ v7 _ => j + 1 - (intOf v7).toNat)
      case atStart => exact ⟨0, [], _, none, 0, rfl, Nat.zero_le _, rfl, (rfl : ([] : Tb) = cntT l j 0), rfl, RowP.nil _ _ _, Bel.refl _⟩
      case round =>
        obtain ⟨i, t, Wi, Ai, ci, rfl, hi, rfl, HT, rfl, hOi, hbi⟩ := hrel
        have htl : t.length ≤ 1000 := by have := cntT_len l j i; rw [← HT.out] at this; omega
        have HTL := Lib.hid htl
        obtain ⟨N, hN⟩ : ∃ N, t.length = N := ⟨_, rfl⟩
        rw [hN] at hOi htl ⊢
        have HN := Lib.hid hN
        have HOI := Lib.hid hOi
        have HBI := Lib.hid hbi
        clear hOi hbi hN
        by_cases hli : i < j + 1
        · have i1 : decide ((i : Int) ≤ (j : Int)) = true := decide_eq_true (by omega)
          have i2 : decide (i ≤ j) = true := decide_eq_true (by omega)
          have i3 : (i : Int) < (l.length : Int) := by omega
          obtain ⟨⟨xa, xk, xn, xcs⟩, hx⟩ : ∃ x, l[i]? = some x := ⟨_, List.getElem?_eq_getElem (by omega)⟩
          have HXD := Lib.hid (show actE l i = xa by unfold actE; rw [List.getD_eq_getElem?_getD, hx]; rfl)
          obtain ⟨ad, Ax, cx, rfl, x0, _, _, _, _⟩ := (HL1.out.to (HBW.out.trans HBI.out)).ev hx
          dsimp only at x0
          have HX0 := Lib.hid (fun W' (h : Bel Wi W') => cell_keep x0 (h.block (World.block_lt_of_cell? _ _ x0)))
          obtain ⟨b, hb⟩ : ∃ b, (decide (i = j) || aheadE l i j) = b := ⟨_, rfl⟩
          have HBV := Lib.hid hb
          clear hx hb x0
          go_upto_region 10 with fail
          go_cut [34] from 17 to 95 (fun v34 wx => v34 = .bool (!b) ∧ wx = Wi)
          case first =>
            by_cases e : i = j
            · have d0 : decide ((i : Int) < (j : Int)) = false := decide_eq_false (by omega)
              have d1 : decide (i < j) = false := decide_eq_false (by omega)
              have HV := Lib.hid (show true = b by rw [← HBV.out, decide_eq_true e, Bool.true_or])
              clear e
              go_wp2_with fail
              go_meet
              exact ⟨by rw [← HV.out]; rfl, rfl⟩
            · have hij : i < j := by omega
              have d0 : (i : Int) < (j : Int) := by omega
              have b5 := HA0.out _ (HBW.out.trans HBI.out)
              obtain ⟨adI, rfl, c1'⟩ := (HRI.out.to (HBW.out.trans HBI.out)).get1 (k := i) (by rw [rowE_len]; exact hij)
              have d2 : (rowE l j)[i]'(by rw [rowE_len]; exact hij) = aheadE l i j := by
                have := rowE_get (l := l) hij
                rw [List.getElem?_eq_getElem (by rw [rowE_len]; exact hij)] at this
                injection this
              rw [d2] at c1'
              obtain ⟨b2, hb2⟩ : ∃ b, aheadE l i j = b := ⟨_, rfl⟩
              rw [hb2] at c1'
              have HV := Lib.hid (show b2 = b by rw [← HBV.out, decide_eq_false e, hb2, Bool.false_or])
              have hjl : (j : Int) < (l.length : Int) := by omega
              clear d2 hb2 e
              go_wp2_with fail
              go_meet
              exact ⟨by rw [← HV.out], rfl⟩
          case rest =>
            obtain ⟨rfl, hwc⟩ := hcut
            replace hwc := hwc.symm
            subst hwc
            cases b with
            | false =>
              have HNX := Lib.hid (show cntT l j (i + 1) = t by
                rw [cntT, if_neg (fun h => by
                  have h2 := HBV.out
                  rw [Bool.or_eq_false_iff, decide_eq_false_iff_not] at h2
                  rcases h with h | h
                  · exact h2.1 h
                  · rw [h2.2] at h; cases h), HT.out])
              go_wp2_with fail
              go_roundw
              case rel => exact ⟨i + 1, t, _, Ai, ci, rfl, by omega, by go_num, HNX.out.symm, by rw [HN.out], by rw [HN.out]; exact HOI.out, HBI.out⟩
              case measure => simp [intOf]; omega
            | true =>
              have HNX := Lib.hid (show cntT l j (i + 1) = cntStep t xa by
                rw [cntT, if_pos (by
                  have h2 := HBV.out
                  rw [Bool.or_eq_true, decide_eq_true_iff] at h2
                  exact h2), ← HT.out, HXD.out])
              have HTO := Lib.hid (show TbOk t by rw [HT.out]; exact cntT_ok l j i)
              go_wp2_with fail
              go_loopw [8] (fun v8 wr => ∃ (k : Nat) (W3 : World), W3 = wr ∧ k ≤ N ∧ v8 = .int .i64 k ∧ Hid (∀ i' x, i' < k → t[i']? = some x → x.1 < xa) ∧ Bel Wi W3) (fun v8 _ => N - (intOf v8).toNat)
              case atStart => exact ⟨0, _, rfl, Nat.zero_le _, rfl, (fun i' x h _ => absurd h (by omega) : ∀ i' x, i' < 0 → t[i']? = some x → x.1 < xa), Bel.refl _⟩
              case round =>
                obtain ⟨k, W3, rfl, hk, rfl, HK, hb3⟩ := hrel
                have HB3 := Lib.hid hb3
                clear hb3
                obtain ⟨b, hb⟩ : ∃ b, ((t[k]?).any fun x => decide (x.1 < xa)) = b := ⟨_, rfl⟩
                have HBK := Lib.hid hb
                clear hb
                have x3 := HX0.out _ HB3.out
                go_upto_region 12 with fail
                go_cut [51] from 35 to 53 (fun v51 wx => v51 = .bool b ∧ Bel W3 wx)
                case first =>
                  by_cases hkn : k < N
                  · obtain ⟨g, ⟨y1, y2⟩, rfl, hz1, hy, hz2, r0, r1⟩ := (HOI.out.step (fun q hq => HB3.out.block (World.ownsRow.lt HOI.out q hq).2)).at (m := k) (by rw [HN.out]; exact hkn)
                    dsimp only at r0
                    have hk1 : (k : Int) < (N : Int) := by omega
                    have HV := Lib.hid (show decide (y1 < xa) = b by rw [← HBK.out, hy]; rfl)
                    obtain ⟨b2, hb2⟩ : ∃ b, decide (y1 < xa) = b := ⟨_, rfl⟩
                    rw [hb2] at HV
                    have R0 := cellReg r0
                    have X0 := cellReg x3
                    clear r1 hy x3 r0 hz1 hz2
                    refine wp_region_quiet_below (by kernel_rfl) (by kernel_rfl) ?_
                    repeat (go_big_quiet_step (fail))
                    refine wpQuiet_nil ?_
                    intro _ hw'
                    obtain ⟨⟨dq, oq⟩, hw''⟩ := hw'
                    subst hw''
                    have hbq := bel_regrown W3 dq oq
                    go_wp2
                    go_meet
                    exact ⟨by rw [HV.out], hbq⟩
                  · have hk1 : decide ((k : Int) < (N : Int)) = false := decide_eq_false (by omega)
                    have hk2 : decide (k < N) = false := decide_eq_false hkn
                    have HV := Lib.hid (show false = b by rw [← HBK.out, List.getElem?_eq_none (by rw [HN.out]; omega)]; rfl)
                    refine wp_region_quiet_below (by kernel_rfl) (by kernel_rfl) ?_
                    repeat (go_big_quiet_step (fail))
                    refine wpQuiet_nil ?_
                    intro _ hw'
                    obtain ⟨⟨dq, oq⟩, hw''⟩ := hw'
                    subst hw''
                    have hbq := bel_regrown W3 dq oq
                    go_wp2
                    go_meet
                    exact ⟨by rw [← HV.out], hbq⟩
                case rest =>
                  obtain ⟨W4, hwc⟩ : ∃ X, X = wc := ⟨_, rfl⟩
                  subst hwc
                  obtain ⟨rfl, hb34⟩ := hcut
                  have HB4 := Lib.hid (HB3.out.trans hb34)
                  clear hb34 x3
                  cases b with
                  | true =>
                    have HK2 := Lib.hid (show k < N ∧ ∀ i' x, i' < k + 1 → t[i']? = some x → x.1 < xa from by
                      have h := HBK.out
                      cases hx : t[k]? with
                      | none => rw [hx] at h; simp at h
                      | some y =>
                        rw [hx] at h
                        have h2 : y.1 < xa := by simpa using h
                        refine ⟨by have := (List.getElem?_eq_some_iff.1 hx).1; rw [HN.out] at this; exact this, fun i' x hi' hx' => ?_⟩
                        by_cases e : i' = k
                        · rw [e, hx] at hx'; injection hx' with hx'; rw [← hx']; exact h2
                        · exact HK.out i' x (by omega) hx')
                    have hkn := HK2.out.1
                    go_wp2_with fail
                    go_roundw
                    case rel => exact ⟨k + 1, _, rfl, by omega, by go_num, HK2.out.2, HB4.out⟩
                    case measure => simp [intOf]; omega
                  | false =>
                    have HG := Lib.hid (show ∀ x, t[k]? = some x → ¬ x.1 < xa from fun x hx h => by
                      have h2 := HBK.out
                      rw [hx] at h2
                      have h3 : decide (x.1 < xa) = false := h2
                      rw [decide_eq_false_iff_not] at h3
                      exact h3 h)
                    clear HB3
                    obtain ⟨b2, hb2⟩ : ∃ b, ((t[k]?).any fun x => x.1 == xa) = b := ⟨_, rfl⟩
                    have HB2 := Lib.hid hb2
                    clear hb2
                    have x4 := HX0.out _ HB4.out
                    go_upto_region 14 with fail
                    go_cut [70] from 17 to 95 (fun v70 wx => v70 = .bool b2 ∧ Bel W4 wx)
                    case first =>
                      by_cases hkn : k < N
                      · obtain ⟨g, ⟨y1, y2⟩, rfl, hz1, hy, hz2, r0, r1⟩ := (HOI.out.step (fun q hq => HB4.out.block (World.ownsRow.lt HOI.out q hq).2)).at (m := k) (by rw [HN.out]; exact hkn)
                        dsimp only at r0
                        have hk1 : (k : Int) < (N : Int) := by omega
                        have HV := Lib.hid (show (y1 == xa) = b2 by rw [← HB2.out, hy]; rfl)
                        obtain ⟨b3, hb3⟩ : ∃ b, (y1 == xa) = b := ⟨_, rfl⟩
                        rw [hb3] at HV
                        have R0 := cellReg r0
                        have X0 := cellReg x4
                        clear r1 hy x4 r0 hz1 hz2
                        refine wp_region_quiet_below (by kernel_rfl) (by kernel_rfl) ?_
                        repeat (go_big_quiet_step (fail))
                        refine wpQuiet_nil ?_
                        intro _ hw'
                        obtain ⟨⟨dq, oq⟩, hw''⟩ := hw'
                        subst hw''
                        have hbq := bel_regrown W4 dq oq
                        go_wp2
                        go_meet
                        exact ⟨by rw [HV.out], hbq⟩
                      · have hk1 : decide ((k : Int) < (N : Int)) = false := decide_eq_false (by omega)
                        have hk2 : decide (k < N) = false := decide_eq_false hkn
                        have HV := Lib.hid (show false = b2 by rw [← HB2.out, List.getElem?_eq_none (by rw [HN.out]; omega)]; rfl)
                        refine wp_region_quiet_below (by kernel_rfl) (by kernel_rfl) ?_
                        repeat (go_big_quiet_step (fail))
                        refine wpQuiet_nil ?_
                        intro _ hw'
                        obtain ⟨⟨dq, oq⟩, hw''⟩ := hw'
                        subst hw''
                        have hbq := bel_regrown W4 dq oq
                        go_wp2
                        go_meet
                        exact ⟨by rw [← HV.out], hbq⟩
                    case rest =>
                      obtain ⟨W5, hwc⟩ : ∃ X, X = wc := ⟨_, rfl⟩
                      subst hwc
                      obtain ⟨rfl, hb45⟩ := hcut
                      have HB5 := Lib.hid (HB4.out.trans hb45)
                      clear hb45 x4 HB4
                      cases b2 with
                      | true =>
                        have HY := Lib.hid (show ∃ v, t[k]? = some (xa, v) from by
                          have h := HB2.out
                          cases hx : t[k]? with
                          | none => rw [hx] at h; simp at h
                          | some y =>
                            rw [hx] at h
                            have h2 : y.1 = xa := by simpa using h
                            exact ⟨y.2, by rw [← h2]⟩)
                        obtain ⟨v, hv⟩ := HY.out
                        have hkn : k < N := by have := (List.getElem?_eq_some_iff.1 hv).1; rw [HN.out] at this; exact this
                        obtain ⟨g, ⟨y1, y2⟩, rfl, hz1, hy, hz2, r0, r1⟩ := (HOI.out.step (fun q hq => HB5.out.block (World.ownsRow.lt HOI.out q hq).2)).at (m := k) (by rw [HN.out]; exact hkn)
                        obtain ⟨rfl, rfl⟩ : xa = y1 ∧ v = y2 := by rw [hv] at hy; injection hy with hy; exact ⟨(Prod.mk.inj hy).1, (Prod.mk.inj hy).2⟩
                        dsimp only at r0 r1
                        have hvr : 0 ≤ v ∧ v ≤ 1000 := by
                          have h1 := valT_mem HTO.out.ok (List.mem_of_getElem? hv)
                          have h2 := numE_rng l j xa i
                          rw [← cntT_val, ← HT.out, h1] at h2
                          omega
                        have hk1 : (k : Int) < (N : Int) := by omega
                        have HR5 := Lib.hid (HOI.out.step (fun q hq => HB5.out.block (World.ownsRow.lt HOI.out q hq).2))
                        have HSX := Lib.hid (cntStep_has HTO.out hv HK.out)
                        have HVX := Lib.hid hv
                        have HGE := Lib.hid (show W.heap.size ≤ g from (World.ownsRow.lt HOI.out g rfl).1)
                        clear hz1 hz2 hy r0 hv
                        go_wp2_with fail
                        refine wp_region_still_tail 8 (by kernel_rfl) (by kernel_rfl) ?_
                        simp only [List.take_succ_cons, List.take_zero, List.drop_succ_cons, List.drop_zero]
                        change wpStill _ _ W5.drew (fun a' => wpList _ _ _ _ a' W5.drew) _ _
                        have hbd : Bel W5 W5.drew := (Bel.refl _).drew
                        have r1d : W5.drew.cell? ⟨g, k * 2 + 1, none⟩ = some (.int .i64 v) := r1
                        have HR6 := Lib.hid (HR5.out.step (fun q hq => hbd.block (World.ownsRow.lt HR5.out q hq).2))
                        have r1f := HR6.out.frozen (k * 2 + 1)
                        have HB6 := Lib.hid (HBI.out.trans (HB5.out.trans hbd))
                        clear r1 hbd
                        generalize W5.drew = W6 at *
                        repeat still_step
                        refine wpStill_nil ?_
                        go_wp2_with fail
                        go_roundw
                        case rel => exact ⟨i + 1, t.set k (xa, v + 1), _, _, ci, rfl, by omega, by go_num, (by rw [HNX.out, HSX.out] : t.set k (xa, v + 1) = cntT l j (i + 1)), by rw [List.length_set, HN.out], by rw [List.length_set, HN.out]; exact HR6.out.set HN.out.symm HVX.out (v + 1), HB6.out.set (p := ⟨g, k * 2 + 1, none⟩) HGE.out _⟩
                        case measure => simp [intOf]; omega
                      | false =>
                        have HSX := Lib.hid (show cntStep t xa = t.take k ++ (xa, 1) :: t.drop k from cntStep_no HTO.out (by rw [HN.out]; exact hk) HK.out (fun x hx => by
                          have h1 := HG.out x hx
                          have h2 := HB2.out
                          rw [hx] at h2
                          have h3 : (x.1 == xa) = false := h2
                          rw [beq_eq_false_iff_ne] at h3
                          omega))
                        have HR5 := Lib.hid (HOI.out.step (fun q hq => HB5.out.block (World.ownsRow.lt HOI.out q hq).2))
                        obtain ⟨hz1, hNc, hcm, hrr⟩ := kept_len HR5.out
                        clear hz1
                        go_upto_region 16 with fail
                        go_cut [9] from 17 to 95 (fun v9 wx => ∃ A8 c8, v9 = .slice A8 (t.drop k).length c8 ∧ Rd keptT wx (fun q => W5.heap.size ≤ q ∧ q < wx.heap.size) A8 c8 (t.drop k) ∧ Bel W5 wx)
                        case first =>
                          have HDL := Lib.hid (show (t.drop k).length = N - k by rw [List.length_drop, HN.out])
                          by_cases hkn : k < N
                          · obtain ⟨g, _, rfl, hz1, hy, hz2, r0, r1⟩ := HR5.out.at (m := k) (by rw [HN.out]; exact hkn)
                            have HRD := Lib.hid (kept_drop HR5.out hkn)
                            have hck : ¬ ci = k := by omega
                            clear hz1 hy hz2 r0 r1 hrr
                            go_wp2_with (at_builtin; go_loud (refine wp_append keptT (w0 := W5) 29 34 (.agg #[.int .i64 0, .int .i64 0]) 16 rfl _ _ rfl Try.underlying29 info_pair rfl (fun _ => False) All (.slice none 0 0) [] (t.drop k) (some ⟨g, k * 2, none⟩) (N - k) (ci - k) rfl rfl HDL.out.symm (Own.nil _ _ _ _ _) HRD.out keptS' (Bel.refl _) (by rw [HDL.out]; simp [maxLen]; omega) (by rw [HDL.out]; simp; omega) ?_); rintro v8 w8 ho8 hb8 _ _; rw [List.nil_append] at ho8)
                            go_meet
                            obtain ⟨A8, c8, hv8, hr8⟩ := ho8.rd
                            subst hv8
                            exact ⟨A8, c8, rfl, hr8.bound.mono (fun q hq => ⟨by rcases hq.1 with h | h; exact h.elim; exact ho8.ge h.symm, hq.2⟩), hb8⟩
                          · obtain rfl : k = N := by omega
                            clear hkn hrr
                            by_cases hcc : ci = k
                            · subst hcc
                              go_wp2_with (at_builtin; go_loud (refine wp_append keptT (w0 := W5) 29 34 (.agg #[.int .i64 0, .int .i64 0]) 16 rfl _ _ rfl Try.underlying29 info_pair rfl (fun _ => False) All (.slice none 0 0) [] (t.drop ci) _ _ _ rfl rfl (by rw [HDL.out]; simp) (Own.nil _ _ _ _ _) (by rw [List.drop_eq_nil_of_le (by rw [HN.out]; exact Nat.le_refl _)]; exact Rd.nil _ _ _ _ _ (by unfold maxLen; omega)) keptS' (Bel.refl _) (by rw [HDL.out]; simp [maxLen]) (by rw [HDL.out]; simp) ?_); rintro v8 w8 ho8 hb8 _ _; rw [List.nil_append] at ho8)
                              all_goals
                                go_meet
                                obtain ⟨A8, c8, hv8, hr8⟩ := ho8.rd
                                subst hv8
                                exact ⟨A8, c8, rfl, hr8.bound.mono (fun q hq => ⟨by rcases hq.1 with h | h; exact h.elim; exact ho8.ge h.symm, hq.2⟩), hb8⟩
                            · go_wp2_with (at_builtin; go_loud (refine wp_append keptT (w0 := W5) 29 34 (.agg #[.int .i64 0, .int .i64 0]) 16 rfl _ _ rfl Try.underlying29 info_pair rfl (fun _ => False) All (.slice none 0 0) [] (t.drop k) _ _ _ rfl rfl (by rw [HDL.out]; simp) (Own.nil _ _ _ _ _) (by rw [List.drop_eq_nil_of_le (by rw [HN.out]; exact Nat.le_refl _)]; exact Rd.nil _ _ _ _ _ (by unfold maxLen; omega)) keptS' (Bel.refl _) (by rw [HDL.out]; simp [maxLen]) (by rw [HDL.out]; simp) ?_); rintro v8 w8 ho8 hb8 _ _; rw [List.nil_append] at ho8)
                              all_goals
                                go_meet
                                obtain ⟨A8, c8, hv8, hr8⟩ := ho8.rd
                                subst hv8
                                exact ⟨A8, c8, rfl, hr8.bound.mono (fun q hq => ⟨by rcases hq.1 with h | h; exact h.elim; exact ho8.ge h.symm, hq.2⟩), hb8⟩
                        case rest =>
                          obtain ⟨W7, hwc⟩ : ∃ X, X = wc := ⟨_, rfl⟩
                          subst hwc
                          obtain ⟨A8, c8, rfl, hr8, hb57⟩ := hcut
                          obtain ⟨n8, hn8⟩ : ∃ n8, (t.drop k).length = n8 := ⟨_, rfl⟩
                          rw [hn8]
                          have HN8 := Lib.hid hn8
                          have hn8l : n8 ≤ N := by rw [← hn8, List.length_drop, HN.out]; omega
                          have HR8 := Lib.hid hr8
                          have HB7 := Lib.hid (HB5.out.trans hb57)
                          have HBW7 := Lib.hid (HBI.out.trans HB7.out)
                          have HP7 := Lib.hid (kept_pre (HR5.out.step (fun q hq => hb57.block (World.ownsRow.lt HR5.out q hq).2)) hk)
                          have HLO := Lib.hid (show ∀ q, (Value.slice Ai k ci).ownBlock = some q → q < W5.heap.size from fun q hq => (World.ownsRow.lt (kept_pre HR5.out hk) q hq).2)
                          have HSZ := Lib.hid hb57.size
                          clear hr8 hb57 hrr hn8
                          go_wp2_with fail
                          refine wp_region_grow3 [0, 1, 3, 4, 11] [2, 5, 6, 7, 8, 9] [10, 12, 13] (by kernel_rfl) (by kernel_rfl) (by kernel_rfl) (by kernel_rfl) (by kernel_rfl) [SPred.any, SPred.any, SPred.val (.slice Ai k ci), SPred.any, SPred.any, SPred.val (.pointer (some (ad.add (i * 4)))), SPred.val (.pointer (some (ad.add (i * 4)))), SPred.val (.int .i64 xa), SPred.val (.agg #[.int .i64 xa, .int .i64 1]), SPred.litP 34 (xa, 1), SPred.any] ?_ ?_
                          · refine ⟨fun u ρ w9 hb9 hd => ?_, fun u ρ w9 hb9 hd => ?_, fun u ρ w9 hb9 hd => ?_, fun u ρ w9 hb9 hd => ?_, fun u ρ w9 hb9 hd => ?_, fun u ρ w9 hb9 hd => ?_, trivial⟩
                            · simp only [pureA, pureV, Option.map_some, frL, opL, List.getElem?_cons_succ, List.getElem?_cons_zero, Option.getD_some, Option.bind_some, Act.put, List.setIfInBounds_toArray, List.set_cons_succ, List.set_cons_zero, List.filterMap_cons, List.filterMap_nil, Act.eval, List.getElem?_toArray]
                              go_wp2_with fail
                              exact ⟨rfl, _, rfl, Bel.refl _, rfl⟩
                            · simp only [pureA, pureV, Option.map_some, frL, opL, List.getElem?_cons_succ, List.getElem?_cons_zero, Option.getD_some, Option.bind_some, Act.put, List.setIfInBounds_toArray, List.set_cons_succ, List.set_cons_zero, List.filterMap_cons, List.filterMap_nil, Act.eval, List.getElem?_toArray]
                              go_wp2_with fail
                              exact ⟨rfl, _, rfl, Bel.refl _, rfl⟩
                            · have h5 : u 5 = _ := hd 5 (by kernel_rfl)
                              simp only [pureA, pureV, Option.map_some, frL, opL, List.getElem?_cons_succ, List.getElem?_cons_zero, Option.getD_some, Option.bind_some, Act.put, List.setIfInBounds_toArray, List.set_cons_succ, List.set_cons_zero, List.filterMap_cons, List.filterMap_nil, h5]
                              go_wp2_with fail
                              exact ⟨rfl, _, rfl, Bel.refl _, rfl⟩
                            · have h6 : u 6 = _ := hd 6 (by kernel_rfl)
                              have x9 := HX0.out _ (HB7.out.trans hb9)
                              simp only [pureA, pureV, Option.map_some, frL, opL, List.getElem?_cons_succ, List.getElem?_cons_zero, Option.getD_some, Option.bind_some, Act.put, List.setIfInBounds_toArray, List.set_cons_succ, List.set_cons_zero, List.filterMap_cons, List.filterMap_nil, h6]
                              go_wp2_with fail
                              exact ⟨rfl, _, rfl, Bel.refl _, rfl⟩
                            · have h7 : u 7 = _ := hd 7 (by kernel_rfl)
                              simp only [pureA, pureV, Option.map_some, frL, opL, List.getElem?_cons_succ, List.getElem?_cons_zero, Option.getD_some, Option.bind_some, Act.put, List.setIfInBounds_toArray, List.set_cons_succ, List.set_cons_zero, List.filterMap_cons, List.filterMap_nil, h7]
                              go_wp2_with fail
                              exact ⟨rfl, _, rfl, Bel.refl _, rfl⟩
                            · have h8 : u 8 = _ := hd 8 (by kernel_rfl)
                              simp only [pureA, pureV, Option.map_some, frL, opL, List.getElem?_cons_succ, List.getElem?_cons_zero, Option.getD_some, Option.bind_some, Act.put, List.setIfInBounds_toArray, List.set_cons_succ, List.set_cons_zero, List.filterMap_cons, List.filterMap_nil, h8]
                              go_wp2_with fail
                              exact ⟨rfl, _, rfl, (Bel.refl _).alloc _, rfl, heap_alloc_new w9 _⟩
                          · intro u ρ w9 hb9 hall hdj
                            have h2 : u 2 = _ := (hall 2 (by simp)).1
                            have h5 : u 5 = _ := (hall 5 (by simp)).1
                            have h6 : u 6 = _ := (hall 6 (by simp)).1
                            have h7 : u 7 = _ := (hall 7 (by simp)).1
                            have h8 : u 8 = _ := (hall 8 (by simp)).1
                            obtain ⟨h9, hL⟩ := (hall 9 (by simp)).1
                            simp only [pureA, pureV, Option.map_some, frL, opL, List.getElem?_cons_succ, List.getElem?_cons_zero, Option.getD_some, Option.bind_some, Act.put, List.setIfInBounds_toArray, List.set_cons_succ, List.set_cons_zero, List.filterMap_cons, List.filterMap_nil, h2, h5, h6, h7, h8, h9]
                            have HL9 := Lib.hid (rd_litP hL)
                            have HO9 := Lib.hid (kept_own (S := fun _ => False) (HP7.out.step (fun q hq => hb9.block (World.ownsRow.lt HP7.out q hq).2)))
                            have HR9 := Lib.hid (HR8.out.to hb9)
                            have HB9 := Lib.hid (HBW7.out.trans hb9)
                            have HS9 := Lib.hid hb9.size
                            have HTK := Lib.hid (show (t.take k).length = k by rw [List.length_take, HN.out, Nat.min_eq_left hk])
                            generalize (ρ 9).1 = q5 at *
                            clear hall hdj h2 h5 h6 h7 h8 h9 hL hb9
                            refine wp_append keptT (w0 := W) 29 34 (.agg #[.int .i64 0, .int .i64 0]) 16 rfl (.tmp 85) (.tmp 92) rfl Try.underlying29 info_pair rfl (fun _ => False) All (.slice Ai k ci) (t.take k) [(xa, 1)] (some ⟨q5, 0, none⟩) 1 1 rfl rfl rfl HO9.out HL9.out keptS' HB9.out (by rw [HTK.out]; simp [maxLen]; omega) (by rw [HTK.out]; simp; omega) ?_
                            rintro v12 w12 ho12 hb12 hg12 hf12
                            obtain ⟨A12, c12, hv12⟩ := ho12.form
                            rw [List.length_append, HTK.out, List.length_singleton] at hv12
                            subst hv12
                            have HR12 := Lib.hid (HR9.out.step' (w' := w12) (fun q hq => hg12.block q (by have := HS9.out; omega) (fun e => by have := HLO.out q e.symm; omega)))
                            have HO12 := Lib.hid ho12
                            have HB12 := Lib.hid hb12
                            clear ho12 hb12 hg12 hf12
                            refine wp_append keptT (w0 := W) 29 34 (.agg #[.int .i64 0, .int .i64 0]) 16 rfl (.tmp 93) (.tmp 94) rfl Try.underlying29 info_pair rfl (fun _ => False) _ (.slice A12 (k + 1) c12) (t.take k ++ [(xa, 1)]) (t.drop k) A8 n8 c8 rfl rfl HN8.out.symm HO12.out HR12.out keptS' HB12.out (by rw [HN8.out, List.length_append, HTK.out]; simp [maxLen]; omega) (by rw [HN8.out, List.length_append, HTK.out]; simp; omega) ?_
                            rintro v13 w13 ho13 hb13 _ _
                            rw [List.append_assoc, List.singleton_append, ← HSX.out] at ho13
                            obtain ⟨A13, c13, hv13⟩ := ho13.form
                            subst hv13
                            refine wpList_plain rfl fun K hK => ?_
                            go_simp
                            refine hK _ _ ?_
                            refine ⟨rfl, ?_⟩
                            go_wp2
                            go_roundw
                            case rel => exact ⟨i + 1, cntStep t xa, _, A13, c13, rfl, by omega, by go_num, HNX.out.symm, rfl, kept_row ho13, hb13⟩
                            case measure => simp [intOf]; omega
        · obtain rfl : i = j + 1 := by omega
          have HE := Lib.hid (show t = clkE l j by rw [HT.out, cntT_end])
          have HRN := Lib.hid (cntsE_next l j)
          have HCL := Lib.hid (cntsE_len l j)
          have HO2 := Lib.hid (HO.out.to HBI.out)
          have HBW2 := Lib.hid (HBW.out.trans HBI.out)
          have hrd : (sl keptT).rd Wi (fun k => Ge w1.heap.size k ∧ some k ≠ (Value.slice AO j cO).ownBlock) (clkE l j) [.slice Ai N ci] := by
            obtain ⟨A0, c0, e0, r0⟩ := (kept_own (S := fun _ => False) HOI.out).rd
            injection e0 with e1 e2 e3
            subst e1 e3
            rw [HE.out] at r0 e2
            refine ⟨_, _, by rw [← e2], r0.mono (fun k hk => ?_)⟩
            rcases hk with hk | hk
            · exact hk.elim
            · have h1 := (World.ownsRow.lt HOI.out k hk.symm).1
              have h2 := HBW.out.size
              exact ⟨by unfold Ge; omega, fun e => by have := HO.out.lt e.symm; omega⟩
          have HRD := Lib.hid hrd
          have i1 : decide (((j + 1 : Nat) : Int) ≤ (j : Int)) = false := decide_eq_false (by omega)
          have i2 : decide (j + 1 ≤ j) = false := decide_eq_false (by omega)
          clear hrd
          go_wp2_with (at_builtin; go_loud (refine wp_append1 (sl keptT) (w0 := w1) 54 29 (.slice none 0 0) 24 rfl _ _ rfl Try.underlying54 info_row rfl (Ge w1.heap.size) (.slice AO j cO) (cntsE l j) (clkE l j) [.slice Ai N ci] rfl rfl HO2.out HRD.out HBW2.out (by rw [HCL.out]; unfold maxLen; omega) (by rw [HCL.out]; omega) ?_); rintro v4 W4 ho4 hb4 _ _; obtain ⟨A4, c4, hv4⟩ := ho4.form; rw [List.length_append, HCL.out, List.length_singleton] at hv4; subst hv4)
          go_roundw
          case rel => exact ⟨j + 1, _, A4, c4, rfl, by omega, by go_num, rfl, by rw [HRN.out]; exact ho4, hb4⟩
          case measure => simp [intOf]; omega
    · obtain rfl : j = l.length := by omega
      obtain ⟨A9, c9, e9, r9⟩ := HO.out.rdAll
      injection e9 with z1 z2 z3
      subst z1 z3
      have HR9 := Lib.hid r9
      clear z2 r9
      go_wp2
      go_ret
      exact ⟨_, _, rfl, HR9.out, HB.out.trans HBW.out⟩
end Go.Proofs.Ytamihjibdcccmaa
