/- The statement ClockCounts. -/
import Derived.Test.YtjhnenineachaaaClk9
set_option linter.unusedVariables false
set_option linter.unusedSimpArgs false
set_option linter.all false
namespace Go.Cb
theorem hasT_val {t : Tb} (h : TbOk t) (a : Int) : hasT cmpI t a = decide (0 < valT t a) := by
  obtain ⟨h1, h2, h3⟩ := h.val a
  by_cases hh : hasT cmpI t a = true
  · obtain ⟨v, hv⟩ := (hasT_iff cmpI_ord).1 hh
    have hg : getT cmpI t a = some v := by unfold getT; rw [if_pos hh, hv]; rfl
    have hz : valT t a ≠ 0 := fun e => by
      have := h3 e
      rw [hg] at this
      cases this
    rw [hh, decide_eq_true (by omega)]
  · have hg : getT cmpI t a = none := by unfold getT; rw [if_neg hh]
    have hz : valT t a = 0 := by unfold valT; rw [hg]; rfl
    rw [decide_eq_false (by omega)]
    simpa using hh
theorem numE_range (l : List Ev) (j : Nat) (a : Int) : ∀ i, 0 ≤ numE l j a i ∧ numE l j a i ≤ (i : Int)
  | 0 => ⟨Int.le_refl _, Int.le_refl _⟩
  | i + 1 => by
    obtain ⟨h1, h2⟩ := numE_range l j a i
    rw [numE]
    split <;> omega
theorem numE_no {l : List Ev} {i j : Nat} {a : Int} (h : actE l i ≠ a) : numE l j a (i + 1) = numE l j a i := by
  rw [numE, if_neg (fun hh => h hh.1), Int.add_zero]
theorem numE_self {l : List Ev} {j : Nat} {a : Int} (h : actE l j = a) : numE l j a (j + 1) = numE l j a j + 1 := by
  rw [numE, if_pos ⟨h, .inl rfl⟩]
theorem numE_at {l : List Ev} {i j : Nat} {a : Int} (h : actE l i = a) (hij : i ≠ j) : numE l j a (i + 1) = numE l j a i + if aheadE l i j = true then 1 else 0 := by
  rw [numE]
  congr 1
  by_cases e : aheadE l i j = true
  · rw [if_pos e, if_pos ⟨h, .inr e⟩]
  · rw [if_neg e, if_neg (fun hh => by rcases hh.2 with h2 | h2 <;> contradiction)]
end Go.Cb
namespace Go.Proofs.Ytjhnenineachaaa
open Go.RowKit Go.Cb Go.Sort
set_option maxHeartbeats 32000000 in
set_option maxRecDepth 100000 in
theorem ClockCounts_walk (w : World) (A : Option Addr) (c : Nat) (l : List (Int × Int × Int × List Int)) (hl : Rd raw29T w All A c l) (il : Raw29Ok l) :
    Calls Try.prog 4 #[.slice A l.length c] w fun e w' => e = .returned (.bool true) ∧ Bel w w' := by
  have HO := Lib.hid (of29_c w A c l hl _ rfl)
  have IL := Lib.hid (evsR_ok il 24 16)
  have H14 := Lib.hid (List.length_take_le 16 ((l.take 24).map evR))
  clear hl il
  go_enter Try.func4, Try.ntmps4
  go_wp2_with fail
  refine HO.out.mono ?_
  rintro e w1 ⟨A1, c1, he, hr1, hb1⟩
  have hce : (l.take 24).length = ((l.take 24).map evR).length := by simp
  rw [hce] at he
  subst he
  have HC := Lib.hid (cutEvs_c evT rfl All A1 c1 _ 16 w1 hr1 _ rfl (by have := H14.out; omega) 16 rfl)
  have HB1 := Lib.hid hb1
  clear hr1 hb1 hce HO
  generalize (l.take 24).map evR = es at *
  go_wp2_with fail
  refine HC.out.mono ?_
  rintro e w2 ⟨v2, rfl, ho2, hb2⟩
  obtain ⟨A2, c2, rfl, hr2⟩ := ho2.rdAll
  have HR := Lib.hid hr2
  have HB2 := Lib.hid (HB1.out.trans hb2)
  clear ho2 hr2 hb2 HC HB1
  obtain ⟨ls, hls⟩ : ∃ ls, es.take 16 = ls := ⟨_, rfl⟩
  rw [hls] at HR IL H14 ⊢
  clear hls
  obtain ⟨n, hn⟩ : ∃ n, ls.length = n := ⟨_, rfl⟩
  have HN := Lib.hid hn
  have n16 : n ≤ 16 := hn ▸ H14.out
  rw [hn]
  clear hn H14
  have HQ := Lib.hid (clocks_c w2 A2 c2 ls HR.out (by have := HN.out; omega) IL.out n HN.out.symm)
  go_wp2_with fail
  refine HQ.out.mono ?_
  rw [HN.out]
  rintro e w3 ⟨A3, c3, gs, rfl, hrp, hgl, htt, hb3⟩
  have HP := Lib.hid hrp
  have HGL := Lib.hid hgl
  have HT := Lib.hid htt
  have HR3 := Lib.hid (HR.out.to hb3)
  have HB3 := Lib.hid (HB2.out.trans hb3)
  clear hrp hgl htt hb3 HQ HB2
  have KB := Lib.hid (show ∀ W', Bel w3 W' → ∀ i j : Int, Calls Try.prog 8 #[.slice A2 n c2, .int .i64 i, .int .i64 j] W' fun e w' => e = .returned (.bool (befE ls i j)) ∧ Bel W' w' from fun W' h i j => before_c W' A2 c2 ls (HR3.out.to h) (by have := HN.out; omega) IL.out i j n HN.out.symm)
  have KG := Lib.hid (show ∀ W', Bel w3 W' → ∀ j g, gs[j]? = some g → ∀ a : Int, Calls Try.prog 11 #[.pointer (some ⟨g, 0, none⟩), .int .i64 a] W' fun e w' => e = .returned (.tuple #[.int .i64 (vE ls j a), .bool (decide (0 < vE ls j a))]) ∧ Bel W' w' from fun W' h j g hg a => by
    obtain ⟨vt, ht⟩ := HT.out j g hg
    have Q := get_ii (ht.to h) (clkE_ok ls j).ok a
    rw [opt_val, hasT_val (clkE_ok ls j)] at Q
    exact Q)
  clear IL HR HT
  go_wp2
  go_loopw [23] (fun v23 wr => ∃ (j : Nat) (W : World), W = wr ∧ j ≤ n ∧ v23 = .int .i64 j ∧ Bel w3 W) (fun v23 _ => n - (intOf v23).toNat)
  case atStart => exact ⟨0, _, rfl, Nat.zero_le _, rfl, Bel.refl _⟩
  case round =>
    obtain ⟨j, WJ, rfl, hj, rfl, hbj⟩ := hrel
    have HBJ := Lib.hid hbj
    clear hbj
    by_cases hlj : j < n
    · obtain ⟨g, hg⟩ : ∃ g, gs[j]? = some g := ⟨_, List.getElem?_eq_getElem (by have := HGL.out; omega)⟩
      obtain ⟨bd, rfl, pj⟩ := (HP.out.to HBJ.out).ptr hg
      have HGG := Lib.hid hg
      clear hg
      go_wp2_with fail
      clear pj
      go_loopw [6] (fun v6 wr => ∃ (a : Nat) (W : World), W = wr ∧ a ≤ 4 ∧ v6 = .int .i64 a ∧ Bel w3 W) (fun v6 _ => 4 - (intOf v6).toNat)
      case atStart => exact ⟨0, _, rfl, Nat.zero_le _, rfl, HBJ.out⟩
      case round =>
        obtain ⟨a, WA, rfl, ha, rfl, hba⟩ := hrel
        have HBA := Lib.hid hba
        clear hba
        by_cases hla : a < 4
        · have a1 : (a : Int) < 4 := by omega
          go_wp2_with fail
          go_loopw [7, 8] (fun v7 v8 wr => ∃ (i : Nat) (m : Int) (W : World), W = wr ∧ i ≤ j + 1 ∧ v8 = .int .i64 i ∧ v7 = .int .i64 m ∧ m = numE ls j a i ∧ Bel w3 W) (fun _ v8 _ => j + 1 - (intOf v8).toNat)
          case atStart => exact ⟨0, 0, _, rfl, Nat.zero_le _, rfl, rfl, rfl, HBA.out⟩
          case round =>
            obtain ⟨i, m, W, rfl, hi, rfl, rfl, hm, hbw⟩ := hrel
            have HBW := Lib.hid hbw
            have hmr := numE_range ls j a i
            rw [← hm] at hmr
            obtain ⟨m0, m1⟩ := hmr
            have HM := Lib.hid hm
            clear hbw hm
            by_cases hli : i < j + 1
            · have i1 : decide ((i : Int) ≤ (j : Int)) = true := decide_eq_true (by omega)
              have i2 : decide (i ≤ j) = true := decide_eq_true (by omega)
              have i3 : (i : Int) < (n : Int) := by omega
              obtain ⟨⟨xa, xk, xn, xcs⟩, hx⟩ : ∃ x, ls[i]? = some x := ⟨_, List.getElem?_eq_getElem (by have := HN.out; omega)⟩
              have HXD := Lib.hid (show actE ls i = xa by unfold actE; rw [List.getD_eq_getElem?_getD, hx]; rfl)
              obtain ⟨ad, Ax, cx, rfl, x0, _, _, _, _⟩ := (HR3.out.to HBW.out).ev hx
              dsimp only at x0
              clear hx
              by_cases e : xa = a
              · have e1 : (xa == (a : Int)) = true := by rw [e]; simp
                have HXA := Lib.hid (HXD.out.trans e)
                clear e
                by_cases ej : i = j
                · subst ej
                  have HNX := Lib.hid (numE_self HXA.out)
                  rw [← HM.out] at HNX
                  go_wp2_with fail
                  go_roundw
                  case rel => exact ⟨i + 1, m + 1, _, rfl, by omega, by go_num, rfl, HNX.out.symm, HBW.out⟩
                  case measure => simp [intOf]
                · have e2 : ((i : Int) == (j : Int)) = false := beq_eq_false_iff_ne.2 (by omega)
                  have e3 : (i == j) = false := beq_eq_false_iff_ne.2 ej
                  obtain ⟨b, hb⟩ : ∃ b, aheadE ls i j = b := ⟨_, rfl⟩
                  have HNX := Lib.hid (numE_at HXA.out ej)
                  rw [← HM.out, hb] at HNX
                  have HAB := Lib.hid hb
                  clear hb
                  go_wp2_with fail
                  refine (KB.out _ HBW.out i j).mono ?_
                  rw [befE_yes (by have := HN.out; omega) (by have := HN.out; omega), HAB.out]
                  rintro e W5 ⟨rfl, hb5⟩
                  have HB5 := Lib.hid (HBW.out.trans hb5)
                  clear hb5
                  cases b with
                  | true =>
                    go_wp2_with fail
                    go_roundw
                    case rel => exact ⟨i + 1, m + 1, _, rfl, by omega, by go_num, by go_num, HNX.out.symm, HB5.out⟩
                    case measure => simp [intOf]; omega
                  | false =>
                    go_wp2_with fail
                    go_roundw
                    case rel => exact ⟨i + 1, m, _, rfl, by omega, by go_num, rfl, (HNX.out.trans (Int.add_zero _)).symm, HB5.out⟩
                    case measure => simp [intOf]; omega
              · have e1 : (xa == (a : Int)) = false := beq_eq_false_iff_ne.2 e
                have HNX := Lib.hid (numE_no (l := ls) (i := i) (j := j) (a := a) (by rw [HXD.out]; exact e))
                rw [← HM.out] at HNX
                clear e
                go_wp2_with fail
                go_roundw
                case rel => exact ⟨i + 1, m, _, rfl, by omega, by go_num, rfl, HNX.out.symm, HBW.out⟩
                case measure => simp [intOf]; omega
            · obtain rfl : i = j + 1 := by omega
              have i1 : decide (((j + 1 : Nat) : Int) ≤ (j : Int)) = false := decide_eq_false (by omega)
              have i2 : decide ((j : Int) + 1 ≤ (j : Int)) = false := decide_eq_false (by omega)
              have i3 : decide (j + 1 ≤ j) = false := decide_eq_false (by omega)
              obtain ⟨bd', ebd, pj⟩ := (HP.out.to HBW.out).ptr HGG.out
              injection ebd with ebd
              subst ebd
              have j1 : (j : Int) < (n : Int) := by omega
              have HMV := Lib.hid (HM.out.trans (numE_val ls j a))
              go_wp2_with fail
              refine (KG.out _ HBW.out j g HGG.out a).mono ?_
              rw [← HMV.out]
              rintro e W6 ⟨rfl, hb6⟩
              have HB6 := Lib.hid (HBW.out.trans hb6)
              clear hb6 pj
              by_cases m2 : 0 < m
              · have d1 : decide (0 < m) = true := decide_eq_true m2
                rw [d1]
                go_wp2_with fail
                go_roundw
                case rel => exact ⟨a + 1, _, rfl, by omega, by go_num, HB6.out⟩
                case measure => simp [intOf]; omega
              · have d1 : decide (0 < m) = false := decide_eq_false m2
                rw [d1]
                go_wp2_with fail
                go_roundw
                case rel => exact ⟨a + 1, _, rfl, by omega, by go_num, HB6.out⟩
                case measure => simp [intOf]; omega
        · obtain rfl : a = 4 := by omega
          go_wp2_with fail
          go_roundw
          case rel => exact ⟨j + 1, _, rfl, by omega, by go_num, HBA.out⟩
          case measure => simp [intOf]; omega
    · obtain rfl : j = n := by omega
      go_wp2_with fail
      refine (wakes29_c _).mono ?_
      rintro e W9 ⟨rfl, hb9⟩
      have HB9 := Lib.hid (HBJ.out.trans hb9)
      clear hb9
      go_wp2_with fail
      go_ret
      exact ⟨rfl, HB3.out.trans HB9.out⟩
end Go.Proofs.Ytjhnenineachaaa
namespace Go.Proofs.Ytjhnenineachaaa.rowClockCounts
open Go.ChangeShapes Go.WideShapes Go.ChangeAt Go.RowKit Go.Cb
open Go.ChangeMaps (open_string shut_string)
theorem own : ownKnob Try.prog.godebug = none := by kernel_rfl
theorem laidOut : laidOutB Try.prog = true := by kernel_rfl
set_option maxRecDepth 100000 in
theorem lifted (os : Os) (started : os.Started) (H : Type) (enc : TypeId × Value → H) :
    ReturnsInHanded {} Try.checked os 4 .any (Rows.clockCountsSpec.pre6 enc Try.prog Try.f4 Rows.clockCountsRow.domain false) (Rows.clockCountsSpec.post enc Try.prog Try.f4 false true false false) := by
  refine returnsInHanded_of_change_sized (C := Try.checked) own started (by kernel_rfl) Try.func4
    (ChangeSpec.witness6 (enc := enc) (C := Try.checked) false ⟨#[], #[.slice none 0 0], []⟩ 8 (by kernel_rfl) (by kernel_rfl) (by kernel_rfl) (by kernel_rfl)) ?_
  intro W base args ds gs before hval0 hW hcnd hsz0 _
  have hsz : (DataW.weightsEach Try.prog (Try.f4.params.toList ++ Rows.clockCountsSpec.plain.varTypes Try.prog) (ds ++ gs)).all (· ≤ reachBytes) = true := hsz0
  have hval : ∀ (j : Nat) t v, Try.f4.params[j]? = some t → args[j]? = some v → Value.okWide Try.prog W .any base t v := hval0
  have hW' := hW
  obtain ⟨p, q, hA0, hV, rfl, hfz, hnd⟩ := hW
  have hA : DataW.TrodAll enc Try.prog W 0 (fun _ => true) true Try.f4.params.toList args.toList ds p := hA0
  rw [Try.params4] at hA hval hsz
  obtain ⟨v0, vs0, d0, ds0, p0, q0, hargs, rfl, rfl, h0, r0⟩ := trodAll_cons hA
  obtain ⟨rfl, rfl, rfl⟩ := trodAll_nil r0
  obtain rfl : args = #[v0] := by cases args; simp_all
  obtain ⟨rfl, rfl⟩ := trodVars_none hV
  obtain ⟨a0, len0, cap0, rfl⟩ := okWide_slice Try.underlying22 (hval 0 22 v0 rfl rfl)
  have k0 := h0
  have lt0 : ∀ x ∈ p0, x.block < W.heap.size := by obtain ⟨m, hm⟩ := k0; exact DataW.trod_lt m _ _ _ hm
  obtain ⟨m0, hm0⟩ := h0
  obtain ⟨x0, R0, ok0⟩ := opensRaws29 _ _ _ _ _ _ _ _ _ hm0
  replace R0 : (sl raw29T).rd W All x0 [.slice a0 len0 cap0] := R0
  obtain ⟨A0, c0, eq0, q0⟩ := R0
  obtain ⟨rfl, rfl, rfl⟩ : a0 = A0 ∧ len0 = x0.length ∧ cap0 = c0 := by simpa using eq0
  clear hA0 hval0 hsz0 hsz
  refine (ClockCounts_walk W a0 cap0 x0 q0 ok0).mono fun e W' ⟨he, bel⟩ => ?_
  subst he
  exact ⟨_, rfl, _, _, _, [], _, [], hW', trodAll_mk1 (shut_bool Try.underlying4 _), (trodAll_cons_mk (Below.trod laidOut (by kernel_rfl) (of_decide_eq_true (by kernel_rfl)) k0 bel.out lt0) trodAll_mk0), rfl, bel.out.frame _, fun h => by cases h⟩
theorem over : Rows.clockCountsRow.holds Try.pinned (OpenSpec.ofChange Rows.clockCountsSpec) :=
  OpenClaim.holds_of_wide 4 Try.f4 rfl rfl rfl rfl rfl rfl rfl ⟨rfl, rfl, rfl, rfl, rfl⟩ rfl rfl rfl rfl rfl (by kernel_rfl) Try.func4 (by kernel_rfl)
    (of_decide_eq_true (by kernel_rfl)) (by unfold Func.isWrapper; first | (rw [if_pos (by decide +kernel)]; kernel_rfl) | (rw [if_neg (by decide +kernel)]; exact ⟨rfl, rfl⟩))
    (fun os started H enc _ => lifted os started H enc)
end Go.Proofs.Ytjhnenineachaaa.rowClockCounts
namespace Go.Proofs.Ytjhnenineachaaa
theorem ClockCounts_holds : Rows.ClockCountsSaid := rowClockCounts.over
#print axioms ClockCounts_holds
end Go.Proofs.Ytjhnenineachaaa
