/- AutoCost: a step costs two to the power of its Periods for each item; what can't be paid is not done. -/
import Derived.Test.YtbfbhacdllhddaaAutC
import Derived.Test.YtbfbhacdllhddaaMB
set_option linter.unusedVariables false
set_option linter.unusedSimpArgs false
set_option linter.all false
namespace Go.Proofs.Ytbfbhacdllhddaa
open Go.RowKit Go.Cb Go.Sort
set_option maxHeartbeats 64000000 in
set_option maxRecDepth 100000 in
theorem AutoCost_walk (w : World) (L : Option Addr) (cl : Nat) (l : List Int) (hl : Rd intT w All L cl l) (il : ∀ x ∈ l, inI64 x) (_ : l.length * 8 ≤ 140737488351232) (letter : Int) (_ : inU64 letter) :
    Calls Try.prog 6 #[.slice L l.length cl, .int .u64 letter] w fun e w' => e = .returned (.bool true) ∧ Bel w w' := by
  have oP := playSem_P l
  obtain ⟨s, hs⟩ : ∃ s, playSem l = s := ⟨_, rfl⟩
  have Hs := Lib.hid hs
  rw [hs] at oP
  have hs6 := oP.six
  have HSP := Lib.hid oP
  have hbx := startS_box oP
  have hci := costI_start oP.right
  have hcl := costS_le oP.per
  have stl := startS_len (s := s)
  obtain ⟨xs, hx0⟩ : ∃ x, startS s = x := ⟨_, rfl⟩
  have HX0 := Lib.hid hx0
  rw [hx0] at hbx hci stl
  obtain ⟨K, hK⟩ : ∃ K : Nat, costS s = K := ⟨_, rfl⟩
  rw [hK] at hci hcl
  have hlt15 := and15_range letter
  obtain ⟨lt, hlte⟩ : ∃ lt, bits .and .u64 letter 15 = lt := ⟨_, rfl⟩
  rw [hlte] at hlt15
  have HLT := Lib.hid hlte
  obtain ⟨l1, h1⟩ := (next_pay oP hbx lt (K : Int)).1 (by rw [hci]; omega)
  rw [hci] at h1
  have E1 := Lib.hid h1
  have HNP := Lib.hid (next_pay oP hbx lt)
  have HCI := Lib.hid hci
  have HKS := Lib.hid hK
  have HKE : K = 0 → s = [] := fun h => by
    cases s with
    | nil => rfl
    | cons x r =>
      exfalso
      have : 1 ≤ 2 ^ x.2.length := Nat.pow_pos (by decide)
      have h2 : costS (x :: r) = 2 ^ x.2.length + costS r := by unfold costS; simp
      omega
  have hK15 : K ≤ 1536 := by omega
  clear hs oP hx0 hbx hci hK hlte h1 hcl
  go_enter Try.func6, Try.ntmps6
  go_wp2_with fail
  refine (playSemi_c _ L cl l w hl il _ rfl).mono ?_
  rw [Hs.out]
  rintro e w1 ⟨v, rfl, r, hb1⟩
  obtain ⟨As, cs, rfl, hr⟩ := r.rd
  have Q := autoStart_c _ As cs s w1 hr _ rfl (by omega)
  rw [HX0.out] at Q
  have HQ := Lib.hid Q
  clear Q
  go_wp2_with fail
  refine HQ.out.mono ?_
  rintro e w2 ⟨v, rfl, ⟨Ax, cx, rfl, hrx⟩, hb2⟩
  have HS := Lib.hid (fun W (h : Bel w2 W) => ((hr.to hb2).to h).all)
  have HX := Lib.hid (fun W (h : Bel w2 W) => (hrx.to h).all)
  have HB2 := Lib.hid (hb1.trans hb2)
  clear hr hrx hb1 hb2 HQ
  go_wp2
  go_loopw [7, 22] (fun v7 v22 wr => ∃ (k : Nat) (W : World) (cost : Nat), W = wr ∧ k ≤ s.length ∧ v22 = .int .i64 k ∧ v7 = .int .i64 cost ∧ Hid (cost = costS (s.take k)) ∧ cost ≤ k * 256 ∧ Bel w2 W) (fun _ v22 _ => s.length - (intOf v22).toNat)
  case atStart => exact ⟨0, _, 0, rfl, Nat.zero_le _, rfl, rfl, rfl, Nat.zero_le _, Bel.refl _⟩
  case round =>
    obtain ⟨k, W, cost, rfl, hk, rfl, rfl, HC, hck, hbW⟩ := hrel
    by_cases hlt : k < s.length
    · obtain ⟨ad, A0, c0, A1, c1, rfl, x0, x1, _, _⟩ := (HS.out W hbW).lrow hlt
      obtain ⟨⟨sb, ps⟩, hse⟩ : ∃ y, s[k] = y := ⟨_, rfl⟩
      have hp8 : ps.length ≤ 8 := by have := HSP.out.per _ (List.getElem_mem hlt); rw [hse] at this; exact this
      have HT := Lib.hid (costS_take (show s[k]? = some (sb, ps) by rw [List.getElem?_eq_getElem hlt, hse]))
      rw [hse] at x0 x1
      dsimp only at x0 x1
      have hal : Bel W (W.alloc (.cells #[.slice A0 sb.length c0, .slice A1 ps.length c1] 43)) := (Bel.refl _).alloc _
      have X := Box.new W 43 (.slice A0 sb.length c0) (.slice A1 ps.length c1)
      obtain ⟨z0, z1, _, _⟩ := X.cells
      have pw := pow_8 hp8
      obtain ⟨P, hP⟩ : ∃ P : Nat, 2 ^ ps.length = P := ⟨_, rfl⟩
      have hwr : wrap64 ((2 : Int) ^ ps.length) = (P : Int) := by
        rw [← hP]
        have : ((2 ^ ps.length : Nat) : Int) = (2 : Int) ^ ps.length := by push_cast; rfl
        rw [← this]
        unfold wrap64
        omega
      have HT2 := Lib.hid (show costS (s.take (k + 1)) = cost + P by rw [HT.out, HC.out, ← hP])
      rw [hP] at pw
      have hbW1 := hbW.trans hal
      clear hse hP hal X
      go_wp2
      go_roundw
      case rel => exact ⟨k + 1, _, cost + P, rfl, by omega, by go_num, by go_num, HT2.out.symm, by omega, hbW1⟩
      case measure => simp [intOf]; omega
    · obtain rfl : k = s.length := by omega
      obtain rfl : cost = K := by rw [HC.out, List.take_length]; exact HKS.out
      clear HC hck hlt
      have HBW := Lib.hid (HB2.out.trans hbW)
      have HSW := Lib.hid (fun W' (h : Bel W W') => ((HS.out _ hbW).bound).to h)
      have HXW := Lib.hid (fun W' (h : Bel W W') => ((HX.out _ hbW).bound).to h)
      have hwm : IntKind.i64.wrap ((cost : Int) - 1) = (cost : Int) - 1 := by rw [IntKind.wrap_i64]; omega
      clear hbW HS HX HB2
      go_wp2_with fail
      refine (newMeter_s1 (cost : Int) _ (by omega)).mono ?_
      rintro e wm ⟨g, rfl, hg, HM, hb⟩
      have HBN := hb
      clear hb
      go_wp2_with fail
      refine (newMeter_s1 ((cost : Int) - 1) _ (by omega)).mono ?_
      rintro e W0 ⟨g2, rfl, hg2, HR, hb⟩
      have hgl := HM.lt
      have hne : g ≠ g2 := by omega
      replace HM := HM.to hb
      replace HBN := HBN.trans hb
      have hNg : W.heap.size ≤ g := by omega
      have hNg2 : W.heap.size ≤ g2 := by omega
      rw [show max (cost : Int) 0 = cost by omega] at HM
      obtain ⟨B2, hB2⟩ : ∃ B2, max ((cost : Int) - 1) 0 = B2 := ⟨_, rfl⟩
      have hB0 : 0 ≤ B2 ∧ B2 ≤ 2000 ∧ (cost = 0 → B2 = 0) ∧ (0 < cost → B2 < cost) := by omega
      rw [hB2] at HR
      clear hb hg hg2 hgl hB2
      have HMK := Lib.hid HM
      have HRK := Lib.hid HR
      have hgs := HM.lt
      have hrs := HR.lt
      have Q := autoNext_c (.pointer (some ⟨g, 0, none⟩)) (some g) (some ((cost : Int), 0, false)) _ _ As Ax cs cx s xs lt W0 (MetO.of2 HM (Int.le_refl _) (by omega) (by omega)) (HSW.out _ HBN) (HXW.out _ HBN) (fun j hj e => by injection e with e; have := hj.2; omega) (fun j hj e => by injection e with e; have := hj.2; omega) _ _ rfl rfl HSP.out.per (by omega) hlt15
      rw [E1.out] at Q
      dsimp only at Q
      have HQ := Lib.hid Q
      clear Q HM HR
      go_wp2_with fail
      rw [HLT.out]
      refine HQ.out.mono ?_
      clear HQ
      rintro e wa ⟨v, rfl, r, hm, hg⟩
      obtain ⟨Aa, cA, rfl, hra⟩ := r
      have HM := (MetO.at2 hm rfl).1
      have HR := HRK.out.by2 hg (Ne.symm hne)
      have HBA := HBN.grown hg (fun j e => by injection e with e; omega)
      clear hm hg HMK HRK HBN hra
      have HMK := Lib.hid HM
      have hga := HM.lt
      rcases Nat.eq_zero_or_pos cost with h0 | h0
      · obtain ⟨l2, h2⟩ := (HNP.out B2).1 (by rw [HCI.out]; omega)
        have E2 := Lib.hid h2
        have Q := autoNext_c (.pointer (some ⟨g2, 0, none⟩)) (some g2) (some (B2, 0, false)) _ _ As Ax cs cx s xs lt wa (MetO.of2 HR (Int.le_refl _) hB0.1 (by omega)) (HSW.out _ HBA) (HXW.out _ HBA) (fun j hj e => by injection e with e; have := hj.2; omega) (fun j hj e => by injection e with e; have := hj.2; omega) _ _ rfl rfl HSP.out.per (by omega) hlt15
        rw [E2.out] at Q
        dsimp only at Q
        have HQ := Lib.hid Q
        have hc0 : ((cost : Int) == 0) = true := by rw [h0]; rfl
        clear Q HM HR h2 h0
        go_wp2_with fail
        rw [HLT.out]
        refine HQ.out.mono ?_
        clear HQ
        rintro e wb ⟨v, rfl, r, hm, hg⟩
        obtain ⟨Ab, cB, rfl, _⟩ := r
        have HM := HMK.out.by2 hg hne
        have HBB := HBA.grown hg (fun j e => by injection e with e; omega)
        have HSPN := Lib.hid (spent_s1 g _ _ _ wb HM)
        have hcc : ((cost : Int) == (cost : Int)) = true := by simp
        clear hm hg HMK
        go_wp2_with fail
        refine HSPN.out.mono ?_
        rintro e w9 ⟨rfl, rfl⟩
        go_wp2_with fail
        refine (wakes09 _).mono ?_
        rintro e w10 ⟨rfl, hb10⟩
        go_wp2
        go_ret
        exact ⟨rfl, HBW.out.trans (HBB.trans hb10)⟩
      · obtain ⟨st2, h2⟩ := (HNP.out B2).2 hB0.1 (by rw [HCI.out]; omega)
        have E2 := Lib.hid h2
        have Q := autoNext_c (.pointer (some ⟨g2, 0, none⟩)) (some g2) (some (B2, 0, false)) _ _ As Ax cs cx s xs lt wa (MetO.of2 HR (Int.le_refl _) hB0.1 (by omega)) (HSW.out _ HBA) (HXW.out _ HBA) (fun j hj e => by injection e with e; have := hj.2; omega) (fun j hj e => by injection e with e; have := hj.2; omega) _ _ rfl rfl HSP.out.per (by omega) hlt15
        rw [E2.out] at Q
        dsimp only at Q
        have HQ := Lib.hid Q
        have hc0 : ((cost : Int) == 0) = false := beq_eq_false_iff_ne.2 (by omega)
        clear Q HM HR h2
        go_wp2_with fail
        rw [HLT.out]
        refine HQ.out.mono ?_
        clear HQ
        rintro e wb ⟨v, rfl, r, hm, hg⟩
        obtain ⟨Ab, cB, rfl, _⟩ := r
        have HM := HMK.out.by2 hg hne
        have HBB := HBA.grown hg (fun j e => by injection e with e; omega)
        have HSPN := Lib.hid (spent_s1 g _ _ _ wb HM)
        have hcc : ((cost : Int) == (cost : Int)) = true := by simp
        clear hm hg HMK
        go_wp2_with fail
        refine HSPN.out.mono ?_
        rintro e w9 ⟨rfl, rfl⟩
        go_wp2_with fail
        refine (wakes09 _).mono ?_
        rintro e w10 ⟨rfl, hb10⟩
        go_wp2
        go_ret
        exact ⟨rfl, HBW.out.trans (HBB.trans hb10)⟩
end Go.Proofs.Ytbfbhacdllhddaa
namespace Go.Proofs.Ytbfbhacdllhddaa.rowAutoCost
open Go.ChangeShapes Go.WideShapes Go.ChangeAt Go.RowKit Go.Cb
open Go.ChangeMaps (open_string shut_string)
theorem own : ownKnob Try.prog.godebug = none := by kernel_rfl
theorem laidOut : laidOutB Try.prog = true := by kernel_rfl
set_option maxRecDepth 100000 in
theorem lifted (os : Os) (started : os.Started) (H : Type) (enc : TypeId × Value → H) :
    ReturnsInHanded {} Try.checked os 6 .any (Rows.autoCostSpec.pre6 enc Try.prog Try.f6 Rows.autoCostRow.domain false) (Rows.autoCostSpec.post enc Try.prog Try.f6 false true false false) := by
  refine returnsInHanded_of_change_sized (C := Try.checked) own started (by kernel_rfl) Try.func6
    (ChangeSpec.witness6 (enc := enc) (C := Try.checked) false ⟨#[], #[.slice none 0 0, .int .u64 0], []⟩ 8 (by kernel_rfl) (by kernel_rfl) (by kernel_rfl) (by kernel_rfl)) ?_
  intro W base args ds gs before hval0 hW hcnd hsz0 _
  have hsz : (DataW.weightsEach Try.prog (Try.f6.params.toList ++ Rows.autoCostSpec.plain.varTypes Try.prog) (ds ++ gs)).all (· ≤ reachBytes) = true := hsz0
  have hval : ∀ (j : Nat) t v, Try.f6.params[j]? = some t → args[j]? = some v → Value.okWide Try.prog W .any base t v := hval0
  have hW' := hW
  obtain ⟨p, q, hA0, hV, rfl, hfz, hnd⟩ := hW
  have hA : DataW.TrodAll enc Try.prog W 0 (fun _ => true) true Try.f6.params.toList args.toList ds p := hA0
  rw [Try.params6] at hA hval hsz
  obtain ⟨v0, vs0, d0, ds0, p0, q0, hargs, rfl, rfl, h0, r0⟩ := trodAll_cons hA
  obtain ⟨v1, vs1, d1, ds1, p1, q1, rfl, rfl, rfl, h1, r1⟩ := trodAll_cons r0
  obtain ⟨rfl, rfl, rfl⟩ := trodAll_nil r1
  obtain rfl : args = #[v0, v1] := by cases args; simp_all
  obtain ⟨rfl, rfl⟩ := trodVars_none hV
  obtain ⟨a0, len0, cap0, rfl⟩ := okWide_slice Try.underlying22 (hval 0 22 v0 rfl rfl)
  have k0 := h0
  have lt0 : ∀ x ∈ p0, x.block < W.heap.size := by obtain ⟨m, hm⟩ := k0; exact DataW.trod_lt m _ _ _ hm
  obtain ⟨l0, rfl, R0, wf0, sz0⟩ := open_rd hsz (j := 0) (t := 22) rfl rfl Try.underlying22 Try.underlying3 (by kernel_rfl) (by kernel_rfl) h0
  obtain ⟨a1, rfl, rfl, rfl, w1⟩ := open_int Try.underlying30 (hval 1 30 v1 rfl rfl) h1
  clear hA0 hval0 hsz0 hsz
  refine (AutoCost_walk W a0 cap0 l0 R0 (fun x hx => inI64_wf (wf0 x hx)) sz0 a1 (inU64_wf w1)).mono fun e W' ⟨he, bel⟩ => ?_
  subst he
  exact ⟨_, rfl, _, _, _, [], _, [], hW', trodAll_mk1 (shut_bool Try.underlying4 _), (trodAll_cons_mk (Below.trod laidOut (by kernel_rfl) (of_decide_eq_true (by kernel_rfl)) k0 bel.out lt0) (trodAll_cons_mk (shut_int Try.underlying30 w1) trodAll_mk0)), rfl, bel.out.frame _, fun h => by cases h⟩
theorem over : Rows.autoCostRow.holds Try.pinned (OpenSpec.ofChange Rows.autoCostSpec) :=
  OpenClaim.holds_of_wide 6 Try.f6 rfl rfl rfl rfl rfl rfl rfl ⟨rfl, rfl, rfl, rfl, rfl⟩ rfl rfl rfl rfl rfl (by kernel_rfl) Try.func6 (by kernel_rfl)
    (of_decide_eq_true (by kernel_rfl)) (by unfold Func.isWrapper; first | (rw [if_pos (by decide +kernel)]; kernel_rfl) | (rw [if_neg (by decide +kernel)]; exact ⟨rfl, rfl⟩))
    (fun os started H enc _ => lifted os started H enc)
end Go.Proofs.Ytbfbhacdllhddaa.rowAutoCost
namespace Go.Proofs.Ytbfbhacdllhddaa
theorem AutoCost_holds : Rows.AutoCostSaid := rowAutoCost.over
#print axioms AutoCost_holds
end Go.Proofs.Ytbfbhacdllhddaa
