/- BagTake: what can't be taken away: more of a tag than there is; what was taken may be put back. -/
import Derived.Test.YtpkofpnfnpicmaaBag9
import Derived.Test.YtpkofpnfnpicmaaRowLib
namespace Go.Proofs.Ytpkofpnfnpicmaa
open Go.RowKit Go.Cb
def canAt (x y : List Int) (i : Nat) : Bool := (y.getD i 0 == 0) || (decide (i < x.length) && decide (y.getD i 0 ≤ x.getD i 0))
def canP (x y : List Int) (k : Nat) : Bool := (List.range k).all (canAt x y)
theorem canP_succ (x y : List Int) (k : Nat) : canP x y (k + 1) = (canP x y k && canAt x y k) := by
  unfold canP
  rw [List.range_succ, List.all_append]; simp
theorem canP_le {x y : List Int} (hx : rightB x = true) (hy : rightB y = true) : canP x y y.length = leP x y := by
  rw [Bool.eq_iff_iff, leP_iff]
  unfold canP
  rw [List.all_eq_true]
  constructor
  · intro h
    have h2 : ∀ i, i < y.length → y.getD i 0 ≤ x.getD i 0 := by
      intro i hi
      have := h i (List.mem_range.2 hi)
      unfold canAt at this
      rw [Bool.or_eq_true, Bool.and_eq_true, beq_iff_eq] at this
      rcases this with h0 | ⟨_, h1⟩
      · rw [h0]; exact (right_getD hx i).1
      · exact of_decide_eq_true h1
    refine ⟨?_, h2⟩
    rcases Nat.lt_or_ge x.length y.length with hl | hl
    · exfalso
      have := h (y.length - 1) (List.mem_range.2 (by omega))
      unfold canAt at this
      rw [Bool.or_eq_true, Bool.and_eq_true, beq_iff_eq] at this
      rcases this with h0 | ⟨h1, _⟩
      · unfold rightB at hy
        simp only [Bool.and_eq_true] at hy
        have h3 := hy.1.2
        rw [List.getLast?_eq_getElem?, List.getElem?_eq_getElem (by omega)] at h3
        rw [getD_of (by omega)] at h0
        rw [h0] at h3
        simp at h3
      · have := of_decide_eq_true h1; omega
    · exact hl
  · rintro ⟨hl, h⟩ i hi
    have hi := List.mem_range.1 hi
    unfold canAt
    rw [Bool.or_eq_true, Bool.and_eq_true]
    exact .inr ⟨decide_eq_true (by omega), decide_eq_true (h i hi)⟩
set_option maxHeartbeats 4000000 in
set_option maxRecDepth 100000 in
theorem BagTake_walk (w : World) (A : Option Addr) (ca : Nat) (a : List Int) (ha : Rd intT w All A ca a) (ia : ∀ x ∈ a, inI64 x) (_ : a.length * 8 ≤ 140737488351232)
    (B : Option Addr) (cb : Nat) (b : List Int) (hb : Rd intT w All B cb b) (ib : ∀ x ∈ b, inI64 x) (_ : b.length * 8 ≤ 140737488351232) :
    Calls Try.prog 11 #[.slice A a.length ca, .slice B b.length cb] w fun e w' => e = .returned (.bool true) ∧ Bel w w' := by
  obtain ⟨x, hx⟩ : ∃ x, playBag a = x := ⟨_, rfl⟩
  obtain ⟨y, hy⟩ : ∃ y, playBag b = y := ⟨_, rfl⟩
  have rx := Lib.hid (hx ▸ playBag_right a)
  have ry := Lib.hid (hy ▸ playBag_right b)
  have Hx := Lib.hid hx
  have Hy := Lib.hid hy
  clear hx hy
  go_enter Try.func11, Try.ntmps11
  go_wp2_with fail
  refine (playBag_c _ _ _ _ _ ha ia _ rfl).mono ?_
  rw [Hx.out]
  rintro e w1 ⟨v1, rfl, ho1, hb1⟩
  obtain ⟨A1, c1, rfl, hr1⟩ := ho1.rd
  go_wp2_with fail
  refine (playBag_c _ _ _ _ _ (hb.to hb1) ib _ rfl).mono ?_
  rw [Hy.out]
  rintro e w2 ⟨v2, rfl, ho2, hb2⟩
  obtain ⟨A2, c2, rfl, hr2⟩ := ho2.rd
  replace hr1 := (hr1.to hb2).all
  replace hr2 := hr2.all
  have hbb := hb1.trans hb2
  clear ho1 ho2 hb1 hb2
  have lx := hr1.lenMax
  have ly := hr2.lenMax
  go_wp2_with fail
  go_loop [7, 20] (fun v7 v20 => ∃ k : Nat, k ≤ y.length ∧ v20 = .int .i64 k ∧ v7 = .bool (canP x y k)) (fun _ v20 => y.length - (intOf v20).toNat)
  case atStart => exact ⟨0, Nat.zero_le _, rfl, rfl⟩
  case round =>
    obtain ⟨k, hk, rfl, rfl⟩ := hrel
    by_cases hlt : k < y.length
    · obtain ⟨yd, rfl, hcy⟩ := hr2.int hlt
      have hs := canP_succ x y k
      have hat : canAt x y k = ((y[k] == 0) || (decide (k < x.length) && decide (y[k] ≤ x.getD k 0))) := by unfold canAt; rw [getD_of hlt]
      rw [hat] at hs
      have Hs := Lib.hid hs
      clear hs hat
      cases hc : canP x y k with
      | false =>
        have Hs2 := Lib.hid (show canP x y (k + 1) = false from by rw [Hs.out, hc]; rfl)
        go_wp2
        go_round
        case rel => exact ⟨k + 1, by omega, by go_num, by rw [Hs2.out]⟩
        case measure => simp [intOf]; omega
      | true =>
        cases h0 : (y[k] == 0) with
        | true =>
          have Hs2 := Lib.hid (show canP x y (k + 1) = true from by rw [Hs.out, hc, h0]; rfl)
          go_wp2
          go_round
          case rel => exact ⟨k + 1, by omega, by go_num, by rw [Hs2.out]⟩
          case measure => simp [intOf]; omega
        | false =>
          by_cases hkx : k < x.length
          · obtain ⟨xd, rfl, hcx⟩ := hr1.int hkx
            have Hs2 := Lib.hid (show canP x y (k + 1) = decide (y[k] ≤ x[k]) from by rw [Hs.out, hc, h0, decide_eq_true hkx, getD_of hkx]; rfl)
            go_wp2
            go_round
            case rel => exact ⟨k + 1, by omega, by go_num, by rw [Hs2.out]⟩
            case measure => simp [intOf]; omega
          · have Hs2 := Lib.hid (show canP x y (k + 1) = false from by rw [Hs.out, hc, h0, decide_eq_false hkx]; rfl)
            go_wp2
            go_round
            case rel => exact ⟨k + 1, by omega, by go_num, by rw [Hs2.out]⟩
            case measure => simp [intOf]; omega
    · obtain rfl : k = y.length := by omega
      have hle := canP_le rx.out ry.out
      rw [hle]
      cases hl : leP x y with
      | false =>
        have E := Lib.hid (subB_no hl)
        clear hle hl
        go_wp2_with fail
        refine (bagSub_c _ _ _ _ _ _ _ _ _ hr1 hr2 _ _ rfl rfl).mono ?_
        rw [E.out]
        rintro e w5 ⟨v5, rfl, ho5, hb5⟩
        obtain ⟨A5, c5, rfl, hr5⟩ := ho5.rd
        go_wp2_with fail
        refine (wakes03 _).mono ?_
        rintro e w6 ⟨rfl, hb6⟩
        go_wp2
        go_ret
        exact ⟨rfl, (hbb.trans hb5).trans hb6⟩
      | true =>
        obtain ⟨u, hu⟩ : ∃ u, (subB x y).1 = u := ⟨_, rfl⟩
        have e1 : subB x y = (u, true) := by rw [← hu, subB_yes rx.out ry.out hl]
        have e2 := addB_sub rx.out ry.out hl
        rw [hu] at e2
        have E1 := Lib.hid e1
        have E2 := Lib.hid e2
        clear hle hl hu e1 e2
        go_wp2_with fail
        refine (bagSub_c _ _ _ _ _ _ _ _ _ hr1 hr2 _ _ rfl rfl).mono ?_
        rw [E1.out]
        rintro e w5 ⟨v5, rfl, ho5, hb5⟩
        obtain ⟨A5, c5, rfl, hr5⟩ := ho5.rd
        go_wp2_with fail
        refine (bagAdd_c _ _ _ _ _ _ _ _ hr5.all (hr2.to hb5) _ _ rfl rfl).mono ?_
        rw [E2.out]
        rintro e w6 ⟨v6, rfl, ho6, hb6⟩
        obtain ⟨A6, c6, rfl, hr6⟩ := ho6.rd
        go_wp2_with fail
        refine (same03_c _ _ _ _ _ _ _ _ _ hr6.all ((hr1.to hb5).to hb6) _ _ rfl rfl).mono ?_
        rw [decide_eq_true (rfl : x = x)]
        rintro e w7 ⟨rfl, hb7⟩
        go_wp2_with fail
        refine (wakes03 _).mono ?_
        rintro e w8 ⟨rfl, hb8⟩
        go_wp2
        go_ret
        exact ⟨rfl, (((hbb.trans hb5).trans hb6).trans hb7).trans hb8⟩
end Go.Proofs.Ytpkofpnfnpicmaa
namespace Go.Proofs.Ytpkofpnfnpicmaa.rowBagTake
open Go.ChangeShapes Go.WideShapes Go.ChangeAt Go.RowKit Go.Cb
open Go.ChangeMaps (open_string shut_string)
theorem own : ownKnob Try.prog.godebug = none := by kernel_rfl
theorem laidOut : laidOutB Try.prog = true := by kernel_rfl
set_option maxRecDepth 100000 in
theorem lifted (os : Os) (started : os.Started) (H : Type) (enc : TypeId × Value → H) :
    ReturnsInHanded {} Try.checked os 11 .any (Rows.bagTakeSpec.pre6 enc Try.prog Try.f11 Rows.bagTakeRow.domain false) (Rows.bagTakeSpec.post enc Try.prog Try.f11 false true false false) := by
  refine returnsInHanded_of_change_sized (C := Try.checked) own started (by kernel_rfl) Try.func11
    (ChangeSpec.witness6 (enc := enc) (C := Try.checked) false ⟨#[], #[.slice none 0 0, .slice none 0 0], []⟩ 8 (by kernel_rfl) (by kernel_rfl) (by kernel_rfl) (by kernel_rfl)) ?_
  intro W base args ds gs before hval0 hW hcnd hsz0 _
  have hsz : (DataW.weightsEach Try.prog (Try.f11.params.toList ++ Rows.bagTakeSpec.plain.varTypes Try.prog) (ds ++ gs)).all (· ≤ reachBytes) = true := hsz0
  have hval : ∀ (j : Nat) t v, Try.f11.params[j]? = some t → args[j]? = some v → Value.okWide Try.prog W .any base t v := hval0
  have hW' := hW
  obtain ⟨p, q, hA0, hV, rfl, hfz, hnd⟩ := hW
  have hA : DataW.TrodAll enc Try.prog W 0 (fun _ => true) true Try.f11.params.toList args.toList ds p := hA0
  rw [Try.params11] at hA hval hsz
  obtain ⟨v0, vs0, d0, ds0, p0, q0, hargs, rfl, rfl, h0, r0⟩ := trodAll_cons hA
  obtain ⟨v1, vs1, d1, ds1, p1, q1, rfl, rfl, rfl, h1, r1⟩ := trodAll_cons r0
  obtain ⟨rfl, rfl, rfl⟩ := trodAll_nil r1
  obtain rfl : args = #[v0, v1] := by cases args; simp_all
  obtain ⟨rfl, rfl⟩ := trodVars_none hV
  obtain ⟨a0, len0, cap0, rfl⟩ := okWide_slice Try.underlying22 (hval 0 22 v0 rfl rfl)
  have k0 := h0
  have lt0 : ∀ x ∈ p0, x.block < W.heap.size := by obtain ⟨m, hm⟩ := k0; exact DataW.trod_lt m _ _ _ hm
  obtain ⟨l0, rfl, R0, wf0, sz0⟩ := open_rd hsz (j := 0) (t := 22) rfl rfl Try.underlying22 Try.underlying3 (by kernel_rfl) (by kernel_rfl) h0
  obtain ⟨a1, len1, cap1, rfl⟩ := okWide_slice Try.underlying22 (hval 1 22 v1 rfl rfl)
  have k1 := h1
  have lt1 : ∀ x ∈ p1, x.block < W.heap.size := by obtain ⟨m, hm⟩ := k1; exact DataW.trod_lt m _ _ _ hm
  obtain ⟨l1, rfl, R1, wf1, sz1⟩ := open_rd hsz (j := 1) (t := 22) rfl rfl Try.underlying22 Try.underlying3 (by kernel_rfl) (by kernel_rfl) h1
  clear hA0 hval0 hsz0 hsz
  refine (BagTake_walk W a0 cap0 l0 R0 (fun x hx => inI64_wf (wf0 x hx)) sz0 a1 cap1 l1 R1 (fun x hx => inI64_wf (wf1 x hx)) sz1).mono fun e W' ⟨he, bel⟩ => ?_
  subst he
  exact ⟨_, rfl, _, _, _, [], _, [], hW', trodAll_mk1 (shut_bool Try.underlying4 _), (trodAll_cons_mk (Below.trod laidOut (by kernel_rfl) (of_decide_eq_true (by kernel_rfl)) k0 bel.out lt0) (trodAll_cons_mk (Below.trod laidOut (by kernel_rfl) (of_decide_eq_true (by kernel_rfl)) k1 bel.out lt1) trodAll_mk0)), rfl, bel.out.frame _, fun h => by cases h⟩
theorem over : Rows.bagTakeRow.holds Try.pinned (OpenSpec.ofChange Rows.bagTakeSpec) :=
  OpenClaim.holds_of_wide 11 Try.f11 rfl rfl rfl rfl rfl rfl rfl ⟨rfl, rfl, rfl, rfl, rfl⟩ rfl rfl rfl rfl rfl (by kernel_rfl) Try.func11 (by kernel_rfl)
    (of_decide_eq_true (by kernel_rfl)) (by unfold Func.isWrapper; first | (rw [if_pos (by decide +kernel)]; kernel_rfl) | (rw [if_neg (by decide +kernel)]; exact ⟨rfl, rfl⟩))
    (fun os started H enc _ => lifted os started H enc)
end Go.Proofs.Ytpkofpnfnpicmaa.rowBagTake
namespace Go.Proofs.Ytpkofpnfnpicmaa
theorem BagTake_holds : Rows.BagTakeSaid := rowBagTake.over
#print axioms BagTake_holds
end Go.Proofs.Ytpkofpnfnpicmaa
