/- AutoWalks: from the beginning on, letter by letter, whatever they are: the items stay right, and are those of the document. -/
import Derived.Test.YtbfbhacdllhddaaAutL
import Derived.Test.YtbfbhacdllhddaaMB
set_option linter.unusedVariables false
set_option linter.unusedSimpArgs false
set_option linter.all false
namespace Go.Proofs.Ytbfbhacdllhddaa
open Go.RowKit Go.Cb Go.Sort
set_option maxHeartbeats 64000000 in
set_option maxRecDepth 100000 in
theorem AutoWalks_walk (w : World) (L : Option Addr) (cl : Nat) (l : List Int) (hl : Rd intT w All L cl l) (il : ∀ x ∈ l, inI64 x) (_ : l.length * 8 ≤ 140737488351232)
    (C : Option Addr) (cc : Nat) (ls0 : List Int) (hls : Rd uintT w All C cc ls0) (_ : ∀ x ∈ ls0, inU64 x) (_ : ls0.length * 8 ≤ 140737488351232) :
    Calls Try.prog 3 #[.slice L l.length cl, .slice C ls0.length cc] w fun e w' => e = .returned (.bool true) ∧ Bel w w' := by
  have oP := playSem_P l
  obtain ⟨s, hs⟩ : ∃ s, playSem l = s := ⟨_, rfl⟩
  have Hs := Lib.hid hs
  rw [hs] at oP
  have hs6 := oP.six
  have HSP := Lib.hid oP
  have HBX := Lib.hid (startS_box oP)
  obtain ⟨x0, hx0⟩ : ∃ x, startS s = x := ⟨_, rfl⟩
  have HX0 := Lib.hid hx0
  rw [hx0] at HBX
  have HC := Lib.hid (fun W (h : Bel w W) => cutUints_c uintT rfl All C cc ls0 12 W (hls.to h) _ rfl (Nat.le_trans (Nat.mul_le_mul_right _ (List.length_take_le 12 ls0)) (by decide)) 12 rfl)
  have l12 := List.length_take_le 12 ls0
  clear hs oP hx0 hls
  generalize ls0.take 12 = ls at *
  go_enter Try.func3, Try.ntmps3
  go_wp2_with fail
  refine (playSemi_c _ L cl l w hl il _ rfl).mono ?_
  rw [Hs.out]
  rintro e w1 ⟨v, rfl, r, hb1⟩
  obtain ⟨As, cs, rfl, hr⟩ := r.rd
  have Q := autoStart_c _ As cs s w1 hr _ rfl (by omega)
  rw [HX0.out] at Q
  have HQ := Lib.hid Q
  clear Q
  go_wp2_with fail
  refine HQ.out.mono ?_
  rintro e w2 ⟨v, rfl, ⟨Ax, cx, rfl, hrx⟩, hb2⟩
  have Q := refStartI_c _ As cs s w2 (hr.to hb2) _ rfl (by omega)
  rw [HX0.out] at Q
  replace HQ := Lib.hid Q
  clear Q
  go_wp2_with fail
  refine HQ.out.mono ?_
  rintro e w3 ⟨v, rfl, ⟨Ay, cy, rfl, hry⟩, hb3⟩
  have HB3 := Lib.hid ((hb1.trans hb2).trans hb3)
  have HCQ := Lib.hid (HC.out w3 HB3.out)
  go_wp2_with fail
  refine HCQ.out.mono ?_
  rintro e w4 ⟨v, rfl, ho4, hb4⟩
  obtain ⟨A4, c4, rfl, hr4⟩ := ho4.rdAll
  have HL := Lib.hid hr4
  have HS := Lib.hid (((hr.to hb2).to hb3).to hb4).all
  have HB4 := Lib.hid (HB3.out.trans hb4)
  have HRX := Lib.hid (((hrx.to hb3).to hb4).all)
  have HRY := Lib.hid ((hry.to hb4).all)
  clear hr hrx hry hr4 ho4 hb1 hb2 hb3 hb4 HQ HCQ HC HB3
  go_wp2
  go_loopw [6, 7, 23] (fun v6 v7 v23 wr => ∃ (k : Nat) (W : World) (Ax cx Ay cy : _) (xs : List Itm), W = wr ∧ k ≤ ls.length ∧ v23 = .int .i64 k ∧ v6 = .slice Ax xs.length cx ∧ v7 = .slice Ay xs.length cy ∧ Hid (BoxI s xs) ∧ Rd itemT W All Ax cx xs ∧ Rd itemT W All Ay cy xs ∧ Bel w4 W) (fun _ _ v23 _ => ls.length - (intOf v23).toNat)
  case atStart => exact ⟨0, _, Ax, cx, Ay, cy, x0, rfl, Nat.zero_le _, rfl, rfl, rfl, HBX.out, HRX.out, HRY.out, Bel.refl _⟩
  case round =>
    clear HRX HRY
    obtain ⟨k, W, Ax, cx, Ay, cy, xs, rfl, hk, rfl, rfl, rfl, HBOX, hx, hy, hbW⟩ := hrel
    by_cases hlt : k < ls.length
    · obtain ⟨ad, cs9, rfl, h9, hc⟩ := (HL.out.to hbW).get (List.getElem?_eq_getElem hlt)
      obtain ⟨z, hz⟩ : ∃ z, ls[k] = z := ⟨_, rfl⟩
      rw [hz] at h9
      have h9' : cs9 = [.int .u64 z] := h9
      subst h9'
      have hc0 := hc 0 (.int .u64 z) rfl
      rw [show k * uintT.sz + 0 = k by show k * 1 + 0 = k; omega] at hc0
      have hlt15 := and15_range z
      obtain ⟨lt, hlte⟩ : ∃ lt, bits .and .u64 z 15 = lt := ⟨_, rfl⟩
      rw [hlte] at hlt15
      obtain ⟨xs', he, hbox', _⟩ := next_none HSP.out HBOX.out lt
      have HE := Lib.hid he
      have HBOX' := Lib.hid hbox'
      have HR := Lib.hid (hbox'.right HSP.out.right)
      have HXX := Lib.hid hx
      have HYY := Lib.hid hy
      have HLT := Lib.hid hlte
      clear hz h9 hc he hbox' hx hy hlte
      have Q1 := autoNextN_c _ _ As Ax cs cx s xs lt W (HS.out.to hbW) HXX.out _ _ rfl rfl HSP.out HBOX.out hlt15 xs' HE.out
      have HQ1 := Lib.hid Q1
      clear Q1
      go_wp2_with fail
      rw [HLT.out]
      refine HQ1.out.mono ?_
      rintro e w5 ⟨v, rfl, ⟨Aa, ca, rfl, hra⟩, hb5⟩
      have Q2 := refNextN_c _ _ As Ay cs cy s xs lt w5 (HS.out.to (hbW.trans hb5)) (HYY.out.to hb5) _ _ rfl rfl HSP.out HBOX.out hlt15 xs' HE.out
      have HQ2 := Lib.hid Q2
      clear Q2 HQ1
      go_wp2_with fail
      rw [HLT.out]
      refine HQ2.out.mono ?_
      rintro e w6 ⟨v, rfl, ⟨Ab, cb, rfl, hrb⟩, hb6⟩
      have hra6 := hra.to hb6
      have Q3 := refSameItems_c _ _ Aa Ab ca cb xs' xs' w6 hra6 hrb _ _ rfl rfl
      rw [decide_eq_true (show xs' = xs' from rfl)] at Q3
      have HQ3 := Lib.hid Q3
      clear Q3 HQ2
      go_wp2_with fail
      refine HQ3.out.mono ?_
      rintro e w7 ⟨rfl, hb7⟩
      have hb57 := (hbW.trans hb5).trans (hb6.trans hb7)
      have Q4 := autoRight_c _ _ As Aa cs ca s xs' w7 (HS.out.to hb57) (hra6.to hb7) _ _ rfl rfl
      rw [HR.out] at Q4
      have HQ4 := Lib.hid Q4
      clear Q4 HQ3
      go_wp2_with fail
      refine HQ4.out.mono ?_
      rintro e w8 ⟨rfl, hb8⟩
      have HXN := Lib.hid ((hra6.to (hb7.trans hb8)).all)
      have HYN := Lib.hid ((hrb.to (hb7.trans hb8)).all)
      have hb58 := hb57.trans hb8
      clear hra hra6 hrb hb5 hb6 hb7 hb8 HQ4
      go_wp2
      go_roundw
      case rel => exact ⟨k + 1, _, Aa, ca, Ab, cb, xs', rfl, by omega, by go_num, rfl, rfl, HBOX'.out, HXN.out, HYN.out, hb58⟩
      case measure => simp [intOf]; omega
    · obtain rfl : k = ls.length := by omega
      go_wp2_with fail
      refine (wakes09 _).mono ?_
      rintro e w5 ⟨rfl, hb5⟩
      go_wp2
      go_ret
      exact ⟨rfl, (HB4.out.trans hbW).trans hb5⟩
end Go.Proofs.Ytbfbhacdllhddaa
namespace Go.Proofs.Ytbfbhacdllhddaa.rowAutoWalks
open Go.ChangeShapes Go.WideShapes Go.ChangeAt Go.RowKit Go.Cb
open Go.ChangeMaps (open_string shut_string)
theorem own : ownKnob Try.prog.godebug = none := by kernel_rfl
theorem laidOut : laidOutB Try.prog = true := by kernel_rfl
set_option maxRecDepth 100000 in
theorem lifted (os : Os) (started : os.Started) (H : Type) (enc : TypeId × Value → H) :
    ReturnsInHanded {} Try.checked os 3 .any (Rows.autoWalksSpec.pre6 enc Try.prog Try.f3 Rows.autoWalksRow.domain false) (Rows.autoWalksSpec.post enc Try.prog Try.f3 false true false false) := by
  refine returnsInHanded_of_change_sized (C := Try.checked) own started (by kernel_rfl) Try.func3
    (ChangeSpec.witness6 (enc := enc) (C := Try.checked) false ⟨#[], #[.slice none 0 0, .slice none 0 0], []⟩ 8 (by kernel_rfl) (by kernel_rfl) (by kernel_rfl) (by kernel_rfl)) ?_
  intro W base args ds gs before hval0 hW hcnd hsz0 _
  have hsz : (DataW.weightsEach Try.prog (Try.f3.params.toList ++ Rows.autoWalksSpec.plain.varTypes Try.prog) (ds ++ gs)).all (· ≤ reachBytes) = true := hsz0
  have hval : ∀ (j : Nat) t v, Try.f3.params[j]? = some t → args[j]? = some v → Value.okWide Try.prog W .any base t v := hval0
  have hW' := hW
  obtain ⟨p, q, hA0, hV, rfl, hfz, hnd⟩ := hW
  have hA : DataW.TrodAll enc Try.prog W 0 (fun _ => true) true Try.f3.params.toList args.toList ds p := hA0
  rw [Try.params3] at hA hval hsz
  obtain ⟨v0, vs0, d0, ds0, p0, q0, hargs, rfl, rfl, h0, r0⟩ := trodAll_cons hA
  obtain ⟨v1, vs1, d1, ds1, p1, q1, rfl, rfl, rfl, h1, r1⟩ := trodAll_cons r0
  obtain ⟨rfl, rfl, rfl⟩ := trodAll_nil r1
  obtain rfl : args = #[v0, v1] := by cases args; simp_all
  obtain ⟨rfl, rfl⟩ := trodVars_none hV
  obtain ⟨a0, len0, cap0, rfl⟩ := okWide_slice Try.underlying22 (hval 0 22 v0 rfl rfl)
  have k0 := h0
  have lt0 : ∀ x ∈ p0, x.block < W.heap.size := by obtain ⟨m, hm⟩ := k0; exact DataW.trod_lt m _ _ _ hm
  obtain ⟨l0, rfl, R0, wf0, sz0⟩ := open_rd hsz (j := 0) (t := 22) rfl rfl Try.underlying22 Try.underlying3 (by kernel_rfl) (by kernel_rfl) h0
  obtain ⟨a1, len1, cap1, rfl⟩ := okWide_slice Try.underlying23 (hval 1 23 v1 rfl rfl)
  have k1 := h1
  have lt1 : ∀ x ∈ p1, x.block < W.heap.size := by obtain ⟨m, hm⟩ := k1; exact DataW.trod_lt m _ _ _ hm
  obtain ⟨l1, rfl, R1, wf1, sz1⟩ := open_rd hsz (j := 1) (t := 23) rfl rfl Try.underlying23 Try.underlying30 (by kernel_rfl) (by kernel_rfl) h1
  clear hA0 hval0 hsz0 hsz
  refine (AutoWalks_walk W a0 cap0 l0 R0 (fun x hx => inI64_wf (wf0 x hx)) sz0 a1 cap1 l1 R1 (fun x hx => inU64_wf (wf1 x hx)) sz1).mono fun e W' ⟨he, bel⟩ => ?_
  subst he
  exact ⟨_, rfl, _, _, _, [], _, [], hW', trodAll_mk1 (shut_bool Try.underlying4 _), (trodAll_cons_mk (Below.trod laidOut (by kernel_rfl) (of_decide_eq_true (by kernel_rfl)) k0 bel.out lt0) (trodAll_cons_mk (Below.trod laidOut (by kernel_rfl) (of_decide_eq_true (by kernel_rfl)) k1 bel.out lt1) trodAll_mk0)), rfl, bel.out.frame _, fun h => by cases h⟩
theorem over : Rows.autoWalksRow.holds Try.pinned (OpenSpec.ofChange Rows.autoWalksSpec) :=
  OpenClaim.holds_of_wide 3 Try.f3 rfl rfl rfl rfl rfl rfl rfl ⟨rfl, rfl, rfl, rfl, rfl⟩ rfl rfl rfl rfl rfl (by kernel_rfl) Try.func3 (by kernel_rfl)
    (of_decide_eq_true (by kernel_rfl)) (by unfold Func.isWrapper; first | (rw [if_pos (by decide +kernel)]; kernel_rfl) | (rw [if_neg (by decide +kernel)]; exact ⟨rfl, rfl⟩))
    (fun os started H enc _ => lifted os started H enc)
end Go.Proofs.Ytbfbhacdllhddaa.rowAutoWalks
namespace Go.Proofs.Ytbfbhacdllhddaa
theorem AutoWalks_holds : Rows.AutoWalksSaid := rowAutoWalks.over
#print axioms AutoWalks_holds
end Go.Proofs.Ytbfbhacdllhddaa
