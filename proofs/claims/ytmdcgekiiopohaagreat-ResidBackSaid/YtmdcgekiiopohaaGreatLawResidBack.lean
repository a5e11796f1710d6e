/- ResidBack: a word is left just if with one more of the tag it is one of the set. -/
import Derived.Test.YtmdcgekiiopohaaGreatPureO
import Derived.Test.YtmdcgekiiopohaaGreatInclH
import Derived.Test.YtmdcgekiiopohaaGreatResid5
import Derived.Test.YtmdcgekiiopohaaGreatMB
set_option linter.unusedVariables false
set_option linter.unusedSimpArgs false
set_option linter.all false
namespace Go.Cb
theorem playBag_getD (l : List Int) (i : Nat) : (playBag l).getD i 0 ≤ 40 := by
  by_cases hi : i < (playBag l).length
  · rw [getD_of hi]
    have := (playBag_small l _ (List.getElem_mem hi)).2
    omega
  · rw [getD_out (by omega)]; decide
end Go.Cb
namespace Go.Proofs.YtmdcgekiiopohaaGreat
open Go.RowKit Go.Cb Go.Sort
theorem residByN_c (S : Nat → Prop) (A : Option Addr) (ca : Nat) (s left : SemS) (tag : Int) (w : World) (h : Rd linT w S A ca s) (n : Nat) (hn : n = s.length) (h6 : s.length ≤ 100) (hp : ∀ x ∈ s, x.2.length ≤ 100) (he : byS none s tag = (none, left, 0)) :
    Calls Tryz.prog 11 #[.pointer none, .slice A n ca, .int .i64 tag] w fun e w' => ∃ A c, e = .returned (.tuple #[.slice A left.length c, .int .i64 0]) ∧ Rd linT w' All A c left ∧ Bel w w' := by
  have Q := residBy_c (.pointer none) none none S A ca s tag w ⟨rfl, rfl⟩ h (fun _ _ => by simp) n hn h6 hp
  rw [he] at Q
  refine Q.mono ?_
  rintro e w' ⟨v, he, ⟨A, c, hv, r⟩, _, hg⟩
  subst hv
  exact ⟨A, c, he, r.all, (Bel.refl _).grown hg (fun k hk => by cases hk)⟩
set_option maxHeartbeats 64000000 in
set_option maxRecDepth 100000 in
theorem ResidBack_walk (w : World) (L : Option Addr) (cl : Nat) (l : List Int) (hl : Rd intT w All L cl l) (il : ∀ x ∈ l, inI64 x) (_ : l.length * 8 ≤ 140737488351232) (tag : Int) (_ : inI64 tag)
    (B : Option Addr) (cb : Nat) (ws : List Int) (hws : Rd intT w All B cb ws) (iw : ∀ x ∈ ws, inI64 x) (_ : ws.length * 8 ≤ 140737488351232) :
    Calls Tryz.prog 3 #[.slice L l.length cl, .int .i64 tag, .slice B ws.length cb] w fun e w' => e = .returned (.bool true) ∧ Bel w w' := by
  obtain ⟨l6, hl6⟩ : ∃ x, l.take 6 = x := ⟨_, rfl⟩
  have IL := Lib.hid (show ∀ x ∈ l6, inI64 x by rw [← hl6]; exact fun x hx => il x (List.mem_of_mem_take hx))
  have HC1 := Lib.hid (cutIntS_c _ L cl l 6 w hl _ rfl (Nat.le_trans (Nat.mul_le_mul_right _ (List.length_take_le 6 l)) (by decide)) 6 rfl)
  rw [hl6] at HC1
  have oP := playSem_P l6
  obtain ⟨o1, o6⟩ := playSem_ok l6
  obtain ⟨s, hs⟩ : ∃ s, playSem l6 = s := ⟨_, rfl⟩
  have Hs := Lib.hid hs
  rw [hs] at oP o1 o6
  have HSP := Lib.hid oP
  have HB120 := Lib.hid (show ∀ x ∈ s, ∀ i, x.1.getD i 0 ≤ 120 from fun x hx i => (o1.sm x hx).base i)
  have HS6 := Lib.hid o6
  obtain ⟨b, hb⟩ : ∃ b, playBag ws = b := ⟨_, rfl⟩
  have Hb := Lib.hid hb
  have BR := Lib.hid (show rightB b = true by rw [← hb]; exact playBag_right ws)
  have BL := Lib.hid (show b.length ≤ 4 by rw [← hb]; exact playBag_len ws)
  have BG := Lib.hid (show ∀ i, b.getD i 0 ≤ 1000000 from fun i => by rw [← hb]; exact Int.le_trans (playBag_getD ws i) (by decide))
  have tw := withinI_range (v := tag) (n := 4) (by decide)
  obtain ⟨tt, htt⟩ : ∃ tt, withinI tag 4 = tt := ⟨_, rfl⟩
  have HTW := Lib.hid (fun W => within_c tag 4 W (by decide))
  rw [htt] at HTW tw
  have T0 := Lib.hid tw
  have HPB := Lib.hid (fun W (h : Bel w W) => playBag_c _ B cb ws W (hws.to h) iw _ rfl)
  rw [hb] at HPB
  clear hl6 hs oP o1 hb htt tw hl hws
  go_enter Tryz.func3, Tryz.ntmps3
  go_wp2_with fail
  refine HC1.out.mono ?_
  rintro e w1 ⟨v, rfl, ho1, hb1⟩
  obtain ⟨A1, c1, rfl, r1⟩ := ho1.rdAll
  have Q := playSemi_c _ A1 c1 l6 w1 r1 IL.out _ rfl
  rw [Hs.out] at Q
  have HQ := Lib.hid Q
  have HB1 := Lib.hid hb1
  clear Q ho1 r1 hb1 HC1
  go_wp2_with fail
  refine HQ.out.mono ?_
  rintro e w2 ⟨v, rfl, r, hb2⟩
  obtain ⟨As, cs, rfl, hr⟩ := r.rd
  have HSX := Lib.hid (fun W (h : Bel w2 W) => (hr.all).to h)
  have HB2 := Lib.hid (HB1.out.trans hb2)
  clear HQ r hr hb2
  go_wp2
  go_loopw [24] (fun vI wr => ∃ (k : Nat) (W : World), W = wr ∧ k ≤ s.length ∧ vI = .int .i64 k ∧ Hid (∀ x ∈ s.take k, x.2.length ≤ 4) ∧ Bel w2 W) (fun vI _ => s.length - (intOf vI).toNat)
  case atStart => exact ⟨0, _, rfl, Nat.zero_le _, rfl, (fun x hx => by simp at hx : ∀ x ∈ s.take 0, x.2.length ≤ 4), Bel.refl _⟩
  case round =>
    obtain ⟨k, W, rfl, hk, rfl, H4, hbk⟩ := hrel
    by_cases hlt : k < s.length
    · obtain ⟨ad, A0, c0, A1, c1, rfl, x0, x1, r0, r1⟩ := (HSX.out W hbk).lrow hlt
      obtain ⟨⟨base, ps⟩, hse⟩ : ∃ y, s[k] = y := ⟨_, rfl⟩
      rw [hse] at x0 x1 r0 r1
      dsimp only at x0 x1 r0 r1
      have HNX := Lib.hid (show ps.length ≤ 4 → ∀ x ∈ s.take (k + 1), x.2.length ≤ 4 from fun h x hx => by
        rw [List.take_add_one, List.getElem?_eq_getElem hlt, hse] at hx
        rcases List.mem_append.1 hx with hx | hx
        · exact H4.out x hx
        · obtain rfl : x = (base, ps) := by simpa using hx
          exact h)
      have hal : Bel W (W.alloc (.cells #[.slice A0 base.length c0, .slice A1 ps.length c1] 30)) := (Bel.refl _).alloc _
      have X := Box.new W 30 (.slice A0 base.length c0) (.slice A1 ps.length c1)
      obtain ⟨z0, z1, _, _⟩ := X.cells
      have HBA := Lib.hid (hbk.trans hal)
      have hpl : ps.length ≤ 8 := by have := HSP.out.per _ (List.getElem_mem hlt); rw [hse] at this; exact this
      clear hse hal X hbk r0 r1
      by_cases h5 : 4 < ps.length
      · have d0 : decide (4 < (ps.length : Int)) = true := decide_eq_true (by omega)
        go_wp2_with fail
        refine (wakes11 _).mono ?_
        rintro e w9 ⟨rfl, hb9⟩
        go_wp2
        go_ret
        exact ⟨rfl, (HB2.out.trans HBA.out).trans hb9⟩
      · have d0 : decide (4 < (ps.length : Int)) = false := decide_eq_false (by omega)
        have HN := Lib.hid (HNX.out (by omega))
        clear h5
        go_wp2
        go_roundw
        case rel => exact ⟨k + 1, _, rfl, by omega, by go_num, HN, HBA.out⟩
        case measure => simp [intOf]; omega
    · obtain rfl : k = s.length := by omega
      have h4 : ∀ x ∈ s, x.2.length ≤ 4 := by have := H4.out; rwa [List.take_length] at this
      obtain ⟨left, e1, e2, e3⟩ := by_law HSP.out HS6.out h4 HB120.out (tag := tt) T0.out.1 (by have := T0.out.2; omega)
      obtain ⟨f1, f2, f3, f4⟩ := e3 b BR.out BL.out BG.out
      have E1 := Lib.hid e1
      have E2 := Lib.hid e2
      have F1 := Lib.hid f1
      have F2 := Lib.hid f2
      have F3 := Lib.hid f3
      have F4 := Lib.hid f4
      have HSZ := Lib.hid (HSX.out W hbk)
      have HBW := Lib.hid (HB2.out.trans hbk)
      clear e1 e2 e3 f1 f2 f3 f4 h4 H4 hbk hlt hk HSX
      go_wp2_with fail
      refine (HTW.out _).mono ?_
      rintro e wk ⟨rfl, rfl⟩
      go_wp2_with fail
      refine (HPB.out W HBW.out).mono ?_
      rintro e w3 ⟨v, rfl, ho3, hb3⟩
      obtain ⟨A3, c3, rfl, r3⟩ := ho3.rdAll
      have HR3 := Lib.hid r3
      have HB3 := Lib.hid hb3
      clear ho3 r3 hb3 HPB HTW
      go_wp2_with fail
      refine (bagOne_c tt 1 w3).mono ?_
      rintro e w4 ⟨v, rfl, ho4, hb4⟩
      obtain ⟨A4, c4, rfl, r4⟩ := ho4.rdAll
      have Q := bagAdd_c _ A3 A4 c3 c4 b (oneB tt 1) w4 (HR3.out.to hb4) r4 _ _ rfl rfl
      rw [F1.out] at Q
      have HQ := Lib.hid Q
      have HB4 := Lib.hid (HB3.out.trans hb4)
      have HR4 := Lib.hid (HR3.out.to hb4)
      obtain ⟨more, hmore⟩ : ∃ more, (addB b (oneB tt 1)).1 = more := ⟨_, rfl⟩
      rw [hmore] at HQ F2 F3 F4
      clear Q ho4 r4 hb4 hmore HR3
      generalize (oneB tt 1).length = n4 at *
      go_wp2_with fail
      refine HQ.out.mono ?_
      rintro e w5 ⟨v, rfl, ho5, hb5⟩
      obtain ⟨A5, c5, rfl, r5⟩ := ho5.rdAll
      have HR5 := Lib.hid r5
      have HB5 := Lib.hid (HB4.out.trans hb5)
      have HRB := Lib.hid (HR4.out.to hb5)
      clear HQ ho5 r5 hb5
      have Q := residByN_c _ As cs s left tt w5 (HSZ.out.to HB5.out) _ rfl (by have := HS6.out; omega) (fun x hx => Nat.le_trans (HSP.out.per x hx) (by decide)) E1.out
      have HQ := Lib.hid Q
      clear Q
      go_wp2_with fail
      refine HQ.out.mono ?_
      rintro e w6 ⟨A6, c6, rfl, hr6, hb6⟩
      have Q := inclHasN_c _ _ A6 A3 c6 c3 left b w6 hr6 (HRB.out.to hb6) _ _ rfl rfl E2.out BR.out BL.out
      rw [F4.out] at Q
      have HQ2 := Lib.hid Q
      have HB6 := Lib.hid (HB5.out.trans hb6)
      have HR6 := Lib.hid (HR5.out.to hb6)
      clear Q HQ hr6 hb6
      go_wp2_with fail
      refine HQ2.out.mono ?_
      rintro e w7 ⟨rfl, hb7⟩
      have Q := inclHasN_c _ _ As A5 cs c5 s more w7 (HSZ.out.to (HB6.out.trans hb7)) (HR6.out.to hb7) _ _ rfl rfl HSP.out F2.out F3.out
      have HQ3 := Lib.hid Q
      have HB7 := Lib.hid (HB6.out.trans hb7)
      generalize hasS s more = ans at *
      clear Q HQ2 hb7
      go_wp2_with fail
      refine HQ3.out.mono ?_
      rintro e w8 ⟨rfl, hb8⟩
      have heq : (ans == ans) = true := by simp
      go_wp2_with fail
      refine (wakes11 _).mono ?_
      rintro e w9 ⟨rfl, hb9⟩
      go_wp2
      go_ret
      exact ⟨rfl, ((HBW.out.trans HB7.out).trans hb8).trans hb9⟩
end Go.Proofs.YtmdcgekiiopohaaGreat
namespace Go.Proofs.YtmdcgekiiopohaaGreat.rowResidBack
open Go.ChangeShapes Go.WideShapes Go.ChangeAt Go.RowKit Go.Cb
open Go.ChangeMaps (open_string shut_string)
theorem own : ownKnob Tryz.prog.godebug = none := by kernel_rfl
theorem laidOut : laidOutB Tryz.prog = true := by kernel_rfl
set_option maxRecDepth 100000 in
theorem lifted (os : Os) (started : os.Started) (H : Type) (enc : TypeId × Value → H) :
    ReturnsInHanded {} Tryz.checked os 3 .any (Rows.residBackSpec.pre6 enc Tryz.prog Tryz.f3 Rows.residBackRow.domain false) (Rows.residBackSpec.post enc Tryz.prog Tryz.f3 false true false false) := by
  refine returnsInHanded_of_change_sized (C := Tryz.checked) own started (by kernel_rfl) Tryz.func3
    (ChangeSpec.witness6 (enc := enc) (C := Tryz.checked) false ⟨#[], #[.slice none 0 0, .int .i64 0, .slice none 0 0], []⟩ 8 (by kernel_rfl) (by kernel_rfl) (by kernel_rfl) (by kernel_rfl)) ?_
  intro W base args ds gs before hval0 hW hcnd hsz0 _
  have hsz : (DataW.weightsEach Tryz.prog (Tryz.f3.params.toList ++ Rows.residBackSpec.plain.varTypes Tryz.prog) (ds ++ gs)).all (· ≤ reachBytes) = true := hsz0
  have hval : ∀ (j : Nat) t v, Tryz.f3.params[j]? = some t → args[j]? = some v → Value.okWide Tryz.prog W .any base t v := hval0
  have hW' := hW
  obtain ⟨p, q, hA0, hV, rfl, hfz, hnd⟩ := hW
  have hA : DataW.TrodAll enc Tryz.prog W 0 (fun _ => true) true Tryz.f3.params.toList args.toList ds p := hA0
  rw [Tryz.params3] at hA hval hsz
  obtain ⟨v0, vs0, d0, ds0, p0, q0, hargs, rfl, rfl, h0, r0⟩ := trodAll_cons hA
  obtain ⟨v1, vs1, d1, ds1, p1, q1, rfl, rfl, rfl, h1, r1⟩ := trodAll_cons r0
  obtain ⟨v2, vs2, d2, ds2, p2, q2, rfl, rfl, rfl, h2, r2⟩ := trodAll_cons r1
  obtain ⟨rfl, rfl, rfl⟩ := trodAll_nil r2
  obtain rfl : args = #[v0, v1, v2] := by cases args; simp_all
  obtain ⟨rfl, rfl⟩ := trodVars_none hV
  obtain ⟨a0, len0, cap0, rfl⟩ := okWide_slice Tryz.underlying22 (hval 0 22 v0 rfl rfl)
  have k0 := h0
  have lt0 : ∀ x ∈ p0, x.block < W.heap.size := by obtain ⟨m, hm⟩ := k0; exact DataW.trod_lt m _ _ _ hm
  obtain ⟨l0, rfl, R0, wf0, sz0⟩ := open_rd hsz (j := 0) (t := 22) rfl rfl Tryz.underlying22 Tryz.underlying3 (by kernel_rfl) (by kernel_rfl) h0
  obtain ⟨a1, rfl, rfl, rfl, w1⟩ := open_int Tryz.underlying3 (hval 1 3 v1 rfl rfl) h1
  obtain ⟨a2, len2, cap2, rfl⟩ := okWide_slice Tryz.underlying22 (hval 2 22 v2 rfl rfl)
  have k2 := h2
  have lt2 : ∀ x ∈ p2, x.block < W.heap.size := by obtain ⟨m, hm⟩ := k2; exact DataW.trod_lt m _ _ _ hm
  obtain ⟨l2, rfl, R2, wf2, sz2⟩ := open_rd hsz (j := 2) (t := 22) rfl rfl Tryz.underlying22 Tryz.underlying3 (by kernel_rfl) (by kernel_rfl) h2
  clear hA0 hval0 hsz0 hsz
  refine (ResidBack_walk W a0 cap0 l0 R0 (fun x hx => inI64_wf (wf0 x hx)) sz0 a1 (inI64_wf w1) a2 cap2 l2 R2 (fun x hx => inI64_wf (wf2 x hx)) sz2).mono fun e W' ⟨he, bel⟩ => ?_
  subst he
  exact ⟨_, rfl, _, _, _, [], _, [], hW', trodAll_mk1 (shut_bool Tryz.underlying4 _), (trodAll_cons_mk (Below.trod laidOut (by kernel_rfl) (of_decide_eq_true (by kernel_rfl)) k0 bel.out lt0) (trodAll_cons_mk (shut_int Tryz.underlying3 w1) (trodAll_cons_mk (Below.trod laidOut (by kernel_rfl) (of_decide_eq_true (by kernel_rfl)) k2 bel.out lt2) trodAll_mk0))), rfl, bel.out.frame _, fun h => by cases h⟩
theorem over : Rows.residBackRow.holds Tryz.pinned (OpenSpec.ofChange Rows.residBackSpec) :=
  OpenClaim.holds_of_wide 3 Tryz.f3 rfl rfl rfl rfl rfl rfl rfl ⟨rfl, rfl, rfl, rfl, rfl⟩ rfl rfl rfl rfl rfl (by kernel_rfl) Tryz.func3 (by kernel_rfl)
    (of_decide_eq_true (by kernel_rfl)) (by unfold Func.isWrapper; first | (rw [if_pos (by decide +kernel)]; kernel_rfl) | (rw [if_neg (by decide +kernel)]; exact ⟨rfl, rfl⟩))
    (fun os started H enc _ => lifted os started H enc)
end Go.Proofs.YtmdcgekiiopohaaGreat.rowResidBack
namespace Go.Proofs.YtmdcgekiiopohaaGreat
theorem ResidBack_holds : Rows.ResidBackSaid := rowResidBack.over
#print axioms ResidBack_holds
end Go.Proofs.YtmdcgekiiopohaaGreat
