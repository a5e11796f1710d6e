/- AutoLetters: a word's letters, put together, are the word. -/
import Derived.Test.YtpkofpnfnpicmaaAuto2
import Derived.Test.YtpkofpnfnpicmaaRowLib
namespace Go.Proofs.Ytpkofpnfnpicmaa
open Go.RowKit Go.Cb
def backF (b : List Int) (D t : Nat) : List Int := (List.range 4).map fun i => b.getD i 0 % 2 ^ (if i < t then D + 1 else D)
theorem backF_len (b : List Int) (D t : Nat) : (backF b D t).length = 4 := by simp [backF]
theorem backF_get (b : List Int) (D t : Nat) {i : Nat} (hi : i < 4) : (backF b D t).getD i 0 = b.getD i 0 % 2 ^ (if i < t then D + 1 else D) := by
  rw [List.getD_eq_getElem?_getD, backF, List.getElem?_map, List.getElem?_range hi]; rfl
theorem backF_zero (b : List Int) : backF b 0 0 = List.replicate 4 0 :=
  list_ext (by simp [backF_len]) (fun i hi => by
    rw [backF_len] at hi
    have e : (List.replicate 4 (0 : Int)).getD i 0 = 0 := by rw [List.getD_eq_getElem?_getD, List.getElem?_replicate, if_pos hi]; rfl
    rw [e, backF_get b 0 0 hi, if_neg (by omega), Int.pow_zero, Int.emod_one])
theorem backF_next (b : List Int) (D : Nat) : backF b D 4 = backF b (D + 1) 0 :=
  list_ext (by simp [backF_len]) (fun i hi => by
    rw [backF_len] at hi
    rw [backF_get _ _ _ hi, backF_get _ _ _ hi, if_pos hi, if_neg (by omega)])
theorem backF_set (b : List Int) (D : Nat) {t : Nat} (ht : t < 4) : (backF b D t).set t (b.getD t 0 % 2 ^ (D + 1)) = backF b D (t + 1) :=
  list_ext (by simp [backF_len]) (fun i hi => by
    rw [List.length_set, backF_len] at hi
    rw [getD_set _ _ _ _ (by rw [backF_len]; exact ht), backF_get _ _ _ hi, backF_get _ _ _ hi]
    by_cases e : i = t
    · subst e
      rw [if_pos rfl, if_pos (by omega)]
    · rw [if_neg e]
      by_cases h : i < t
      · rw [if_pos h, if_pos (by omega)]
      · rw [if_neg h, if_neg (by omega)])
theorem backF_norm {b : List Int} (hr : rightB b = true) (hl : b.length ≤ 4) : normB (backF b 62 0) = b := by
  have hv : ∀ i, i < 4 → (backF b 62 0).getD i 0 = b.getD i 0 := by
    intro i hi
    have := right_getD hr i
    unfold far at this
    rw [backF_get _ _ _ hi, if_neg (by omega)]
    exact Int.emod_eq_of_lt this.1 (by omega)
  have hok : ∀ x ∈ backF b 62 0, 0 ≤ x ∧ x ≤ far := by
    intro x hx
    obtain ⟨i, hi, rfl⟩ := List.getElem_of_mem hx
    rw [backF_len] at hi
    have h1 := hv i hi
    rw [getD_of (by rw [backF_len]; exact hi)] at h1
    rw [h1]
    exact right_getD hr i
  rw [normB_eq (by rw [backF_len]; omega) hok]
  refine right_ext (cutB_right (by rw [backF_len]; omega) hok) hr (fun i => ?_)
  rw [cutB_getD]
  by_cases hi : i < 4
  · exact hv i hi
  · rw [getD_out (by rw [backF_len]; omega), getD_out (by omega)]
theorem back_bit {b : List Int} {D : Nat} (t : Nat) (hr : rightB b = true) (hD : D ≤ 62) : bits .and .u64 (lettI b D / 2 ^ t) 1 = bitI (b.getD t 0) D := by
  rw [and1_u64, lettI_in hr hD]
  by_cases ht : t < b.length
  · exact letS_bit b D _ ht
  · rw [letS_out b D (by omega), getD_out (by omega)]
    unfold bitI
    rw [Int.zero_ediv]
theorem back_step {b : List Int} {D : Nat} (t : Nat) (hr : rightB b = true) (hD : D ≤ 61) :
    IntKind.i64.wrap (b.getD t 0 % 2 ^ D + IntKind.i64.wrap (IntKind.i64.wrap (bits .and .u64 (lettI b D / 2 ^ t) 1) * 2 ^ D)) = b.getD t 0 % 2 ^ (D + 1) := by
  have hg := right_getD hr t
  unfold far at hg
  rw [back_bit t hr (by omega), ← mod_step hg.1 D]
  have hp : (2 : Nat) ^ D ≤ 2 ^ 61 := Nat.pow_le_pow_right (by omega) hD
  have hq : (0 : Nat) < 2 ^ D := Nat.pow_pos (by omega)
  have ep : ((2 ^ D : Nat) : Int) = (2 : Int) ^ D := by push_cast; rfl
  have hp' : (2 : Int) ^ D ≤ 2305843009213693952 := by rw [← ep]; omega
  have hq' : (0 : Int) < 2 ^ D := by rw [← ep]; omega
  have h1 := Int.emod_nonneg (b.getD t 0) (show (2 : Int) ^ D ≠ 0 by omega)
  have h2 := Int.emod_lt_of_pos (b.getD t 0) hq'
  rcases bitI_01 (b.getD t 0) D with e | e <;> rw [e]
  · rw [show IntKind.i64.wrap 0 = 0 from rfl, Int.zero_mul, show IntKind.i64.wrap 0 = 0 from rfl, IntKind.wrap_i64]; omega
  · rw [show IntKind.i64.wrap 1 = 1 from rfl, Int.one_mul, IntKind.wrap_i64, IntKind.wrap_i64]; omega
theorem w64 (n : Int) : wrap64 n = IntKind.i64.wrap n := by rw [IntKind.wrap_i64]; unfold wrap64; rfl
set_option maxHeartbeats 4000000 in
set_option maxRecDepth 100000 in
theorem AutoLetters_walk (w : World) (A : Option Addr) (ca : Nat) (a : List Int) (ha : Rd intT w All A ca a) (ia : ∀ x ∈ a, inI64 x) (hbig : a.length * 8 ≤ 140737488351232) (m : Int) (_ : inI64 m) :
    Calls Try.prog 9 #[.slice A a.length ca, .int .i64 m] w fun e w' => e = .returned (.bool true) ∧ Bel w w' := by
  obtain ⟨b, hb⟩ : ∃ b, playBag a = b := ⟨_, rfl⟩
  have rb := Lib.hid (hb ▸ playBag_right a)
  have lb : b.length ≤ 4 := hb ▸ playBag_len a
  have Hb := Lib.hid hb
  clear hb
  go_enter Try.func9, Try.ntmps9
  go_wp2_with fail
  refine (playBag_c _ _ _ _ _ ha ia _ rfl).mono ?_
  rw [Hb.out]
  rintro e w1 ⟨v1, rfl, ho1, hb1⟩
  obtain ⟨A1, c1, rfl, hr1⟩ := ho1.rd
  replace hr1 := hr1.all
  clear ho1
  go_wp2_with (at_make; refine wp_make (enc := Value.int .i64) (fun _ => rfl) (0 : Int) (w0 := w1) 23 3 8 rfl _ _ rfl Try.underlying23 info_int rfl 4 _ _ rfl rfl rfl rfl (Bel.refl _) (by omega) (by simp [maxLen]) ?_; intro w2 ho2 hb2 hb3 hsz)
  rw [← backF_zero b] at ho2
  clear hb3 hsz
  obtain ⟨g, hg⟩ : ∃ g, g = w1.heap.size := ⟨_, rfl⟩
  rw [← hg] at ho2 ⊢
  have hgl : w1.heap.size ≤ g := by omega
  clear hg
  go_loopw [7] (fun v7 wr => ∃ (D : Nat) (W : World), W = wr ∧ D ≤ 62 ∧ v7 = .int .i64 D ∧ Own (scalar (Value.int .i64) (fun _ => rfl)) 3 wr g All (.slice (some ⟨g, 0, none⟩) 4 4) (backF b D 0) ∧ Bel w1 wr) (fun v _ => 62 - (intOf v).toNat)
  case atStart => exact ⟨0, _, rfl, by omega, rfl, ho2, hb2⟩
  case round =>
    clear ho2 hb2
    obtain ⟨D, W, rfl, hD, rfl, ho2, hb2⟩ := hrel
    by_cases hlt : D < 62
    · obtain ⟨x, hx⟩ : ∃ x, lettI b D = x := ⟨_, rfl⟩
      have Hx := Lib.hid hx
      clear hx
      go_wp2_with fail
      refine (letter_c _ _ _ _ _ (hr1.to hb2) _ _ rfl).mono ?_
      rw [Hx.out]
      rintro e w3 ⟨rfl, rfl⟩
      go_wp2
      go_loopw [23] (fun v23 wr2 => ∃ (t : Nat) (W2 : World), W2 = wr2 ∧ t ≤ 4 ∧ v23 = .int .i64 t ∧ Own (scalar (Value.int .i64) (fun _ => rfl)) 3 wr2 g All (.slice (some ⟨g, 0, none⟩) 4 4) (backF b D t) ∧ Bel w1 wr2) (fun v _ => 4 - (intOf v).toNat)
      case atStart => exact ⟨0, _, rfl, by omega, rfl, ho2, hb2⟩
      case round =>
        clear ho2 hb2
        obtain ⟨t, W2, rfl, ht, rfl, ho2, hb2⟩ := hrel
        by_cases ht4 : t < 4
        · obtain ⟨hc1, hf1⟩ := ho2.cell (i := t) (by rw [backF_len]; exact ht4)
          have hs1 : (backF b D t)[t]'(by rw [backF_len]; exact ht4) = b.getD t 0 % 2 ^ D := by
            have := backF_get b D t ht4
            rw [getD_of (by rw [backF_len]; exact ht4), if_neg (by omega)] at this
            exact this
          have Hst := Lib.hid (back_step t rb.out (show D ≤ 61 by omega))
          have Hset := Lib.hid (backF_set b D ht4)
          rw [Hx.out] at Hst
          rw [hs1] at hc1
          clear hs1
          obtain ⟨y, hy⟩ : ∃ y, b.getD t 0 % 2 ^ D = y := ⟨_, rfl⟩
          obtain ⟨z, hz⟩ : ∃ z, b.getD t 0 % 2 ^ (D + 1) = z := ⟨_, rfl⟩
          rw [hy] at hc1 Hst
          rw [hz] at Hst Hset
          clear hy hz
          have ho3 := Own.set ho2 t z
          rw [Hset.out] at ho3
          go_wp2
          go_roundw
          case rel =>
            refine ⟨t + 1, _, rfl, by omega, by go_num, ?_, hb2.set hgl _⟩
            rw [w64, w64, w64, Hst.out]
            exact ho3
          case measure => simp [intOf]; omega
        · obtain rfl : t = 4 := by omega
          rw [backF_next] at ho2
          go_wp2
          go_roundw
          case rel => exact ⟨D + 1, _, rfl, by omega, by go_num, ho2, hb2⟩
          case measure => simp [intOf]; omega
    · obtain rfl : D = 62 := by omega
      obtain ⟨A2, c2, he, hr2⟩ := ho2.rd
      rw [backF_len] at he
      have h1 : A2 = some ⟨g, 0, none⟩ := by injection he with he; exact he.symm
      have h2 : c2 = 4 := by injection he with _ _ he; exact he.symm
      subst h1 h2
      clear he
      have Hn := Lib.hid (backF_norm rb.out lb)
      have hbb := hb1.trans hb2
      have L1 := Lib.hid (lettI_out (b := b) (D := -1) (.inr (.inl (by omega))))
      have L2 := Lib.hid (lettI_out (b := b) (D := 63) (.inr (.inr (by omega))))
      go_wp2_with fail
      refine (cutInt_c _ _ _ _ 14 _ (ha.to hbb) _ rfl (by omega) _ rfl).mono ?_
      rintro e w4 ⟨v4, rfl, ho4, hb4⟩
      obtain ⟨A4, c4, rfl, hr4⟩ := ho4.rd
      replace hr4 := hr4.all
      generalize a.take 14 = r at *
      clear ho4
      go_wp2_with fail
      refine (refNorm_c _ _ _ _ _ (hr2.to hb4) _ (by rw [backF_len]) (by rw [backF_len]; omega)).mono ?_
      rw [Hn.out]
      rintro e w5 ⟨v5, rfl, ho5, hb5⟩
      obtain ⟨A5, c5, rfl, hr5⟩ := ho5.rd
      have hr1' := ((hr1.to hb2).to hb4).to hb5
      replace hr4 := hr4.to hb5
      replace hbb := (hbb.trans hb4).trans hb5
      clear ho5 ho2 hr2 hr1 hb2 hb4 hb5 hb1
      go_wp2_with fail
      refine (sameInt_c _ _ _ _ _ _ _ _ _ hr5 hr1' _ _ rfl rfl).mono ?_
      rw [decide_eq_true (rfl : b = b)]
      rintro e w6 ⟨rfl, hb6⟩
      have hr1 := hr1'.to hb6
      replace hr4 := hr4.to hb6
      replace hbb := hbb.trans hb6
      clear hr1' hr5 hb6
      go_wp2_with fail
      refine (letter_c _ _ _ _ _ hr1 _ _ rfl).mono ?_
      rw [L1.out]
      rintro e w7 ⟨rfl, rfl⟩
      go_wp2_with fail
      refine (letter_c _ _ _ _ _ hr1 _ _ rfl).mono ?_
      rw [L2.out]
      rintro e w7 ⟨rfl, rfl⟩
      go_wp2_with fail
      refine (letter_c _ _ _ _ _ hr4 _ _ rfl).mono ?_
      rintro e w7 ⟨rfl, rfl⟩
      go_wp2_with fail
      refine (refLetter_c _ _ _ _ _ hr4 _ _ rfl).mono ?_
      rintro e w7 ⟨rfl, rfl⟩
      generalize lettI r m = q
      have hq : (q == q) = true := beq_self_eq_true q
      go_wp2_with fail
      refine (wakes09 _).mono ?_
      rintro e w8 ⟨rfl, hb8⟩
      go_wp2
      go_ret
      exact ⟨rfl, hbb.trans hb8⟩
end Go.Proofs.Ytpkofpnfnpicmaa
namespace Go.Proofs.Ytpkofpnfnpicmaa.rowAutoLetters
open Go.ChangeShapes Go.WideShapes Go.ChangeAt Go.RowKit Go.Cb
open Go.ChangeMaps (open_string shut_string)
theorem own : ownKnob Try.prog.godebug = none := by kernel_rfl
theorem laidOut : laidOutB Try.prog = true := by kernel_rfl
set_option maxRecDepth 100000 in
theorem lifted (os : Os) (started : os.Started) (H : Type) (enc : TypeId × Value → H) :
    ReturnsInHanded {} Try.checked os 9 .any (Rows.autoLettersSpec.pre6 enc Try.prog Try.f9 Rows.autoLettersRow.domain false) (Rows.autoLettersSpec.post enc Try.prog Try.f9 false true false false) := by
  refine returnsInHanded_of_change_sized (C := Try.checked) own started (by kernel_rfl) Try.func9
    (ChangeSpec.witness6 (enc := enc) (C := Try.checked) false ⟨#[], #[.slice none 0 0, .int .i64 0], []⟩ 8 (by kernel_rfl) (by kernel_rfl) (by kernel_rfl) (by kernel_rfl)) ?_
  intro W base args ds gs before hval0 hW hcnd hsz0 _
  have hsz : (DataW.weightsEach Try.prog (Try.f9.params.toList ++ Rows.autoLettersSpec.plain.varTypes Try.prog) (ds ++ gs)).all (· ≤ reachBytes) = true := hsz0
  have hval : ∀ (j : Nat) t v, Try.f9.params[j]? = some t → args[j]? = some v → Value.okWide Try.prog W .any base t v := hval0
  have hW' := hW
  obtain ⟨p, q, hA0, hV, rfl, hfz, hnd⟩ := hW
  have hA : DataW.TrodAll enc Try.prog W 0 (fun _ => true) true Try.f9.params.toList args.toList ds p := hA0
  rw [Try.params9] at hA hval hsz
  obtain ⟨v0, vs0, d0, ds0, p0, q0, hargs, rfl, rfl, h0, r0⟩ := trodAll_cons hA
  obtain ⟨v1, vs1, d1, ds1, p1, q1, rfl, rfl, rfl, h1, r1⟩ := trodAll_cons r0
  obtain ⟨rfl, rfl, rfl⟩ := trodAll_nil r1
  obtain rfl : args = #[v0, v1] := by cases args; simp_all
  obtain ⟨rfl, rfl⟩ := trodVars_none hV
  obtain ⟨a0, len0, cap0, rfl⟩ := okWide_slice Try.underlying22 (hval 0 22 v0 rfl rfl)
  have k0 := h0
  have lt0 : ∀ x ∈ p0, x.block < W.heap.size := by obtain ⟨m, hm⟩ := k0; exact DataW.trod_lt m _ _ _ hm
  obtain ⟨l0, rfl, R0, wf0, sz0⟩ := open_rd hsz (j := 0) (t := 22) rfl rfl Try.underlying22 Try.underlying3 (by kernel_rfl) (by kernel_rfl) h0
  obtain ⟨a1, rfl, rfl, rfl, w1⟩ := open_int Try.underlying3 (hval 1 3 v1 rfl rfl) h1
  clear hA0 hval0 hsz0 hsz
  refine (AutoLetters_walk W a0 cap0 l0 R0 (fun x hx => inI64_wf (wf0 x hx)) sz0 a1 (inI64_wf w1)).mono fun e W' ⟨he, bel⟩ => ?_
  subst he
  exact ⟨_, rfl, _, _, _, [], _, [], hW', trodAll_mk1 (shut_bool Try.underlying4 _), (trodAll_cons_mk (Below.trod laidOut (by kernel_rfl) (of_decide_eq_true (by kernel_rfl)) k0 bel.out lt0) (trodAll_cons_mk (shut_int Try.underlying3 w1) trodAll_mk0)), rfl, bel.out.frame _, fun h => by cases h⟩
theorem over : Rows.autoLettersRow.holds Try.pinned (OpenSpec.ofChange Rows.autoLettersSpec) :=
  OpenClaim.holds_of_wide 9 Try.f9 rfl rfl rfl rfl rfl rfl rfl ⟨rfl, rfl, rfl, rfl, rfl⟩ rfl rfl rfl rfl rfl (by kernel_rfl) Try.func9 (by kernel_rfl)
    (of_decide_eq_true (by kernel_rfl)) (by unfold Func.isWrapper; first | (rw [if_pos (by decide +kernel)]; kernel_rfl) | (rw [if_neg (by decide +kernel)]; exact ⟨rfl, rfl⟩))
    (fun os started H enc _ => lifted os started H enc)
end Go.Proofs.Ytpkofpnfnpicmaa.rowAutoLetters
namespace Go.Proofs.Ytpkofpnfnpicmaa
theorem AutoLetters_holds : Rows.AutoLettersSaid := rowAutoLetters.over
#print axioms AutoLetters_holds
end Go.Proofs.Ytpkofpnfnpicmaa
