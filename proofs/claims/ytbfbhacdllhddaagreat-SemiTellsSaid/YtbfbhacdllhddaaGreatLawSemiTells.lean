/- SemiTells: any linear sets: are they right, as one set, of two the union. -/
import Derived.Test.YtbfbhacdllhddaaGreatPureL
import Derived.Test.YtbfbhacdllhddaaGreatOf7
import Derived.Test.YtbfbhacdllhddaaGreatMK
import Derived.Test.YtbfbhacdllhddaaGreatMB
set_option linter.unusedVariables false
set_option linter.unusedSimpArgs false
set_option linter.all false
namespace Go.Cb
theorem rawM_per (l : SemS) (k5 k6 k4 : Nat) : (rawM (l.take k5) k6 k4).length ≤ k5 ∧ ∀ x ∈ rawM (l.take k5) k6 k4, x.2.length ≤ k4 := by
  refine ⟨by unfold rawM; rw [List.length_map, List.length_take]; omega, fun x hx => ?_⟩
  unfold rawM at hx
  obtain ⟨y, _, rfl⟩ := List.mem_map.1 hx
  show ((y.2.take k4).map _).length ≤ _
  rw [List.length_map, List.length_take]; omega
theorem ofRaw_per (l : SemS) (n : List Int) (how m : Int) (k5 k6 k4 : Nat) (h5 : k5 ≤ 6) (h4 : k4 ≤ 8) : (ofRaw l n how m k5 k6 k4).length ≤ 6 ∧ ∀ x ∈ ofRaw l n how m k5 k6 k4, x.2.length ≤ 8 := by
  unfold ofRaw
  split
  · obtain ⟨a, b⟩ := rawM_per l k5 k6 k4
    exact ⟨by omega, fun x hx => Nat.le_trans (b x hx) h4⟩
  · obtain ⟨a, b⟩ := playSem_ok n
    exact ⟨b, a.per⟩
end Go.Cb
namespace Go.Proofs.YtbfbhacdllhddaaGreat
open Go.RowKit Go.Cb Go.Sort
abbrev raw7T : Ty Lin := linT
theorem opensRaws7 : Opens Tryz.prog (sl raw7T) (fun x => ∀ r ∈ x, (∀ n ∈ r.1, inI64 n) ∧ ∀ l ∈ r.2, ∀ n ∈ l, inI64 n) 42 :=
  opens_slice Tryz.underlying42 (by kernel_rfl) (opens_struct2 Tryz.underlying97 (by kernel_rfl) (by kernel_rfl) (by kernel_rfl) (by kernel_rfl) (by kernel_rfl) (opens_slice Tryz.underlying22 (by kernel_rfl) (opens_int Tryz.underlying3)) (opens_slice Tryz.underlying23 (by kernel_rfl) (opens_slice Tryz.underlying22 (by kernel_rfl) (opens_int Tryz.underlying3))))
set_option maxHeartbeats 32000000 in
set_option maxRecDepth 100000 in
theorem SemiTells_walk (w : World) (A : Option Addr) (ca : Nat) (a : SemS) (ha : Rd raw7T w All A ca a) (_ : ∀ r ∈ a, (∀ n ∈ r.1, inI64 n) ∧ ∀ l ∈ r.2, ∀ n ∈ l, inI64 n)
    (B : Option Addr) (cb : Nat) (b : SemS) (hb0 : Rd raw7T w All B cb b) (_ : ∀ r ∈ b, (∀ n ∈ r.1, inI64 n) ∧ ∀ l ∈ r.2, ∀ n ∈ l, inI64 n)
    (C : Option Addr) (cc : Nat) (l : List Int) (hl : Rd intT w All C cc l) (il : ∀ x ∈ l, inI64 x) (_ : l.length * 8 ≤ 140737488351232) (how : Int) (ihow : inI64 how) :
    Calls Tryz.prog 4 #[.slice A a.length ca, .slice B b.length cb, .slice C l.length cc, .int .i64 how] w fun e w' => e = .returned (.bool true) ∧ Bel w w' := by
  obtain ⟨hx6, px⟩ := ofRaw_per a l how 2 5 6 4 (by decide) (by decide)
  obtain ⟨hy6, py⟩ := ofRaw_per b [] 0 2 5 6 4 (by decide) (by decide)
  obtain ⟨x, hx⟩ : ∃ x, ofRaw a l how 2 5 6 4 = x := ⟨_, rfl⟩
  obtain ⟨y, hy⟩ : ∃ y, ofRaw b [] 0 2 5 6 4 = y := ⟨_, rfl⟩
  have Hx := Lib.hid hx
  have Hy := Lib.hid hy
  rw [hx] at hx6 px
  rw [hy] at hy6 py
  obtain ⟨s, ok, hs⟩ : ∃ s ok, ofS x = (s, ok) := ⟨_, _, rfl⟩
  obtain ⟨u, hu⟩ : ∃ u, unionS x y = u := ⟨_, rfl⟩
  obtain ⟨r, hr⟩ : ∃ r, rightS x = r := ⟨_, rfl⟩
  obtain ⟨q, hq⟩ : ∃ q, decide (x = y) = q := ⟨_, rfl⟩
  have EO := Lib.hid hs
  have EU := Lib.hid hu
  have ER := Lib.hid hr
  have ES := Lib.hid hq
  have Px := Lib.hid px
  have PXY := Lib.hid (show ∀ v ∈ x ++ y, v.2.length ≤ 4294967296 from fun v hv => by
    rcases List.mem_append.1 hv with h | h
    · exact Nat.le_trans (px v h) (by decide)
    · exact Nat.le_trans (py v h) (by decide))
  have HB := Bel.refl w
  clear hx hy hs hu hr hq px py
  go_enter Tryz.func4, Tryz.ntmps4
  have Q := oflaw07_c _ _ A C ca cc a l how w (ha.to HB) (hl.to HB) il ihow
  rw [Hx.out] at Q
  have HQ := Lib.hid Q
  clear Q
  go_wp2_with fail
  refine HQ.out.mono ?_
  rintro e w1 ⟨v, rfl, r, hb⟩
  obtain ⟨Ax, cx, rfl, hr⟩ := r.rd
  clear HQ
  replace HB := HB.trans hb
  have Kx := Lib.hid (fun W (h : Bel w1 W) => (hr.to h).all)
  clear hr
  clear hb
  have Q := oflaw07_c _ _ B none cb 0 b [] 0 w1 (hb0.to HB) (Rd.nil intT _ All _ _ (by decide)) (fun x hx => by simp at hx) (by decide)
  rw [Hy.out] at Q
  have HQ := Lib.hid Q
  clear Q
  go_wp2_with fail
  refine HQ.out.mono ?_
  rintro e w2 ⟨v, rfl, r, hb⟩
  obtain ⟨Ay, cy, rfl, hr⟩ := r.rd
  clear HQ
  replace Kx := Lib.hid (fun W h => Kx.out W (hb.trans h))
  replace HB := HB.trans hb
  have Ky := Lib.hid (fun W (h : Bel w2 W) => (hr.to h).all)
  clear hr
  clear hb
  have Q := ofP_c _ Ax cx x w2 (Kx.out _ (Bel.refl _)) _ rfl (by omega) (fun v hv => Nat.le_trans (Px.out v hv) (by decide))
  rw [EO.out] at Q
  have HQ := Lib.hid Q
  clear Q
  go_wp2_with fail
  refine HQ.out.mono ?_
  rintro e w3 ⟨v, rfl, r, hb⟩
  obtain ⟨As, cs, rfl, hr⟩ := PSem.rd (t := 30) r
  clear HQ
  replace Kx := Lib.hid (fun W h => Kx.out W (hb.trans h))
  replace Ky := Lib.hid (fun W h => Ky.out W (hb.trans h))
  replace HB := HB.trans hb
  have Ks := Lib.hid (fun W (h : Bel w3 W) => (hr.to h).all)
  clear hr
  clear hb
  have Q := ofD_c _ Ax cx x w3 (Kx.out _ (Bel.refl _)) _ rfl (by omega) (fun v hv => Nat.le_trans (Px.out v hv) (by decide))
  rw [EO.out] at Q
  have HQ := Lib.hid Q
  clear Q
  go_wp2_with fail
  refine HQ.out.mono ?_
  rintro e w4 ⟨v, rfl, r, hb⟩
  obtain ⟨At, ct, rfl, hr⟩ := r.rd
  clear HQ
  replace Kx := Lib.hid (fun W h => Kx.out W (hb.trans h))
  replace Ky := Lib.hid (fun W h => Ky.out W (hb.trans h))
  replace Ks := Lib.hid (fun W h => Ks.out W (hb.trans h))
  replace HB := HB.trans hb
  have Kt := Lib.hid (fun W (h : Bel w4 W) => (hr.to h).all)
  clear hr
  clear hb
  have Q := semRight_c _ Ax cx x w4 (Kx.out _ (Bel.refl _)) _ rfl
  rw [ER.out] at Q
  have HQ := Lib.hid Q
  clear Q
  go_wp2_with fail
  refine HQ.out.mono ?_
  rintro e w5 ⟨rfl, hb⟩
  clear HQ
  replace Kx := Lib.hid (fun W h => Kx.out W (hb.trans h))
  replace Ky := Lib.hid (fun W h => Ky.out W (hb.trans h))
  replace Ks := Lib.hid (fun W h => Ks.out W (hb.trans h))
  replace Kt := Lib.hid (fun W h => Kt.out W (hb.trans h))
  replace HB := HB.trans hb
  clear hb
  have Q := refRightSem_c _ Ax cx x w5 (Kx.out _ (Bel.refl _)) _ rfl
  rw [ER.out] at Q
  have HQ := Lib.hid Q
  clear Q
  go_wp2_with fail
  refine HQ.out.mono ?_
  rintro e w6 ⟨rfl, hb⟩
  clear HQ
  replace Kx := Lib.hid (fun W h => Kx.out W (hb.trans h))
  replace Ky := Lib.hid (fun W h => Ky.out W (hb.trans h))
  replace Ks := Lib.hid (fun W h => Ks.out W (hb.trans h))
  replace Kt := Lib.hid (fun W h => Kt.out W (hb.trans h))
  replace HB := HB.trans hb
  clear hb
  have Q := sameSem_c _ _ As At cs ct s s w6 (Ks.out _ (Bel.refl _)) (Kt.out _ (Bel.refl _)) _ _ rfl rfl
  rw [decide_eq_true (show s = s from rfl)] at Q
  have HQ := Lib.hid Q
  clear Q
  go_wp2_with fail
  refine HQ.out.mono ?_
  rintro e w7 ⟨rfl, hb⟩
  clear HQ
  replace Kx := Lib.hid (fun W h => Kx.out W (hb.trans h))
  replace Ky := Lib.hid (fun W h => Ky.out W (hb.trans h))
  replace Ks := Lib.hid (fun W h => Ks.out W (hb.trans h))
  replace Kt := Lib.hid (fun W h => Kt.out W (hb.trans h))
  replace HB := HB.trans hb
  clear hb
  have Q := union_c _ _ Ax Ay cx cy x y w7 (Kx.out _ (Bel.refl _)) (Ky.out _ (Bel.refl _)) _ _ rfl rfl (by omega) (fun v hv => PXY.out v hv)
  rw [EU.out] at Q
  have HQ := Lib.hid Q
  clear Q
  go_wp2_with fail
  refine HQ.out.mono ?_
  rintro e w8 ⟨v, rfl, r, hb⟩
  obtain ⟨Au, cu, rfl, hr⟩ := PSem.rd (t := 30) r
  clear HQ
  replace Kx := Lib.hid (fun W h => Kx.out W (hb.trans h))
  replace Ky := Lib.hid (fun W h => Ky.out W (hb.trans h))
  replace Ks := Lib.hid (fun W h => Ks.out W (hb.trans h))
  replace Kt := Lib.hid (fun W h => Kt.out W (hb.trans h))
  replace HB := HB.trans hb
  have Ku := Lib.hid (fun W (h : Bel w8 W) => (hr.to h).all)
  clear hr
  clear hb
  have Q := refUnion_c _ _ Ax Ay cx cy x y w8 (Kx.out _ (Bel.refl _)) (Ky.out _ (Bel.refl _)) _ _ rfl rfl (by omega) (fun v hv => PXY.out v hv)
  rw [EU.out] at Q
  have HQ := Lib.hid Q
  clear Q
  go_wp2_with fail
  refine HQ.out.mono ?_
  rintro e w9 ⟨Av, cv, rfl, hr, hb⟩
  clear HQ
  replace Kx := Lib.hid (fun W h => Kx.out W (hb.trans h))
  replace Ky := Lib.hid (fun W h => Ky.out W (hb.trans h))
  replace Ks := Lib.hid (fun W h => Ks.out W (hb.trans h))
  replace Kt := Lib.hid (fun W h => Kt.out W (hb.trans h))
  replace Ku := Lib.hid (fun W h => Ku.out W (hb.trans h))
  replace HB := HB.trans hb
  have Kv := Lib.hid (fun W (h : Bel w9 W) => (hr.to h).all)
  clear hr hb
  have Q := sameSem_c _ _ Au Av cu cv u u w9 (Ku.out _ (Bel.refl _)) (Kv.out _ (Bel.refl _)) _ _ rfl rfl
  rw [decide_eq_true (show u = u from rfl)] at Q
  have HQ := Lib.hid Q
  clear Q
  go_wp2_with fail
  refine HQ.out.mono ?_
  rintro e w10 ⟨rfl, hb⟩
  clear HQ
  replace Kx := Lib.hid (fun W h => Kx.out W (hb.trans h))
  replace Ky := Lib.hid (fun W h => Ky.out W (hb.trans h))
  replace Ks := Lib.hid (fun W h => Ks.out W (hb.trans h))
  replace Kt := Lib.hid (fun W h => Kt.out W (hb.trans h))
  replace Ku := Lib.hid (fun W h => Ku.out W (hb.trans h))
  replace Kv := Lib.hid (fun W h => Kv.out W (hb.trans h))
  replace HB := HB.trans hb
  clear hb
  have Q := semSame_c _ _ Ax Ay cx cy x y w10 (Kx.out _ (Bel.refl _)) (Ky.out _ (Bel.refl _)) _ _ rfl rfl
  rw [ES.out] at Q
  have HQ := Lib.hid Q
  clear Q
  go_wp2_with fail
  refine HQ.out.mono ?_
  rintro e w11 ⟨rfl, hb⟩
  clear HQ
  replace Kx := Lib.hid (fun W h => Kx.out W (hb.trans h))
  replace Ky := Lib.hid (fun W h => Ky.out W (hb.trans h))
  replace Ks := Lib.hid (fun W h => Ks.out W (hb.trans h))
  replace Kt := Lib.hid (fun W h => Kt.out W (hb.trans h))
  replace Ku := Lib.hid (fun W h => Ku.out W (hb.trans h))
  replace Kv := Lib.hid (fun W h => Kv.out W (hb.trans h))
  replace HB := HB.trans hb
  clear hb
  have Q := sameSem_c _ _ Ax Ay cx cy x y w11 (Kx.out _ (Bel.refl _)) (Ky.out _ (Bel.refl _)) _ _ rfl rfl
  rw [ES.out] at Q
  have HQ := Lib.hid Q
  clear Q
  go_wp2_with fail
  refine HQ.out.mono ?_
  rintro e w12 ⟨rfl, hb⟩
  clear HQ
  replace Kx := Lib.hid (fun W h => Kx.out W (hb.trans h))
  replace Ky := Lib.hid (fun W h => Ky.out W (hb.trans h))
  replace Ks := Lib.hid (fun W h => Ks.out W (hb.trans h))
  replace Kt := Lib.hid (fun W h => Kt.out W (hb.trans h))
  replace Ku := Lib.hid (fun W h => Ku.out W (hb.trans h))
  replace Kv := Lib.hid (fun W h => Kv.out W (hb.trans h))
  replace HB := HB.trans hb
  clear hb
  have Q := semSame_c _ _ Ax Ax cx cx x x w12 (Kx.out _ (Bel.refl _)) (Kx.out _ (Bel.refl _)) _ _ rfl rfl
  rw [decide_eq_true (show x = x from rfl)] at Q
  have HQ := Lib.hid Q
  clear Q
  go_wp2_with fail
  refine HQ.out.mono ?_
  rintro e w13 ⟨rfl, hb⟩
  clear HQ
  replace Kx := Lib.hid (fun W h => Kx.out W (hb.trans h))
  replace Ky := Lib.hid (fun W h => Ky.out W (hb.trans h))
  replace Ks := Lib.hid (fun W h => Ks.out W (hb.trans h))
  replace Kt := Lib.hid (fun W h => Kt.out W (hb.trans h))
  replace Ku := Lib.hid (fun W h => Ku.out W (hb.trans h))
  replace Kv := Lib.hid (fun W h => Kv.out W (hb.trans h))
  replace HB := HB.trans hb
  clear hb
  have Q := wakes07 w13
  have HQ := Lib.hid Q
  clear Q
  go_wp2_with fail
  refine HQ.out.mono ?_
  rintro e w14 ⟨rfl, hb⟩
  clear HQ
  replace Kx := Lib.hid (fun W h => Kx.out W (hb.trans h))
  replace Ky := Lib.hid (fun W h => Ky.out W (hb.trans h))
  replace Ks := Lib.hid (fun W h => Ks.out W (hb.trans h))
  replace Kt := Lib.hid (fun W h => Kt.out W (hb.trans h))
  replace Ku := Lib.hid (fun W h => Ku.out W (hb.trans h))
  replace Kv := Lib.hid (fun W h => Kv.out W (hb.trans h))
  replace HB := HB.trans hb
  clear hb
  go_wp2
  go_ret
  exact ⟨rfl, HB⟩
end Go.Proofs.YtbfbhacdllhddaaGreat
namespace Go.Proofs.YtbfbhacdllhddaaGreat.rowSemiTells
open Go.ChangeShapes Go.WideShapes Go.ChangeAt Go.RowKit Go.Cb
open Go.ChangeMaps (open_string shut_string)
theorem own : ownKnob Tryz.prog.godebug = none := by kernel_rfl
theorem laidOut : laidOutB Tryz.prog = true := by kernel_rfl
set_option maxRecDepth 100000 in
theorem lifted (os : Os) (started : os.Started) (H : Type) (enc : TypeId × Value → H) :
    ReturnsInHanded {} Tryz.checked os 4 .any (Rows.semiTellsSpec.pre6 enc Tryz.prog Tryz.f4 Rows.semiTellsRow.domain false) (Rows.semiTellsSpec.post enc Tryz.prog Tryz.f4 false true false false) := by
  refine returnsInHanded_of_change_sized (C := Tryz.checked) own started (by kernel_rfl) Tryz.func4
    (ChangeSpec.witness6 (enc := enc) (C := Tryz.checked) false ⟨#[], #[.slice none 0 0, .slice none 0 0, .slice none 0 0, .int .i64 0], []⟩ 8 (by kernel_rfl) (by kernel_rfl) (by kernel_rfl) (by kernel_rfl)) ?_
  intro W base args ds gs before hval0 hW hcnd hsz0 _
  have hsz : (DataW.weightsEach Tryz.prog (Tryz.f4.params.toList ++ Rows.semiTellsSpec.plain.varTypes Tryz.prog) (ds ++ gs)).all (· ≤ reachBytes) = true := hsz0
  have hval : ∀ (j : Nat) t v, Tryz.f4.params[j]? = some t → args[j]? = some v → Value.okWide Tryz.prog W .any base t v := hval0
  have hW' := hW
  obtain ⟨p, q, hA0, hV, rfl, hfz, hnd⟩ := hW
  have hA : DataW.TrodAll enc Tryz.prog W 0 (fun _ => true) true Tryz.f4.params.toList args.toList ds p := hA0
  rw [Tryz.params4] at hA hval hsz
  obtain ⟨v0, vs0, d0, ds0, p0, q0, hargs, rfl, rfl, h0, r0⟩ := trodAll_cons hA
  obtain ⟨v1, vs1, d1, ds1, p1, q1, rfl, rfl, rfl, h1, r1⟩ := trodAll_cons r0
  obtain ⟨v2, vs2, d2, ds2, p2, q2, rfl, rfl, rfl, h2, r2⟩ := trodAll_cons r1
  obtain ⟨v3, vs3, d3, ds3, p3, q3, rfl, rfl, rfl, h3, r3⟩ := trodAll_cons r2
  obtain ⟨rfl, rfl, rfl⟩ := trodAll_nil r3
  obtain rfl : args = #[v0, v1, v2, v3] := by cases args; simp_all
  obtain ⟨rfl, rfl⟩ := trodVars_none hV
  obtain ⟨a0, len0, cap0, rfl⟩ := okWide_slice Tryz.underlying42 (hval 0 42 v0 rfl rfl)
  have k0 := h0
  have lt0 : ∀ x ∈ p0, x.block < W.heap.size := by obtain ⟨m, hm⟩ := k0; exact DataW.trod_lt m _ _ _ hm
  obtain ⟨m0, hm0⟩ := h0
  obtain ⟨x0, R0, ok0⟩ := opensRaws7 _ _ _ _ _ _ _ _ _ hm0
  replace R0 : (sl raw7T).rd W All x0 [.slice a0 len0 cap0] := R0
  obtain ⟨A0, c0, eq0, q0⟩ := R0
  obtain ⟨rfl, rfl, rfl⟩ : a0 = A0 ∧ len0 = x0.length ∧ cap0 = c0 := by simpa using eq0
  obtain ⟨a1, len1, cap1, rfl⟩ := okWide_slice Tryz.underlying42 (hval 1 42 v1 rfl rfl)
  have k1 := h1
  have lt1 : ∀ x ∈ p1, x.block < W.heap.size := by obtain ⟨m, hm⟩ := k1; exact DataW.trod_lt m _ _ _ hm
  obtain ⟨m1, hm1⟩ := h1
  obtain ⟨x1, R1, ok1⟩ := opensRaws7 _ _ _ _ _ _ _ _ _ hm1
  replace R1 : (sl raw7T).rd W All x1 [.slice a1 len1 cap1] := R1
  obtain ⟨A1, c1, eq1, q1⟩ := R1
  obtain ⟨rfl, rfl, rfl⟩ : a1 = A1 ∧ len1 = x1.length ∧ cap1 = c1 := by simpa using eq1
  obtain ⟨a2, len2, cap2, rfl⟩ := okWide_slice Tryz.underlying22 (hval 2 22 v2 rfl rfl)
  have k2 := h2
  have lt2 : ∀ x ∈ p2, x.block < W.heap.size := by obtain ⟨m, hm⟩ := k2; exact DataW.trod_lt m _ _ _ hm
  obtain ⟨l2, rfl, R2, wf2, sz2⟩ := open_rd hsz (j := 2) (t := 22) rfl rfl Tryz.underlying22 Tryz.underlying3 (by kernel_rfl) (by kernel_rfl) h2
  obtain ⟨a3, rfl, rfl, rfl, w3⟩ := open_int Tryz.underlying3 (hval 3 3 v3 rfl rfl) h3
  clear hA0 hval0 hsz0 hsz
  refine (SemiTells_walk W a0 cap0 x0 q0 ok0 a1 cap1 x1 q1 ok1 a2 cap2 l2 R2 (fun x hx => inI64_wf (wf2 x hx)) sz2 a3 (inI64_wf w3)).mono fun e W' ⟨he, bel⟩ => ?_
  subst he
  exact ⟨_, rfl, _, _, _, [], _, [], hW', trodAll_mk1 (shut_bool Tryz.underlying4 _), (trodAll_cons_mk (Below.trod laidOut (by kernel_rfl) (of_decide_eq_true (by kernel_rfl)) k0 bel.out lt0) (trodAll_cons_mk (Below.trod laidOut (by kernel_rfl) (of_decide_eq_true (by kernel_rfl)) k1 bel.out lt1) (trodAll_cons_mk (Below.trod laidOut (by kernel_rfl) (of_decide_eq_true (by kernel_rfl)) k2 bel.out lt2) (trodAll_cons_mk (shut_int Tryz.underlying3 w3) trodAll_mk0)))), rfl, bel.out.frame _, fun h => by cases h⟩
theorem over : Rows.semiTellsRow.holds Tryz.pinned (OpenSpec.ofChange Rows.semiTellsSpec) :=
  OpenClaim.holds_of_wide 4 Tryz.f4 rfl rfl rfl rfl rfl rfl rfl ⟨rfl, rfl, rfl, rfl, rfl⟩ rfl rfl rfl rfl rfl (by kernel_rfl) Tryz.func4 (by kernel_rfl)
    (of_decide_eq_true (by kernel_rfl)) (by unfold Func.isWrapper; first | (rw [if_pos (by decide +kernel)]; kernel_rfl) | (rw [if_neg (by decide +kernel)]; exact ⟨rfl, rfl⟩))
    (fun os started H enc _ => lifted os started H enc)
end Go.Proofs.YtbfbhacdllhddaaGreat.rowSemiTells
namespace Go.Proofs.YtbfbhacdllhddaaGreat
theorem SemiTells_holds : Rows.SemiTellsSaid := rowSemiTells.over
#print axioms SemiTells_holds
end Go.Proofs.YtbfbhacdllhddaaGreat
