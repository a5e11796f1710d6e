/- NormSame : a pattern's words do not hang on its tags' names, nor on brackets that change nothing. -/
import Derived.Test.YtfkopkjioohgoaaSameW
import Derived.Test.YtfkopkjioohgoaaOwnN
import Derived.Test.YtfkopkjioohgoaaPureG
import Derived.Test.YtfkopkjioohgoaaWak8
import Derived.Test.YtfkopkjioohgoaaMB
set_option linter.unusedVariables false
set_option linter.unusedSimpArgs false
set_option linter.all false
namespace Go.Cb
open Go.RowKit
/-- Two nodes, laid. -/
theorem pat_lit2 (w : World) (x y : PN) (t : TypeId) : Rd patT (w.alloc (.cells #[.int .i64 x.k, .int .i64 x.a, .int .i64 x.b, .int .i64 x.n, .string x.s, .int .i64 y.k, .int .i64 y.a, .int .i64 y.b, .int .i64 y.n, .string y.s] t)) All (some ⟨w.heap.size, 0, none⟩) 2 [x, y] := by
  have hc := heap_alloc_new w (.cells #[.int .i64 x.k, .int .i64 x.a, .int .i64 x.b, .int .i64 x.n, .string x.s, .int .i64 y.k, .int .i64 y.a, .int .i64 y.b, .int .i64 y.n, .string y.s] t)
  refine ⟨by simp, by decide, fun j z hj => ?_⟩
  rcases j with _ | _ | j
  · obtain rfl : x = z := by simpa using hj
    refine ⟨_, [.int .i64 x.k, .int .i64 x.a, .int .i64 x.b, .int .i64 x.n, .string x.s], rfl, trivial, rfl, fun i u hu => ?_⟩
    rw [add_plain, cellAt hc, show 0 * patT.sz + i = i by omega]
    rcases i with _ | _ | _ | _ | _ | i
    · exact hu
    · exact hu
    · exact hu
    · exact hu
    · exact hu
    · simp at hu
  · obtain rfl : y = z := by simpa using hj
    refine ⟨_, [.int .i64 y.k, .int .i64 y.a, .int .i64 y.b, .int .i64 y.n, .string y.s], rfl, trivial, rfl, fun i u hu => ?_⟩
    rw [add_plain, cellAt hc, show (0 + 1) * patT.sz + i = 5 + i by show 1 * 5 + i = 5 + i; omega]
    rcases i with _ | _ | _ | _ | _ | i
    · exact hu
    · exact hu
    · exact hu
    · exact hu
    · exact hu
    · simp at hu
  · simp at hj
end Go.Cb
namespace Go.Proofs.Ytfkopkjioohgoaa
open Go.RowKit Go.Cb Go.Sort
theorem normZ_c (W W1 : World) (A : Option Addr) (c n : Nat) (p : List PN) (tags : Int) (s : SemS) (ec : Int) (hW : Bel W W1) (h : Rd patT W1 All A c p) (hn : n = p.length) (hs : normS none p tags = (none, s, ec)) :
    Calls Try.prog 9 #[.pointer none, .slice A n c, .int .i64 tags] W1 fun e w' => ∃ A c, e = .returned (.tuple #[.slice A s.length c, .int .i64 ec]) ∧ Rd linT w' All A c s ∧ Bel W w' := by
  have Q := normOf_c (.pointer none) none none _ A c p tags W1 ⟨rfl, rfl⟩ h (fun _ _ => by simp) n hn (fun hc => norm_fit_any hc none)
  rw [hs] at Q
  refine Q.mono ?_
  rintro e w' ⟨v, he, ⟨A, c, hv, r⟩, _, hg⟩
  subst hv
  exact ⟨A, c, he, r.all, hW.trans ((Bel.refl _).grown hg (fun k hk => by cases hk))⟩
set_option maxHeartbeats 64000000 in
set_option maxRecDepth 100000 in
theorem NormSame_walk (w : World) (C : Option Addr) (cc : Nat) (l : List Int) (hl : Rd intT w All C cc l) (il : ∀ x ∈ l, inI64 x) (_ : l.length * 8 ≤ 140737488351232) (nm : ByteArray) :
    Calls Try.prog 4 #[.slice C l.length cc, .string nm] w fun e w' => e = .returned (.bool true) ∧ Bel w w' := by
  obtain ⟨_, c1, c2⟩ := playPat_law l
  obtain ⟨s, n1, n2, n3, n4⟩ := same_law l
  obtain ⟨p, hp⟩ : ∃ p, playPat l = p := ⟨_, rfl⟩
  have Hp := Lib.hid hp
  rw [hp] at c1 c2 n1 n2 n3 n4
  have N1 := Lib.hid n1
  have N2 := Lib.hid n2
  have N3 := Lib.hid n3
  have N4 := Lib.hid n4
  clear hp n1 n2 n3 n4
  go_enter Try.func4, Try.ntmps4
  have Q := playPat_c _ C cc l w hl il _ rfl
  rw [Hp.out] at Q
  have HQ := Lib.hid Q
  clear Q
  go_wp2_with fail
  refine HQ.out.mono ?_
  rintro e w1 ⟨Ap, cp, rfl, hr, hb⟩
  clear HQ
  have HR := Lib.hid hr.all
  have HW := Lib.hid hb
  clear hr hb
  go_wp2_with fail
  refine (copyP_c _ Ap cp p w1 HR.out _ rfl c2).mono ?_
  rintro e w2 ⟨v, rfl, ho, hb2⟩
  obtain ⟨AQ, cQ, rfl⟩ := ho.form
  have HO := Lib.hid ho
  clear ho
  go_wp2
  go_loopw [20] (fun v20 wr => ∃ (k : Nat) (W : World), W = wr ∧ k ≤ p.length ∧ v20 = .int .i64 k ∧ Own patT 35 W w1.heap.size (Ge w1.heap.size) (.slice AQ p.length cQ) ((p.take k).map (named nm) ++ p.drop k) ∧ Bel w1 W) (fun v20 _ => p.length - (intOf v20).toNat)
  case atStart => exact ⟨0, _, rfl, Nat.zero_le _, rfl, HO.out, hb2⟩
  case round =>
    obtain ⟨k, W, rfl, hk, rfl, hO, hbW⟩ := hrel
    have hll : ((p.take k).map (named nm) ++ p.drop k).length = p.length := by simp; omega
    by_cases hlt : k < p.length
    · obtain ⟨g, rfl, hg0, _⟩ := hO.addr (by omega)
      obtain ⟨x, hx⟩ : ∃ x, p[k]? = some x := ⟨_, List.getElem?_eq_getElem hlt⟩
      have hx2 : ((p.take k).map (named nm) ++ p.drop k)[k]? = some x := by
        rw [List.getElem?_append_right (by simp; omega), List.getElem?_drop, ← hx]
        congr 1
        simp
        omega
      have hset : ((p.take k).map (named nm) ++ p.drop k).set k (named nm x) = (p.take (k + 1)).map (named nm) ++ p.drop (k + 1) := by
        have hxe : p[k] = x := (List.getElem?_eq_some_iff.1 hx).2
        rw [List.set_append_right _ _ (by rw [List.length_map, List.length_take]; omega), List.length_map, List.length_take, Nat.min_eq_left (by omega), Nat.sub_self, List.drop_eq_getElem_cons hlt, List.set_cons_zero, List.take_add_one, hx]
        simp
      have HN := Lib.hid (own_name hO hx2 nm)
      have hc4 : W.cell? ⟨g, k * 5 + 4, none⟩ = some (.string x.s) := by
        obtain ⟨A', c', e1, hr⟩ := hO.rd
        injection e1 with e1 _ _
        subst e1
        obtain ⟨ad, e2, _, _, _, _, h4⟩ := hr.prowW hx2
        injection e2 with e2
        subst e2
        rw [add_plain] at h4
        exact h4
      have hf4 : W.frozen? ⟨g, k * 5 + 4, none⟩ = false := by
        obtain ⟨inner, ho, _⟩ := hO
        rcases ho.2 with ⟨h', _⟩ | ⟨g', cap', cur, h', _, hh, _⟩
        · cases h'
        · injection h' with h' _ _
          injection h' with h'
          injection h' with h'
          subst h'
          exact frozenAt hh _
      have HST := Lib.hid hset
      clear hx hx2 hset hll hO
      go_wp2
      go_roundw
      case rel => exact ⟨k + 1, _, rfl, by omega, by go_num, by rw [← HST.out]; exact HN.out, hbW.set hg0 _⟩
      case measure => simp [intOf]; omega
    · obtain rfl : k = p.length := by omega
      rw [List.take_length, List.drop_length, List.append_nil] at hO
      obtain ⟨A', c', e9, rq⟩ := hO.rdAll
      injection e9 with z1 z2 z3
      clear z2
      subst z1 z3
      have HRQ := Lib.hid rq
      have HBW := Lib.hid hbW
      have HLQ := Lib.hid (show p.length = (p.map (named nm)).length by rw [List.length_map])
      have hwl : IntKind.i64.wrap ((p.length : Int) - 1) = (p.length : Int) - 1 := by rw [IntKind.wrap_i64]; omega
      clear hO rq hbW hlt hk hll
      go_wp2_with fail
      refine (normZ_c W W Ap cp _ p 4 _ _ (Bel.refl _) (HR.out.to HBW.out) rfl N1.out).mono ?_
      rintro e w3 ⟨A3, c3, rfl, hr3, hb3⟩
      have HR3 := Lib.hid hr3
      have HB3 := Lib.hid hb3
      clear hr3 hb3
      go_wp2_with fail
      refine (normZ_c w3 w3 AQ cQ p.length (p.map (named nm)) 4 _ _ (Bel.refl _) (HRQ.out.to HB3.out) HLQ.out (N2.out nm)).mono ?_
      rintro e w4 ⟨A4, c4, rfl, hr4, hb4⟩
      have HR4 := Lib.hid hr4
      have HB4 := Lib.hid hb4
      have HBP := Lib.hid (HBW.out.trans (HB3.out.trans hb4))
      clear hr4 hb4
      go_wp2_with fail
      refine (copyP_c _ Ap cp p w4 (HR.out.to HBP.out) _ rfl c2).mono ?_
      rintro e w5 ⟨v, rfl, ho5, hb5⟩
      obtain ⟨A5, c5, rfl⟩ := ho5.form
      have HO5 := Lib.hid ho5
      have HB5 := Lib.hid hb5
      clear ho5 hb5
      have hal : Bel w5 (w5.alloc (.cells #[.int .i64 1, .int .i64 0, .int .i64 0, .int .i64 0, .string ⟨#[]⟩, .int .i64 4, .int .i64 ((p.length : Int) - 1), .int .i64 (p.length : Int), .int .i64 0, .string ⟨#[]⟩] 35)) := (Bel.refl _).alloc _
      have HL2 := Lib.hid (pat_lit2 w5 ⟨1, 0, 0, 0, ⟨#[]⟩⟩ ⟨4, (p.length : Int) - 1, (p.length : Int), 0, ⟨#[]⟩⟩ 35)
      have HOA := Lib.hid (HO5.out.to hal)
      have HBA := Lib.hid (HB5.out.trans hal)
      clear hal
      go_wp2_with (at_builtin; go_loud (refine wp_append patT (w0 := w4) 23 35 (.agg #[.int .i64 0, .int .i64 0, .int .i64 0, .int .i64 0, .string ByteArray.empty]) 48 rfl _ _ rfl Try.underlying23 infoPN rfl (Ge w4.heap.size) All (.slice A5 p.length c5) p [⟨1, 0, 0, 0, ⟨#[]⟩⟩, ⟨4, (p.length : Int) - 1, (p.length : Int), 0, ⟨#[]⟩⟩] (some ⟨w5.heap.size, 0, none⟩) 2 2 rfl rfl rfl HOA.out HL2.out (fun _ _ h => h) HBA.out (by simp [maxLen]; omega) (by simp; omega) ?_); rintro v6 w6 ho6 hb6 _ _; obtain ⟨A6, c6, hv6⟩ := ho6.form; rw [List.length_append] at hv6; subst hv6; obtain ⟨A7, c7, e7, r7⟩ := ho6.rdAll; have HR6 := Lib.hid (And.intro e7 r7); clear e7 r7; have HB6 := Lib.hid hb6; clear ho6 hb6)
      obtain ⟨e7, r7⟩ := HR6.out
      injection e7 with z1 z2 z3
      clear z2
      subst z1 z3
      have HRX := Lib.hid r7
      have HW6 := Lib.hid (HBP.out.trans HB6.out)
      have H36 := Lib.hid (HB4.out.trans HB6.out)
      have hwr : IntKind.i64.wrap ((p.length : Int) + 2) = (p.length : Int) + 2 := by rw [IntKind.wrap_i64]; omega
      clear r7
      by_cases h24 : p.length + 2 ≤ 24
      · have d2 : decide (24 < (p.length : Int) + 2) = false := decide_eq_false (by omega)
        have HN := Lib.hid (N3.out h24)
        clear h24
        refine (normZ_c w6 w6 A6 c6 (p.length + 2) _ 4 _ _ (Bel.refl _) HRX.out (by simp) HN.out).mono ?_
        rintro e w7 ⟨A8, c8, rfl, hr8, hb8⟩
        have HR8 := Lib.hid hr8
        have HB7 := Lib.hid hb8
        have Q := sameSem_c _ _ A3 A4 c3 c4 s s w7 (HR3.out.to (H36.out.trans hb8)) (HR4.out.to (HB6.out.trans hb8)) _ _ rfl rfl
        rw [decide_eq_true (show s = s from rfl)] at Q
        have HQ := Lib.hid Q
        clear Q hr8 hb8
        go_wp2_with fail
        refine HQ.out.mono ?_
        rintro e w8 ⟨rfl, hb9⟩
        have Q := sameSem_c _ _ A3 A8 c3 c8 s s w8 (HR3.out.to (H36.out.trans (HB7.out.trans hb9))) (HR8.out.to hb9) _ _ rfl rfl
        rw [decide_eq_true (show s = s from rfl)] at Q
        have HQ2 := Lib.hid Q
        have HB8 := Lib.hid (HW.out.trans (HW6.out.trans (HB7.out.trans hb9)))
        clear Q hb9 HQ
        go_wp2_with fail
        refine HQ2.out.mono ?_
        rintro e w9 ⟨rfl, hb10⟩
        go_wp2_with fail
        refine (wakes08 _).mono ?_
        rintro e w10 ⟨rfl, hb11⟩
        go_wp2
        go_ret
        exact ⟨rfl, (HB8.out.trans hb10).trans hb11⟩
      · have d2 : decide (24 < (p.length : Int) + 2) = true := decide_eq_true (by omega)
        have HN := Lib.hid (N4.out (by omega))
        clear h24
        refine (normZ_c w6 w6 A6 c6 (p.length + 2) _ 4 _ _ (Bel.refl _) HRX.out (by simp) HN.out).mono ?_
        rintro e w7 ⟨A8, c8, rfl, _, hb8⟩
        have HB7 := Lib.hid hb8
        have Q := sameSem_c _ _ A3 A4 c3 c4 s s w7 (HR3.out.to (H36.out.trans hb8)) (HR4.out.to (HB6.out.trans hb8)) _ _ rfl rfl
        rw [decide_eq_true (show s = s from rfl)] at Q
        have HQ := Lib.hid Q
        clear Q hb8
        go_wp2_with fail
        refine HQ.out.mono ?_
        rintro e w8 ⟨rfl, hb9⟩
        go_wp2_with fail
        refine (wakes08 _).mono ?_
        rintro e w10 ⟨rfl, hb11⟩
        go_wp2
        go_ret
        exact ⟨rfl, ((HW.out.trans (HW6.out.trans HB7.out)).trans hb9).trans hb11⟩
end Go.Proofs.Ytfkopkjioohgoaa
namespace Go.Proofs.Ytfkopkjioohgoaa.rowNormSame
open Go.ChangeShapes Go.WideShapes Go.ChangeAt Go.RowKit Go.Cb
open Go.ChangeMaps (open_string shut_string)
theorem own : ownKnob Try.prog.godebug = none := by kernel_rfl
theorem laidOut : laidOutB Try.prog = true := by kernel_rfl
set_option maxRecDepth 100000 in
theorem lifted (os : Os) (started : os.Started) (H : Type) (enc : TypeId × Value → H) :
    ReturnsInHanded {} Try.checked os 4 .any (Rows.normSameSpec.pre6 enc Try.prog Try.f4 Rows.normSameRow.domain false) (Rows.normSameSpec.post enc Try.prog Try.f4 false true false false) := by
  refine returnsInHanded_of_change_sized (C := Try.checked) own started (by kernel_rfl) Try.func4
    (ChangeSpec.witness6 (enc := enc) (C := Try.checked) false ⟨#[], #[.slice none 0 0, .string ⟨#[]⟩], []⟩ 8 (by kernel_rfl) (by kernel_rfl) (by kernel_rfl) (by kernel_rfl)) ?_
  intro W base args ds gs before hval0 hW hcnd hsz0 _
  have hsz : (DataW.weightsEach Try.prog (Try.f4.params.toList ++ Rows.normSameSpec.plain.varTypes Try.prog) (ds ++ gs)).all (· ≤ reachBytes) = true := hsz0
  have hval : ∀ (j : Nat) t v, Try.f4.params[j]? = some t → args[j]? = some v → Value.okWide Try.prog W .any base t v := hval0
  have hW' := hW
  obtain ⟨p, q, hA0, hV, rfl, hfz, hnd⟩ := hW
  have hA : DataW.TrodAll enc Try.prog W 0 (fun _ => true) true Try.f4.params.toList args.toList ds p := hA0
  rw [Try.params4] at hA hval hsz
  obtain ⟨v0, vs0, d0, ds0, p0, q0, hargs, rfl, rfl, h0, r0⟩ := trodAll_cons hA
  obtain ⟨v1, vs1, d1, ds1, p1, q1, rfl, rfl, rfl, h1, r1⟩ := trodAll_cons r0
  obtain ⟨rfl, rfl, rfl⟩ := trodAll_nil r1
  obtain rfl : args = #[v0, v1] := by cases args; simp_all
  obtain ⟨rfl, rfl⟩ := trodVars_none hV
  obtain ⟨a0, len0, cap0, rfl⟩ := okWide_slice Try.underlying22 (hval 0 22 v0 rfl rfl)
  have k0 := h0
  have lt0 : ∀ x ∈ p0, x.block < W.heap.size := by obtain ⟨m, hm⟩ := k0; exact DataW.trod_lt m _ _ _ hm
  obtain ⟨l0, rfl, R0, wf0, sz0⟩ := open_rd hsz (j := 0) (t := 22) rfl rfl Try.underlying22 Try.underlying3 (by kernel_rfl) (by kernel_rfl) h0
  obtain ⟨a1, rfl, rfl, rfl, w1⟩ := open_string Try.underlying9 (hval 1 9 v1 rfl rfl) h1
  clear hA0 hval0 hsz0 hsz
  refine (NormSame_walk W a0 cap0 l0 R0 (fun x hx => inI64_wf (wf0 x hx)) sz0 a1).mono fun e W' ⟨he, bel⟩ => ?_
  subst he
  exact ⟨_, rfl, _, _, _, [], _, [], hW', trodAll_mk1 (shut_bool Try.underlying4 _), (trodAll_cons_mk (Below.trod laidOut (by kernel_rfl) (of_decide_eq_true (by kernel_rfl)) k0 bel.out lt0) (trodAll_cons_mk (shut_string Try.underlying9 w1) trodAll_mk0)), rfl, bel.out.frame _, fun h => by cases h⟩
theorem over : Rows.normSameRow.holds Try.pinned (OpenSpec.ofChange Rows.normSameSpec) :=
  OpenClaim.holds_of_wide 4 Try.f4 rfl rfl rfl rfl rfl rfl rfl ⟨rfl, rfl, rfl, rfl, rfl⟩ rfl rfl rfl rfl rfl (by kernel_rfl) Try.func4 (by kernel_rfl)
    (of_decide_eq_true (by kernel_rfl)) (by unfold Func.isWrapper; first | (rw [if_pos (by decide +kernel)]; kernel_rfl) | (rw [if_neg (by decide +kernel)]; exact ⟨rfl, rfl⟩))
    (fun os started H enc _ => lifted os started H enc)
end Go.Proofs.Ytfkopkjioohgoaa.rowNormSame
namespace Go.Proofs.Ytfkopkjioohgoaa
theorem NormSame_holds : Rows.NormSameSaid := rowNormSame.over
#print axioms NormSame_holds
end Go.Proofs.Ytfkopkjioohgoaa
