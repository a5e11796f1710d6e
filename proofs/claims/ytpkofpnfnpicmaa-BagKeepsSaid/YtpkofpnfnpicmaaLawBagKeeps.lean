/- BagKeeps: what is handed in stays as it was; what is answered is one's own. -/
import Derived.Test.YtpkofpnfnpicmaaBag9
import Derived.Test.YtpkofpnfnpicmaaRowLib
namespace Go.Proofs.Ytpkofpnfnpicmaa
open Go.RowKit Go.Cb
/-- Three rows of the call's own, apart from one another, from block B on. -/
structure Three (w : World) (e : TypeId) (B : Nat) (V : Nat → Value) (N : Nat → Nat) : Prop where
  own : ∀ j, j < 3 → ∃ xs : List Int, xs.length = N j ∧ Own intT e w B All (V j) xs
  apart : ∀ i j, i < 3 → j < 3 → i ≠ j → ∀ k, (V i).ownBlock = some k → (V j).ownBlock ≠ some k
theorem Three.to {w w' : World} {e : TypeId} {B : Nat} {V : Nat → Value} {N : Nat → Nat} (h : Three w e B V N) (hb : Bel w w') : Three w' e B V N :=
  ⟨fun j hj => by obtain ⟨xs, h1, h2⟩ := h.own j hj; exact ⟨xs, h1, h2.to hb⟩, h.apart⟩
theorem Three.upd {w w' : World} {e : TypeId} {B g k : Nat} {V : Nat → Value} {N : Nat → Nat} (h : Three w e B V N) (hk : k < 3) (hg : (V k).ownBlock = some g) (hu : Upd g w w')
    (hn : ∃ xs : List Int, xs.length = N k ∧ Own intT e w' B All (V k) xs) : Three w' e B V N :=
  ⟨fun j hj => by
    by_cases e0 : j = k
    · subst e0; exact hn
    · obtain ⟨xs, h1, h2⟩ := h.own j hj
      refine ⟨xs, h1, (Own.any (h2.step (S := fun _ => False) (w' := w') ?_ ?_))⟩
      · intro b hb
        exact hu.block b (fun e1 => h.apart k j hk hj (fun e2 => e0 e2.symm) g hg (by rw [hb, e1]))
      · intro b hb; exact hb.elim, h.apart⟩
theorem Three.make {w : World} {e : TypeId} {B B1 B2 B3 : Nat} {va vb vc : Value} {xa xb xc : List Int} {ba bb bc : Nat}
    (ha : Own intT e w ba (Ge ba) va xa) (hb : Own intT e w bb (Ge bb) vb xb) (hc : Own intT e w bc (Ge bc) vc xc) (h1 : B ≤ ba) (h2 : B1 ≤ bb) (h3 : B2 ≤ bc)
    (g1 : ∀ k, va.ownBlock = some k → k < B1) (g2 : ∀ k, vb.ownBlock = some k → k < B2) (hB1 : B ≤ B1) (hB2 : B1 ≤ B2) (_ : B3 = 0) :
    Three w e B (fun j => if j = 0 then va else if j = 1 then vb else vc) (fun j => if j = 0 then xa.length else if j = 1 then xb.length else xc.length) := by
  have q1 : ∀ k, vb.ownBlock = some k → B1 ≤ k := fun k hk => Nat.le_trans h2 (hb.ge hk)
  have q2 : ∀ k, vc.ownBlock = some k → B2 ≤ k := fun k hk => Nat.le_trans h3 (hc.ge hk)
  refine ⟨fun j hj => ?_, fun i j hi hj hne k h k2 => ?_⟩
  · obtain rfl | rfl | rfl : j = 0 ∨ j = 1 ∨ j = 2 := by omega
    · exact ⟨xa, rfl, (ha.lower h1).any⟩
    · exact ⟨xb, rfl, (hb.lower (by omega)).any⟩
    · exact ⟨xc, rfl, (hc.lower (by omega)).any⟩
  · obtain rfl | rfl | rfl : i = 0 ∨ i = 1 ∨ i = 2 := by omega
    · have t1 := g1 k h
      obtain rfl | rfl : j = 1 ∨ j = 2 := by omega
      · have := q1 k k2; omega
      · have := q2 k k2; omega
    · have t1 := g2 k h
      have t0 := q1 k h
      obtain rfl | rfl : j = 0 ∨ j = 2 := by omega
      · have := g1 k k2; omega
      · have := q2 k k2; omega
    · have t1 := q2 k h
      obtain rfl | rfl : j = 0 ∨ j = 1 := by omega
      · have := g1 k k2; omega
      · have := g2 k k2; omega
set_option maxHeartbeats 4000000 in
set_option maxRecDepth 100000 in
theorem BagKeeps_walk (w : World) (A : Option Addr) (ca : Nat) (a : List Int) (ha : Rd intT w All A ca a) (ia : ∀ x ∈ a, inI64 x) (_ : a.length * 8 ≤ 140737488351232)
    (B : Option Addr) (cb : Nat) (b : List Int) (hb : Rd intT w All B cb b) (ib : ∀ x ∈ b, inI64 x) (_ : b.length * 8 ≤ 140737488351232) :
    Calls Try.prog 12 #[.slice A a.length ca, .slice B b.length cb] w fun e w' => e = .returned (.bool true) ∧ Bel w w' := by
  obtain ⟨x, hx⟩ : ∃ x, playBag a = x := ⟨_, rfl⟩
  obtain ⟨y, hy⟩ : ∃ y, playBag b = y := ⟨_, rfl⟩
  have lx : x.length ≤ 12 := right_len (hx ▸ playBag_right a)
  have ly : y.length ≤ 12 := right_len (hy ▸ playBag_right b)
  have Hx := Lib.hid hx
  have Hy := Lib.hid hy
  clear hx hy
  go_enter Try.func12, Try.ntmps12
  go_wp2_with fail
  refine (playBag_c _ _ _ _ _ ha ia _ rfl).mono ?_
  rw [Hx.out]
  rintro e w1 ⟨v1, rfl, ho1, hb1⟩
  obtain ⟨A1, c1, rfl, hr1⟩ := ho1.rd
  go_wp2_with fail
  refine (playBag_c _ _ _ _ _ (hb.to hb1) ib _ rfl).mono ?_
  rw [Hy.out]
  rintro e w2 ⟨v2, rfl, ho2, hb2⟩
  obtain ⟨A2, c2, rfl, hr2⟩ := ho2.rd
  replace hr1 := (hr1.to hb2).all
  replace hr2 := hr2.all
  have hbb := hb1.trans hb2
  clear ho1 ho2 hb1 hb2
  go_wp2_with fail
  refine (copyInt_c _ _ _ _ _ hr1 _ rfl (by omega)).mono ?_
  rintro e w3 ⟨v3, rfl, ho3, hb3⟩
  obtain ⟨A3, c3, rfl, hr3⟩ := ho3.rd
  go_wp2_with fail
  refine (copyInt_c _ _ _ _ _ (hr2.to hb3) _ rfl (by omega)).mono ?_
  rintro e w4 ⟨v4, rfl, ho4, hb4⟩
  obtain ⟨A4, c4, rfl, hr4⟩ := ho4.rd
  replace hr1 := ((hr1.to hb3).to hb4).all
  replace hr2 := ((hr2.to hb3).to hb4).all
  replace hr3 := (hr3.to hb4).all
  replace hr4 := hr4.all
  replace hbb := (hbb.trans hb3).trans hb4
  clear ho3 ho4 hb3 hb4 ha hb
  go_wp2_with fail
  refine (bagAdd_c _ _ _ _ _ _ _ _ hr1 hr2 _ _ rfl rfl).mono ?_
  generalize addB x y = z1
  rintro e w5 ⟨v5, rfl, ho5, hb5⟩
  obtain ⟨A5, c5, rfl, hr5⟩ := ho5.rd
  go_wp2_with fail
  refine (bagSub_c _ _ _ _ _ _ _ _ _ (hr1.to hb5) (hr2.to hb5) _ _ rfl rfl).mono ?_
  generalize subB x y = z2
  rintro e w6 ⟨v6, rfl, ho6, hb6⟩
  obtain ⟨A6, c6, rfl, hr6⟩ := ho6.rd
  have lt5 : ∀ k, (Value.slice A5 z1.1.length c5).ownBlock = some k → k < w5.heap.size := fun k hk => ho5.lt hk
  have lt6 : ∀ k, (Value.slice A6 z2.1.length c6).ownBlock = some k → k < w6.heap.size := fun k hk => ho6.lt hk
  go_wp2_with fail
  refine (norm_c _ _ _ _ _ ((hr1.to hb5).to hb6) _ rfl (by omega)).mono ?_
  generalize normB x = z3
  rintro e w7 ⟨v7, rfl, ho7, hb7⟩
  obtain ⟨A7, c7, rfl, hr7⟩ := ho7.rd
  have T := Three.make (B3 := 0) ((ho5.to hb6).to hb7) (ho6.to hb7) ho7 (Nat.le_refl _) (Nat.le_refl _) (Nat.le_refl _) lt5 lt6 hb5.size hb6.size rfl
  obtain ⟨V, hV⟩ : ∃ V : Nat → Value, V = (fun j => if j = 0 then Value.slice A5 z1.1.length c5 else if j = 1 then Value.slice A6 z2.1.length c6 else Value.slice A7 z3.length c7) := ⟨_, rfl⟩
  obtain ⟨N, hN⟩ : ∃ N : Nat → Nat, N = (fun j => if j = 0 then z1.1.length else if j = 1 then z2.1.length else z3.length) := ⟨_, rfl⟩
  rw [← hV, ← hN] at T
  have lt7 : ∀ j, j < 3 → ∀ k, (V j).ownBlock = some k → k < w7.heap.size := fun j hj k hk => by
    obtain ⟨xs, _, ho⟩ := T.own j hj
    exact ho.lt hk
  replace hb5 := (hb5.trans hb6).trans hb7
  clear ho5 ho6 ho7 hr5 hr6 hr7 hb6 hb7 lt5 lt6
  have hb8 : Bel w4 (w7.alloc (.cells #[.slice A5 z1.1.length c5, .slice A6 z2.1.length c6, .slice A7 z3.length c7] 23)) := hb5.alloc _
  have hL : ∀ j, j < 3 → (w7.alloc (.cells #[.slice A5 z1.1.length c5, .slice A6 z2.1.length c6, .slice A7 z3.length c7] 23)).cell? ⟨w7.heap.size, j, none⟩ = some (V j) := fun j hj => by
    rw [cellAt (heap_alloc_new w7 _) j, hV]
    obtain rfl | rfl | rfl : j = 0 ∨ j = 1 ∨ j = 2 := by omega
    · rfl
    · rfl
    · rfl
  have hLs : w7.heap.size < (w7.alloc (.cells #[.slice A5 z1.1.length c5, .slice A6 z2.1.length c6, .slice A7 z3.length c7] 23)).heap.size := by simp
  replace T := T.to ((Bel.refl w7).alloc (.cells #[.slice A5 z1.1.length c5, .slice A6 z2.1.length c6, .slice A7 z3.length c7] 23))
  have hLb := hb5.size
  clear hV hN hb5
  go_wp2_with fail
  generalize w7.alloc (.cells #[.slice A5 z1.1.length c5, .slice A6 z2.1.length c6, .slice A7 z3.length c7] 23) = W8 at *
  generalize w7.heap.size = L at *
  go_loopw [44] (fun v wr => ∃ (k : Nat) (W : World), W = wr ∧ k ≤ 3 ∧ v = .int .i64 k ∧ Three wr 3 w4.heap.size V N ∧ Bel w4 wr ∧ L < wr.heap.size ∧ ∀ j, j < 3 → wr.cell? ⟨L, j, none⟩ = some (V j)) (fun v _ => 3 - (intOf v).toNat)
  case atStart => exact ⟨0, _, rfl, by omega, rfl, T, hb8, hLs, hL⟩
  case round =>
    clear T hb8 hLs hL
    obtain ⟨k, W, rfl, hk, rfl, T, hb8, hLs, hL⟩ := hrel
    by_cases hlt : k < 3
    · obtain ⟨xs, hxl, ho⟩ := T.own k hlt
      obtain ⟨Ak, ck, hVk, hrk⟩ := ho.rd
      have lk := hrk.lenMax
      have hLk := hL k hlt
      rw [hVk] at hLk ho
      have HV := Lib.hid hVk
      have HL := Lib.hid hL
      have HX := Lib.hid hxl
      clear hVk hrk hL hxl
      rcases Nat.eq_zero_or_pos xs.length with h0 | h0
      · obtain rfl : xs = [] := List.eq_nil_of_length_eq_zero h0
        clear h0
        go_wp2
        go_loopw [50] (fun v wr2 => v = .int .i64 0 ∧ W = wr2) (fun v _ => 0)
        case atStart => exact ⟨rfl, rfl⟩
        case round =>
          obtain ⟨rfl, rfl⟩ := hrel
          go_wp2
          go_roundw
          case rel => exact ⟨k + 1, _, rfl, by omega, by go_num, T, hb8, hLs, HL.out⟩
          case measure => simp [intOf]; omega
      · obtain ⟨g, rfl, hg1, hg2⟩ := ho.addr h0
        have hgL : g < L := lt7 k hlt g (by rw [HV.out]; rfl)
        go_wp2
        go_loopw [50] (fun v wr2 => ∃ (i : Nat) (W2 : World), W2 = wr2 ∧ i ≤ xs.length ∧ v = .int .i64 i ∧ ∃ ys : List Int, ys.length = xs.length ∧ Own intT 3 wr2 w4.heap.size All (.slice (some ⟨g, 0, none⟩) xs.length ck) ys ∧ Upd g W wr2) (fun v _ => xs.length - (intOf v).toNat)
        case atStart => exact ⟨0, _, rfl, Nat.zero_le _, rfl, xs, rfl, ho, Upd.refl _ _⟩
        case round =>
          obtain ⟨i, W2, rfl, hi, rfl, ys, hy, ho2, hu⟩ := hrel
          by_cases hil : i < xs.length
          · obtain ⟨hc, hf⟩ := ho2.cell (i := i) (by omega)
            have hnew := ho2.set i (wrap64 (ys[i]'(by omega) + 5))
            obtain ⟨z, hz⟩ : ∃ z, ys[i]'(by omega) = z := ⟨_, rfl⟩
            rw [hz] at hc hnew
            have hnl : (ys.set i (wrap64 (z + 5))).length = xs.length := by rw [List.length_set]; exact hy
            clear hz
            go_wp2
            go_roundw
            case rel => exact ⟨i + 1, _, rfl, by omega, by go_num, _, hnl, hnew, hu.set rfl _⟩
            case measure => simp [intOf]; omega
          · have T2 := T.upd hlt (by rw [HV.out]; rfl) hu ⟨ys, by have := HX.out; omega, by rw [HV.out]; exact ho2⟩
            have hL2 : ∀ j, j < 3 → W2.cell? ⟨L, j, none⟩ = some (V j) := fun j hj => cell_keep (HL.out j hj) (hu.block L (by omega))
            have hs2 := hu.size
            go_wp2
            go_roundw
            case rel => exact ⟨k + 1, _, rfl, by omega, by go_num, T2, hb8.upd hu hg1, by omega, hL2⟩
            case measure => simp [intOf]; omega
    · have r1 := hr1.to hb8
      have r2 := hr2.to hb8
      have r3 := hr3.to hb8
      have r4 := hr4.to hb8
      clear T hL
      go_wp2_with fail
      refine (same03_c _ _ _ _ _ _ _ _ _ r1 r3 _ _ rfl rfl).mono ?_
      rw [decide_eq_true (rfl : x = x)]
      rintro e w9 ⟨rfl, hb9⟩
      go_wp2_with fail
      refine (same03_c _ _ _ _ _ _ _ _ _ (r2.to hb9) (r4.to hb9) _ _ rfl rfl).mono ?_
      rw [decide_eq_true (rfl : y = y)]
      rintro e w10 ⟨rfl, hb10⟩
      go_wp2_with fail
      refine (wakes03 _).mono ?_
      rintro e w11 ⟨rfl, hb11⟩
      go_wp2_with fail
      go_ret
      exact ⟨rfl, (((hbb.trans hb8).trans hb9).trans hb10).trans hb11⟩
end Go.Proofs.Ytpkofpnfnpicmaa
namespace Go.Proofs.Ytpkofpnfnpicmaa.rowBagKeeps
open Go.ChangeShapes Go.WideShapes Go.ChangeAt Go.RowKit Go.Cb
open Go.ChangeMaps (open_string shut_string)
theorem own : ownKnob Try.prog.godebug = none := by kernel_rfl
theorem laidOut : laidOutB Try.prog = true := by kernel_rfl
set_option maxRecDepth 100000 in
theorem lifted (os : Os) (started : os.Started) (H : Type) (enc : TypeId × Value → H) :
    ReturnsInHanded {} Try.checked os 12 .any (Rows.bagKeepsSpec.pre6 enc Try.prog Try.f12 Rows.bagKeepsRow.domain false) (Rows.bagKeepsSpec.post enc Try.prog Try.f12 false true false false) := by
  refine returnsInHanded_of_change_sized (C := Try.checked) own started (by kernel_rfl) Try.func12
    (ChangeSpec.witness6 (enc := enc) (C := Try.checked) false ⟨#[], #[.slice none 0 0, .slice none 0 0], []⟩ 8 (by kernel_rfl) (by kernel_rfl) (by kernel_rfl) (by kernel_rfl)) ?_
  intro W base args ds gs before hval0 hW hcnd hsz0 _
  have hsz : (DataW.weightsEach Try.prog (Try.f12.params.toList ++ Rows.bagKeepsSpec.plain.varTypes Try.prog) (ds ++ gs)).all (· ≤ reachBytes) = true := hsz0
  have hval : ∀ (j : Nat) t v, Try.f12.params[j]? = some t → args[j]? = some v → Value.okWide Try.prog W .any base t v := hval0
  have hW' := hW
  obtain ⟨p, q, hA0, hV, rfl, hfz, hnd⟩ := hW
  have hA : DataW.TrodAll enc Try.prog W 0 (fun _ => true) true Try.f12.params.toList args.toList ds p := hA0
  rw [Try.params12] at hA hval hsz
  obtain ⟨v0, vs0, d0, ds0, p0, q0, hargs, rfl, rfl, h0, r0⟩ := trodAll_cons hA
  obtain ⟨v1, vs1, d1, ds1, p1, q1, rfl, rfl, rfl, h1, r1⟩ := trodAll_cons r0
  obtain ⟨rfl, rfl, rfl⟩ := trodAll_nil r1
  obtain rfl : args = #[v0, v1] := by cases args; simp_all
  obtain ⟨rfl, rfl⟩ := trodVars_none hV
  obtain ⟨a0, len0, cap0, rfl⟩ := okWide_slice Try.underlying22 (hval 0 22 v0 rfl rfl)
  have k0 := h0
  have lt0 : ∀ x ∈ p0, x.block < W.heap.size := by obtain ⟨m, hm⟩ := k0; exact DataW.trod_lt m _ _ _ hm
  obtain ⟨l0, rfl, R0, wf0, sz0⟩ := open_rd hsz (j := 0) (t := 22) rfl rfl Try.underlying22 Try.underlying3 (by kernel_rfl) (by kernel_rfl) h0
  obtain ⟨a1, len1, cap1, rfl⟩ := okWide_slice Try.underlying22 (hval 1 22 v1 rfl rfl)
  have k1 := h1
  have lt1 : ∀ x ∈ p1, x.block < W.heap.size := by obtain ⟨m, hm⟩ := k1; exact DataW.trod_lt m _ _ _ hm
  obtain ⟨l1, rfl, R1, wf1, sz1⟩ := open_rd hsz (j := 1) (t := 22) rfl rfl Try.underlying22 Try.underlying3 (by kernel_rfl) (by kernel_rfl) h1
  clear hA0 hval0 hsz0 hsz
  refine (BagKeeps_walk W a0 cap0 l0 R0 (fun x hx => inI64_wf (wf0 x hx)) sz0 a1 cap1 l1 R1 (fun x hx => inI64_wf (wf1 x hx)) sz1).mono fun e W' ⟨he, bel⟩ => ?_
  subst he
  exact ⟨_, rfl, _, _, _, [], _, [], hW', trodAll_mk1 (shut_bool Try.underlying4 _), (trodAll_cons_mk (Below.trod laidOut (by kernel_rfl) (of_decide_eq_true (by kernel_rfl)) k0 bel.out lt0) (trodAll_cons_mk (Below.trod laidOut (by kernel_rfl) (of_decide_eq_true (by kernel_rfl)) k1 bel.out lt1) trodAll_mk0)), rfl, bel.out.frame _, fun h => by cases h⟩
theorem over : Rows.bagKeepsRow.holds Try.pinned (OpenSpec.ofChange Rows.bagKeepsSpec) :=
  OpenClaim.holds_of_wide 12 Try.f12 rfl rfl rfl rfl rfl rfl rfl ⟨rfl, rfl, rfl, rfl, rfl⟩ rfl rfl rfl rfl rfl (by kernel_rfl) Try.func12 (by kernel_rfl)
    (of_decide_eq_true (by kernel_rfl)) (by unfold Func.isWrapper; first | (rw [if_pos (by decide +kernel)]; kernel_rfl) | (rw [if_neg (by decide +kernel)]; exact ⟨rfl, rfl⟩))
    (fun os started H enc _ => lifted os started H enc)
end Go.Proofs.Ytpkofpnfnpicmaa.rowBagKeeps
namespace Go.Proofs.Ytpkofpnfnpicmaa
theorem BagKeeps_holds : Rows.BagKeepsSaid := rowBagKeeps.over
#print axioms BagKeeps_holds
end Go.Proofs.Ytpkofpnfnpicmaa
