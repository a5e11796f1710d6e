/- Walks: slices.CompactFunc over items, slices.SortFunc of none. -/
import Derived.Test.YtmdcgekiiopohaaGreatAut7
import Derived.Test.YtmdcgekiiopohaaGreatMF
set_option linter.unusedVariables false
set_option linter.unusedSimpArgs false
set_option linter.all false
namespace Go.Proofs.YtmdcgekiiopohaaGreat
open Go.RowKit Go.Cb Go.Sort Go.Shelf
theorem zero_item (w : World) : (zeroValue 100).run Tryz.prog w = .ok (.agg #[.int .i64 0, .slice none 0 0]) w := by kernel_rfl
set_option maxHeartbeats 2000000 in
theorem sortINil_c (p : Option Addr) (cap : Nat) (w : World) :
    Calls Tryz.prog 60 #[.slice p 0 cap, .func (.func 61) #[] #[]] w fun e w' => e = .returned (.tuple #[]) ∧ w' = w := by
  have hl : Calls Tryz.prog 26 #[.int .u64 0] w fun e w' => e = .returned (.int .i64 0) ∧ w' = w := by
    have h := Any.bits_Len (SlLaysF0.n15.bits { Tryz.pdqI with }) 0 w (by omega) (by omega)
    exact h
  have hp := AnyF.pdqsortCmpFunc_none { Tryz.pdqI with } p cap 0 (.func (.func 61) #[] #[]) w
  change Calls Tryz.prog 84 _ _ _ at hp
  have HP := Lib.hid hp
  have HL := Lib.hid hl
  clear hp hl
  go_enter Tryz.func60, Tryz.ntmps60
  go_wp2_with fail
  refine HL.out.mono ?_
  rintro e w1 ⟨rfl, rfl⟩
  go_wp2_with fail
  refine HP.out.mono ?_
  rintro e w2 ⟨rfl, rfl⟩
  go_wp2
  go_end0
  exact ⟨rfl, rfl⟩
set_option maxHeartbeats 4000000 in
theorem sameI_c (S0 S1 : Nat → Prop) (A0 B0 : Option Addr) (c0 d0 : Nat) (x y : Itm) (w : World) (h0 : Rd intT w S0 A0 c0 x.2) (g0 : Rd intT w S1 B0 d0 y.2) (n m : Nat) (hn : n = x.2.length) (hm : m = y.2.length) (hx : rightB x.2 = true) (hy : rightB y.2 = true) :
    Calls Tryz.prog 63 #[.agg #[.int .i64 x.1, .slice A0 n c0], .agg #[.int .i64 y.1, .slice B0 m d0]] w fun e w' => e = .returned (.bool (decide (x = y))) ∧ Bel w w' := by
  subst hn hm
  obtain ⟨hB1, hX, hY, hsz⟩ := twoBoxes w #[.int .i64 x.1, .slice A0 x.2.length c0] #[.int .i64 y.1, .slice B0 y.2.length d0] 100
  have HQ := Lib.hid (itemCompare_c _ _ _ _ _ _ x y _ (h0.to hB1) (g0.to hB1) _ _ rfl rfl)
  obtain ⟨z, hz⟩ : ∃ z, cmpItem x y = z := ⟨_, rfl⟩
  have HE := Lib.hid (show decide (x = y) = (z == 0) by
    have := itemO.zero x y hx hy
    rw [hz] at this
    by_cases e : x = y
    · rw [decide_eq_true e, this.2 e]; rfl
    · rw [decide_eq_false e]
      exact (beq_eq_false_iff_ne.2 (fun h => e (this.1 h))).symm)
  rw [hz] at HQ
  have hX0 := hX 0
  have hX1 := hX 1
  have hY0 := hY 0
  have hY1 := hY 1
  clear hX hY h0 g0 hz hx hy
  go_enter Tryz.func63, Tryz.ntmps63
  go_wp2_with fail
  refine HQ.out.mono ?_
  rintro e w2 ⟨rfl, hb2⟩
  go_wp2
  go_ret
  exact ⟨by rw [HE.out]; rfl, hB1.trans hb2.bel⟩
set_option maxHeartbeats 4000000 in
set_option maxRecDepth 100000 in
theorem compactI_c {w : World} {base c n : Nat} {A : Option Addr} {S : Nat → Prop} {xs : List Itm} (hr : ∀ p ∈ xs, rightB p.2 = true) (h : Own itemT 100 w base S (.slice A n c) xs) (hn : n = xs.length) :
    Calls Tryz.prog 62 #[.slice A n c, .func (.func 63) #[] #[]] w fun e w' =>
      e = .returned (.slice A (cmpctO xs).length c) ∧ Own itemT 100 w' base S (.slice A (cmpctO xs).length c) (cmpctO xs) ∧ w.grownBy w' (Value.slice A n c).ownBlock := by
  have hcf : ∀ (args : Array Value) (w : World), (callFunc 63 args).run Tryz.prog w = .ok (.enter 63 args) w := fun _ _ => by kernel_rfl
  have hcap : n ≤ c ∧ c ≤ 9223372036854775807 := by
    obtain ⟨A', c', he, hr⟩ := h.rd
    injection he with e1 e2 e3
    have h1 := hr.cap
    have h2 := hr.capMax
    unfold maxLen at h2
    subst e3
    omega
  obtain ⟨hc1, hc2⟩ := hcap
  have HH := Lib.hid h
  have HR := Lib.hid hr
  clear hr
  have HN := Lib.hid hn
  clear h hn
  by_cases h2 : n < 2
  · have Hs := Lib.hid (show cmpctO xs = xs by
      have := HN.out
      rcases xs with _ | ⟨x, _ | ⟨y, r⟩⟩
      · rfl
      · rfl
      · simp at this; omega)
    have d1 : decide ((n : Int) < 2) = true := decide_eq_true (by omega)
    go_enter Tryz.func62, Tryz.ntmps62
    go_wp2
    go_ret
    refine ⟨by rw [Hs.out, ← HN.out]; rfl, by rw [Hs.out, ← HN.out]; exact HH.out, ⟨rfl, rfl, rfl, Nat.le_refl _, fun _ _ _ => rfl⟩⟩
  · have d1 : decide ((n : Int) < 2) = false := decide_eq_false (by omega)
    go_enter Tryz.func62, Tryz.ntmps62
    go_wp2
    go_loopw [5] (fun v5 wr => ∃ (k : Nat) (W : World), W = wr ∧ 1 ≤ k ∧ k ≤ n ∧ v5 = .int .i64 k ∧ Hid (cmpctO (xs.take k) = xs.take k) ∧ Bel w W) (fun v5 _ => n - (intOf v5).toNat)
    case atStart => exact ⟨1, _, rfl, Nat.le_refl _, by omega, rfl, (by
      have := HN.out
      rcases xs with _ | ⟨x, r⟩
      · rfl
      · rfl : cmpctO (xs.take 1) = xs.take 1), Bel.refl _⟩
    case round =>
      obtain ⟨k, W, rfl, hk1, hkn, rfl, HP, hd⟩ := hrel
      by_cases hlt : k < n
      · have hown := HH.out.to hd
        obtain ⟨g, A1, c1, rfl, hg1, hg2, x0, x1, r1, hf0⟩ := own_irow hown (k := k) (by rw [← HN.out]; exact hlt)
        obtain ⟨g', B1, d1', e', _, _, y0, y1, q1, _⟩ := own_irow hown (k := k - 1) (by rw [← HN.out]; omega)
        obtain rfl : g = g' := by injection e' with e'; injection e'
        obtain ⟨x, hx⟩ : ∃ x, xs[k]'(by rw [← HN.out]; exact hlt) = x := ⟨_, rfl⟩
        obtain ⟨y, hy⟩ : ∃ y, xs[k - 1]'(by rw [← HN.out]; omega) = y := ⟨_, rfl⟩
        have HX := Lib.hid (show xs[k]? = some x by rw [List.getElem?_eq_getElem (by rw [← HN.out]; exact hlt), hx])
        have HY := Lib.hid (show xs[k - 1]? = some y by rw [List.getElem?_eq_getElem (by rw [← HN.out]; omega), hy])
        rw [hx] at x0 x1 r1
        rw [hy] at y0 y1 q1
        have hw : IntKind.i64.wrap ((k : Int) - 1) = ((k - 1 : Nat) : Int) := by rw [IntKind.wrap_i64]; omega
        have hct := cmpctO_take hk1 HY.out HX.out
        have X0 := cellReg x0
        have X1 := cellReg x1
        have Y0 := cellReg y0
        have Y1 := cellReg y1
        have hDR := Lib.hid (show ∀ (q : Nat) (os : Array Obj), Own itemT 100 (grow (redrawn W q) os) base S (.slice (some ⟨g, 0, none⟩) n c) xs from fun q os => hown.to (bel_regrown _ _ _))
        obtain ⟨z, hz⟩ : ∃ z, decide (x = y) = z := ⟨_, rfl⟩
        have K1 := Lib.hid (show ∀ W', Bel W W' → Calls Tryz.prog 63 #[.agg #[.int .i64 x.1, .slice A1 x.2.length c1], .agg #[.int .i64 y.1, .slice B1 y.2.length d1']] W' fun e w' => e = .returned (.bool z) ∧ Bel W' w' from fun W' h => by
          have := sameI_c _ _ _ _ _ _ x y W' (r1.to h) (q1.to h) _ _ rfl rfl (HR.out x (List.mem_of_getElem? HX.out)) (HR.out y (List.mem_of_getElem? HY.out))
          rw [hz] at this
          exact this)
        clear hx hy r1 q1 e' x0 x1 y0 y1 hown
        cases z with
        | true =>
          have he := of_decide_eq_true hz
          rw [if_pos he.symm, HP.out] at hct
          have HC := Lib.hid hct
          clear he hct hz
          have hb1 : ¬ (c = k) := by omega
          have hb2 : (k : Int) ≤ (n : Int) := by omega
          go_wp2_with fail
          refine wp_region_quiet_below (by kernel_rfl) (by kernel_rfl) ?_
          repeat (go_big_quiet_step (first | with_reducible exact callsReg K1.out))
          refine wpQuiet_nil ?_
          intro _ hw'
          obtain ⟨⟨dq, oq⟩, hw''⟩ := hw'
          subst hw''
          clear K1
          go_wp2
          go_loopw [5, 7] (fun v5 v7 wr => ∃ (kk j : Nat) (W2 : World) (ys : List Itm), W2 = wr ∧ 1 ≤ j ∧ j ≤ n - k ∧ v5 = .int .i64 kk ∧ v7 = .int .i64 j ∧ kk + 1 ≤ k + j ∧ Hid (kk = (cmpctO (xs.take (k + j))).length) ∧ Hid (ys.length = n) ∧ Own itemT 100 W2 base S (.slice (some ⟨g, 0, none⟩) n c) ys ∧ Hid (ys.take kk = cmpctO (xs.take (k + j))) ∧ Hid (∀ i, k + j - 1 ≤ i → ys[i]? = xs[i]?) ∧ w.grownBy W2 (some g)) (fun _ v7 _ => n - k - (intOf v7).toNat)
          case atStart => exact ⟨k, 1, _, xs, rfl, Nat.le_refl _, by omega, rfl, rfl, Nat.le_refl _, (by rw [HC.out, List.length_take, ← HN.out]; omega : k = (cmpctO (xs.take (k + 1))).length), HN.out.symm, hDR.out _ _, HC.out.symm, (fun i _ => rfl : ∀ i, k + 1 - 1 ≤ i → xs[i]? = xs[i]?), bel_grown (hd.trans (bel_regrown _ _ _))⟩
          case round =>
            clear hf0 hDR X0 X1 Y0 Y1
            obtain ⟨kk, j, W2, ys, rfl, hj1, hjn, rfl, rfl, hkj, HKK, HYL, hO, HT, HE, hG⟩ := hrel
            by_cases hjl : j < n - k
            · obtain ⟨g2, A3, c3, e2, _, _, x0, x1, r1, _⟩ := own_irow hO (k := k + j) (by rw [HYL.out]; omega)
              obtain rfl : g = g2 := by injection e2 with e2; injection e2
              obtain ⟨g3, B3, d3, e3, _, _, y0, y1, q1, _⟩ := own_irow hO (k := k + (j - 1)) (by rw [HYL.out]; omega)
              obtain rfl : g = g3 := by injection e3 with e3; injection e3
              obtain ⟨g4, B5, d5, e4, _, hg4, z0, z1, _, hfk⟩ := own_irow hO (k := kk) (by rw [HYL.out]; omega)
              obtain rfl : g = g4 := by injection e4 with e4; injection e4
              obtain ⟨u, hu⟩ : ∃ u, ys[k + j]'(by rw [HYL.out]; omega) = u := ⟨_, rfl⟩
              obtain ⟨z, hz⟩ : ∃ z, ys[k + (j - 1)]'(by rw [HYL.out]; omega) = z := ⟨_, rfl⟩
              have HU := Lib.hid (show xs[k + j]? = some u by rw [← HE.out (k + j) (by omega), List.getElem?_eq_getElem (by rw [HYL.out]; omega), hu])
              have HZ := Lib.hid (show xs[k + (j - 1)]? = some z by rw [← HE.out (k + (j - 1)) (by omega), List.getElem?_eq_getElem (by rw [HYL.out]; omega), hz])
              rw [hu] at x0 x1 r1
              rw [hz] at y0 y1 q1
              rw [Nat.add_mul] at x0 x1 y0 y1
              have hw2 : IntKind.i64.wrap ((j : Int) - 1) = ((j - 1 : Nat) : Int) := by rw [IntKind.wrap_i64]; omega
              have hct2 := cmpctO_take (l := xs) (k := k + j) (by omega) (by rw [show k + j - 1 = k + (j - 1) by omega]; exact HZ.out) HU.out
              clear hu hz e2 e3 e4
              have X0 := cellReg x0
              have X1 := cellReg x1
              have Y0 := cellReg y0
              have Y1 := cellReg y1
              have Z0 := cellReg z0
              have Z1 := cellReg z1
              obtain ⟨b, hb⟩ : ∃ b, decide (u = z) = b := ⟨_, rfl⟩
              have K2 := Lib.hid (show ∀ W', Bel W2 W' → Calls Tryz.prog 63 #[.agg #[.int .i64 u.1, .slice A3 u.2.length c3], .agg #[.int .i64 z.1, .slice B3 z.2.length d3]] W' fun e w' => e = .returned (.bool b) ∧ Bel W' w' from fun W' h => by
                have := sameI_c _ _ _ _ _ _ u z W' (r1.to h) (q1.to h) _ _ rfl rfl (HR.out u (List.mem_of_getElem? HU.out)) (HR.out z (List.mem_of_getElem? HZ.out))
                rw [hb] at this
                exact this)
              have hDO := Lib.hid (show ∀ (q : Nat) (os : Array Obj), Own itemT 100 (grow (redrawn W2 q) os) base S (.slice (some ⟨g, 0, none⟩) n c) ys from fun q os => hO.to (bel_regrown _ _ _))
              have hDS := Lib.hid (show ∀ (q : Nat) (os : Array Obj), itemT.rd (grow (redrawn W2 q) os) (fun k => S k ∧ k ≠ g) u [.int .i64 u.1, .slice A3 u.2.length c3] from fun q os => ⟨[_], [_], rfl, rfl, ⟨_, _, rfl, r1.to (bel_regrown _ _ _)⟩⟩)
              have hFR := fun (q : Nat) (os : Array Obj) (i : Nat) => (own_irow (hDO.out q os) (k := kk) (by have := HYL.out; omega)).elim fun g9 h9 => by
                obtain ⟨_, _, e9, _, _, _, _, _, f9⟩ := h9
                obtain rfl : g = g9 := by injection e9 with e9; injection e9
                exact f9 i
              clear x0 x1 y0 y1 z0 z1 q1 r1 hO
              cases b with
              | true =>
                have he := of_decide_eq_true hb
                rw [if_pos he.symm] at hct2
                have HC2 := Lib.hid hct2
                clear he hct2 hb
                go_wp2_with fail
                refine wp_region_quiet_below (by kernel_rfl) (by kernel_rfl) ?_
                repeat (go_big_quiet_step (first | with_reducible exact callsReg K2.out))
                refine wpQuiet_nil ?_
                intro _ hw'
                obtain ⟨⟨dq, oq⟩, hw''⟩ := hw'
                subst hw''
                clear K2
                go_wp2
                go_roundw
                case rel => exact ⟨kk, j + 1, _, ys, rfl, by omega, by omega, rfl, by go_num, by omega, (by rw [show k + (j + 1) = k + j + 1 by omega, HC2.out]; exact HKK.out : kk = (cmpctO (xs.take (k + (j + 1)))).length), HYL.out, hDO.out _ _, (by rw [show k + (j + 1) = k + j + 1 by omega, HC2.out]; exact HT.out : ys.take kk = cmpctO (xs.take (k + (j + 1)))), (fun i hi => HE.out i (by omega) : ∀ i, k + (j + 1) - 1 ≤ i → ys[i]? = xs[i]?), grown_trans hG (bel_grown (bel_regrown _ _ _))⟩
                case measure => simp [intOf]; omega
              | false =>
                have he := of_decide_eq_false hb
                rw [if_neg (fun h => he h.symm)] at hct2
                have HC2 := Lib.hid hct2
                clear he hct2 hb
                go_wp2_with fail
                refine wp_region_quiet_below (by kernel_rfl) (by kernel_rfl) ?_
                repeat (go_big_quiet_step (first | with_reducible exact callsReg K2.out))
                refine wpQuiet_nil ?_
                intro _ hw'
                obtain ⟨⟨dq, oq⟩, hw''⟩ := hw'
                subst hw''
                clear K2
                have hst := Lib.hid (Own.setK (hDO.out dq oq) HYL.out.symm (i := kk) (by omega) (x := u) (us := [.int .i64 u.1, .slice A3 u.2.length c3]) rfl (hDS.out dq oq))
                have hF := hFR dq oq
                go_wp2
                go_roundw
                case rel => exact ⟨kk + 1, j + 1, _, ys.set kk u, rfl, by omega, by omega, by go_num, by go_num, by omega, (by rw [show k + (j + 1) = k + j + 1 by omega, HC2.out, List.length_append, ← HKK.out]; rfl : kk + 1 = (cmpctO (xs.take (k + (j + 1)))).length), (by rw [List.length_set]; exact HYL.out : (ys.set kk u).length = n), hst.out.1, (by rw [show k + (j + 1) = k + j + 1 by omega, HC2.out, set_take (by rw [HYL.out]; omega), HT.out] : (ys.set kk u).take (kk + 1) = cmpctO (xs.take (k + (j + 1)))), (fun i hi => by rw [List.getElem?_set_ne (by omega)]; exact HE.out i (by omega) : ∀ i, k + (j + 1) - 1 ≤ i → (ys.set kk u)[i]? = xs[i]?), grown_trans (grown_trans hG (bel_grown (bel_regrown _ _ _))) hst.out.2⟩
                case measure => simp [intOf]; omega
            · have hjk : k + j = n := by omega
              have htx : xs.take n = xs := List.take_of_length_le (by rw [← HN.out]; exact Nat.le_refl _)
              have HK2 := Lib.hid (show kk = (cmpctO xs).length by have := HKK.out; rw [hjk, htx] at this; exact this)
              have HT2 := Lib.hid (show ys.take kk = cmpctO xs by have := HT.out; rw [hjk, htx] at this; exact this)
              clear htx
              obtain ⟨zs, hzs⟩ : ∃ zs, (Builtin.zeroCells (Value.agg #[.int .i64 0, .slice none 0 0]).cells (n - kk)).toList = zs := ⟨_, rfl⟩
              obtain ⟨zl, z1⟩ := zeroCells2 (Value.agg #[.int .i64 0, .slice none 0 0]) (.int .i64 0) (.slice none 0 0) rfl rfl rfl (n - kk)
              rw [hzs] at zl z1
              have hcl := fun ty c0 => run_clearK (P := Tryz.prog) W2 66 100 ty (.agg #[.int .i64 0, .slice none 0 0]) zs Tryz.underlying66 zero_item (n - kk) (by omega) hzs z1 g (kk * 2) c0
                (fun i hi => by
                  have h01 : i % 2 = 0 ∨ i % 2 = 1 := by omega
                  obtain ⟨g5, _, _, e5, _, _, h5, h6, _, _⟩ := own_irow hO (k := kk + i / 2) (by rw [HYL.out]; omega)
                  obtain rfl : g = g5 := by injection e5 with e5; injection e5
                  rcases h01 with h01 | h01
                  · rw [show kk * 2 + i = (kk + i / 2) * 2 by omega, h5]; rfl
                  · rw [show kk * 2 + i = (kk + i / 2) * 2 + 1 by omega, h6]; rfl)
                (fun i hi => by
                  obtain ⟨g5, _, _, e5, _, _, _, _, _, h5⟩ := own_irow hO (k := kk) (by rw [HYL.out]; omega)
                  obtain rfl : g = g5 := by injection e5 with e5; injection e5
                  exact h5 _)
              obtain ⟨o1, g1⟩ := Own.clearK hO HYL.out.symm (k := kk) (by omega) (cs := zs) (by show kk * 2 + zs.length ≤ n * 2; rw [zl]; omega)
              rw [HT2.out] at o1
              have hG2 := grown_trans hG g1
              have hb3 : ¬ (c = kk) := by omega
              have hb4 : (kk : Int) ≤ (n : Int) := by omega
              have hb5 : kk ≤ c := by omega
              have hb6 : (kk : Int) ≤ (c : Int) := by omega
              have HO1 := Lib.hid o1
              clear o1 g1 hO hjk zl z1 hzs
              go_wp2
              go_ret
              exact ⟨by rw [← HK2.out]; rfl, by rw [← HK2.out]; exact HO1.out, hG2⟩
        | false =>
          have he := of_decide_eq_false hz
          rw [if_neg (fun h => he h.symm), HP.out] at hct
          have HC := Lib.hid (show cmpctO (xs.take (k + 1)) = xs.take (k + 1) by rw [hct, List.take_add_one, HX.out]; rfl)
          clear he hct hz
          go_wp2_with fail
          refine wp_region_quiet_below (by kernel_rfl) (by kernel_rfl) ?_
          repeat (go_big_quiet_step (first | with_reducible exact callsReg K1.out))
          refine wpQuiet_nil ?_
          intro _ hw'
          obtain ⟨⟨dq, oq⟩, hw''⟩ := hw'
          subst hw''
          clear K1
          go_wp2
          go_roundw
          case rel => exact ⟨k + 1, _, rfl, by omega, by omega, by go_num, HC.out, hd.trans (bel_regrown _ _ _)⟩
          case measure => simp [intOf]; omega
      · obtain rfl : k = n := by omega
        have Hs := Lib.hid (show cmpctO xs = xs by have := HP.out; rw [List.take_of_length_le (by rw [← HN.out]; exact Nat.le_refl _)] at this; exact this)
        go_wp2
        go_ret
        exact ⟨by rw [Hs.out, ← HN.out]; rfl, by rw [Hs.out, ← HN.out]; exact HH.out.to hd, bel_grown hd⟩
end Go.Proofs.YtmdcgekiiopohaaGreat
