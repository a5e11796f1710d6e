/- SemiStar: of points: any number of them, with the empty word; of others: none. -/
import Derived.Test.YtbfbhacdllhddaaGreatMK
import Derived.Test.YtbfbhacdllhddaaGreatMB
set_option linter.unusedVariables false
set_option linter.unusedSimpArgs false
set_option linter.all false
namespace Go.Cb
def ptsS (s : SemS) : Bool := s.all fun x => x.2.isEmpty
theorem starN_yes {s : SemS} (h : rightS s = true) (hp : ptsS s = true) : starS none s = (none, [(ofLin [] (s.map (fun x => x.1))).1], 0) := by
  unfold starS; rw [if_pos ⟨h, hp⟩]; rfl
theorem starN_no {s : SemS} (hp : ptsS s = false) : starS none s = (none, [], 1) := by
  unfold starS; rw [if_neg (fun e => by rw [show s.all (fun x => x.2.isEmpty) = false from hp] at e; exact absurd e.2 (by decide))]
theorem ptsS_take {s : SemS} {k : Nat} {x : Lin} (h : s[k]? = some x) : ptsS (s.take (k + 1)) = (ptsS (s.take k) && x.2.isEmpty) := by
  unfold ptsS
  rw [List.take_add_one, h, List.all_append]
  simp
theorem len0_empty {α : Type} (l : List α) : ((l.length : Int) == 0) = l.isEmpty := by cases l <;> simp; omega
/-- The points of these words. -/
def lins (bs : List (List Int)) : SemS := bs.map fun b => (playBag b, [])
theorem star_law (bs : List (List Int)) : ∃ y q, ofS (lins bs) = (y, true) ∧ starS none y = (none, [([], q)], 0) ∧ y.length ≤ bs.length ∧ rightS [([], q)] = true ∧ ∀ x ∈ lins bs, x.1 = [] ∨ x.1 ∈ q := by
  have hr : ∀ x ∈ lins bs, rightL x = true := fun x hx => by
    obtain ⟨b, _, rfl⟩ := List.mem_map.1 hx
    exact rightL_mk (playBag_right b) Good.nil
  obtain ⟨g, m⟩ := foldl_putO linO GoodO.nil hr
  have hy := ofS_yes hr
  have hrs : rightS ((lins bs).foldl (putO cmpLin) []) = true := rightS_iff.2 g
  have hm : ∀ x, x ∈ (lins bs).foldl (putO cmpLin) [] ↔ x ∈ lins bs := fun x => by rw [m x]; simp
  have hp : ptsS ((lins bs).foldl (putO cmpLin) []) = true := by
    refine List.all_eq_true.2 fun x hx => ?_
    obtain ⟨b, _, rfl⟩ := List.mem_map.1 ((hm x).1 hx)
    rfl
  have hb : ∀ p ∈ ((lins bs).foldl (putO cmpLin) []).map (fun x => x.1), rightB p = true := fun p hp => by
    obtain ⟨x, hx, rfl⟩ := List.mem_map.1 hp
    obtain ⟨b, _, rfl⟩ := List.mem_map.1 ((hm x).1 hx)
    exact playBag_right b
  obtain ⟨q, hq, gq, mq, _⟩ := ofLin_pts hb
  refine ⟨_, q, hy, by rw [starN_yes hrs hp, hq], ?_, rightS_iff.2 ⟨fun p hp => ?_, by simp⟩, fun x hx => ?_⟩
  · have := ofS_length (lins bs)
    rw [hy] at this
    simpa [lins] using this
  · obtain rfl : p = ([], q) := by simpa using hp
    exact rightL_mk rfl gq
  · by_cases e : x.1 = []
    · exact .inl e
    · refine .inr ((mq _).2 ?_)
      have h1 : x.1 ∈ ((lins bs).foldl (putO cmpLin) []).map (fun x => x.1) := List.mem_map.2 ⟨x, (hm x).2 hx, rfl⟩
      unfold nzB
      refine List.mem_filter.2 ⟨List.mem_map.2 ⟨x.1, h1, normB_id (hb _ h1)⟩, ?_⟩
      cases hh : x.1 with
      | nil => exact absurd hh e
      | cons a t => rfl
def anyTo (q : List (List Int)) (b : List Int) (k : Nat) : Bool := b.isEmpty || (q.take k).any fun p => decide (b = p)
theorem anyTo_succ {q : List (List Int)} {b p : List Int} {k : Nat} (h : q[k]? = some p) : anyTo q b (k + 1) = (anyTo q b k || decide (b = p)) := by
  unfold anyTo
  rw [List.take_add_one, h, List.any_append]
  simp [Bool.or_assoc]
theorem anyTo_all {q : List (List Int)} {b : List Int} (h : b = [] ∨ b ∈ q) : anyTo q b q.length = true := by
  unfold anyTo
  rw [List.take_length]
  rcases h with rfl | h
  · rfl
  · rw [Bool.or_eq_true]
    exact .inr (List.any_eq_true.2 ⟨b, h, by simp⟩)
theorem lins_take {bs : List (List Int)} {k : Nat} {b : List Int} (h : bs[k]? = some b) : lins (bs.take (k + 1)) = lins (bs.take k) ++ [(playBag b, [])] := by
  unfold lins
  rw [List.take_add_one, h]; simp
end Go.Cb
namespace Go.Proofs.YtbfbhacdllhddaaGreat
open Go.RowKit Go.Cb Go.Sort
theorem opensWords : Opens Tryz.prog (sl bagT) (fun x => ∀ b ∈ x, ∀ n ∈ b, inI64 n) 23 := opens_slice Tryz.underlying23 (by kernel_rfl) (opens_slice Tryz.underlying22 (by kernel_rfl) (opens_int Tryz.underlying3))
set_option maxHeartbeats 16000000 in
set_option maxRecDepth 100000 in
theorem SemiStar_walk (w : World) (A : Option Addr) (ca : Nat) (a : List Int) (ha : Rd intT w All A ca a) (ia : ∀ x ∈ a, inI64 x) (_ : a.length * 8 ≤ 140737488351232)
    (B : Option Addr) (cb : Nat) (bags : List (List Int)) (hb : Rd bagT w All B cb bags) (ib : ∀ b ∈ bags, ∀ n ∈ b, inI64 n) :
    Calls Tryz.prog 3 #[.slice A a.length ca, .slice B bags.length cb] w fun e w' => e = .returned (.bool true) ∧ Bel w w' := by
  have hok := playSem_ok a
  obtain ⟨s, hs⟩ : ∃ s, playSem a = s := ⟨_, rfl⟩
  have HS := Lib.hid hs
  rw [hs] at hok
  have hs6 := hok.2
  have HR := Lib.hid hok.1.right
  clear hs hok
  have HB := Lib.hid hb
  have HIB := Lib.hid ib
  clear hb ib
  go_enter Tryz.func3, Tryz.ntmps3
  go_wp2_with fail
  refine (playSemi_c _ _ _ _ _ ha ia _ rfl).mono ?_
  rw [HS.out]
  rintro e w1 ⟨v1, rfl, ⟨A1, c1, rfl, hr1⟩, hb1⟩
  have HR1 := Lib.hid hr1
  clear hr1
  go_wp2
  go_loopw [6, 27] (fun v6 v27 wr => ∃ (k : Nat) (W : World), W = wr ∧ k ≤ s.length ∧ v27 = .int .i64 k ∧ v6 = .bool (ptsS (s.take k)) ∧ Bel w1 W) (fun _ v27 _ => s.length - (intOf v27).toNat)
  case atStart => exact ⟨0, _, rfl, Nat.zero_le _, rfl, rfl, Bel.refl _⟩
  case round =>
    obtain ⟨k, W, rfl, hk, rfl, rfl, hbW⟩ := hrel
    by_cases hlt : k < s.length
    · obtain ⟨ad, A2, c2, A3, c3, rfl, x0, x1, _, _⟩ := (HR1.out.to hbW).lrow hlt
      obtain ⟨x, hx⟩ : ∃ x, s[k] = x := ⟨_, rfl⟩
      have HT := Lib.hid (ptsS_take (show s[k]? = some x by rw [List.getElem?_eq_getElem hlt, hx]))
      rw [hx] at x0 x1
      clear hx
      have hal : Bel W (W.alloc (.cells #[.slice A2 x.1.length c2, .slice A3 x.2.length c3] 30)) := (Bel.refl _).alloc _
      have HE := Lib.hid (len0_empty x.2)
      cases hp : ptsS (s.take k) with
      | false =>
        have HP := Lib.hid hp
        clear hp
        go_wp2
        go_roundw
        case rel => exact ⟨k + 1, _, rfl, by omega, by go_num, by rw [HT.out, HP.out]; rfl, hbW.trans hal⟩
        case measure => simp [intOf]; omega
      | true =>
        have HP := Lib.hid hp
        clear hp
        go_wp2
        go_roundw
        case rel => exact ⟨k + 1, _, rfl, by omega, by go_num, by rw [HT.out, HP.out, ← HE.out]; rfl, hbW.trans hal⟩
        case measure => simp [intOf]; omega
    · obtain rfl : k = s.length := by omega
      have hb01 := hb1.trans hbW
      have HRW := Lib.hid (HR1.out.to hbW)
      have hv : ∃ (z : SemS) (n : Int), starS none s = (none, z, n) ∧ (ptsS (s.take s.length) = true ∧ n = 0 ∨ ptsS (s.take s.length) = false ∧ n = 1 ∧ z = []) := by
        rw [List.take_length]
        cases hp : ptsS s with
        | true => exact ⟨_, _, starN_yes HR.out hp, .inl ⟨rfl, rfl⟩⟩
        | false => exact ⟨_, _, starN_no hp, .inr ⟨rfl, rfl, rfl⟩⟩
      obtain ⟨z, n, hz, hzn⟩ := hv
      have Q := semStarN_c _ A1 c1 s W HRW.out _ rfl (by omega)
      rw [hz] at Q
      have HQ := Lib.hid Q
      clear Q hz
      have HC := Lib.hid (fun W' (h : Bel w W') => cutWords_c bagT rfl All B cb bags 5 W' (HB.out.to h) _ rfl (Nat.le_trans (Nat.mul_le_mul_right _ (List.length_take_le 5 bags)) (by decide)) 5 rfl)
      obtain ⟨y, q, hy, hst, hyl, hrt, hall⟩ := star_law (bags.take 5)
      have h5 : (bags.take 5).length ≤ 5 := by rw [List.length_take]; omega
      have HIB5 := Lib.hid (fun b (hb : b ∈ bags.take 5) => HIB.out b (List.mem_of_mem_take hb))
      have HY := Lib.hid hy
      have HST := Lib.hid hst
      have HRT := Lib.hid hrt
      have HALL := Lib.hid hall
      clear hy hst hrt hall HB HIB HR hbW
      generalize bags.take 5 = bs at *
      rcases hzn with ⟨hp, rfl⟩ | ⟨hp, rfl, rfl⟩
      all_goals
        rw [hp]
        clear hp
        go_wp2_with fail
        refine HQ.out.mono ?_
        rintro e w2 ⟨v2, rfl, r2, hb2⟩
        obtain ⟨Az, cz, rfl, _⟩ := r2.rd
        go_wp2_with fail
        refine (HC.out w2 (hb01.trans hb2)).mono ?_
        rintro e w3 ⟨v3, rfl, ho3, hb3⟩
        obtain ⟨A4, c4, rfl, hr4⟩ := ho3.rdAll
        have HR4 := Lib.hid hr4
        have hbw3 := (hb01.trans hb2).trans hb3
        clear ho3 hr4 r2 HQ HC
        go_wp2
        go_loopw [11, 64] (fun v11 v64 wr => ∃ (k : Nat) (W : World) (AL : Option Addr) (cL : Nat), W = wr ∧ k ≤ bs.length ∧ v64 = .int .i64 k ∧ v11 = .slice AL k cL ∧ Own linT 30 W w3.heap.size (Ge w3.heap.size) (.slice AL k cL) (lins (bs.take k)) ∧ Bel w3 W) (fun _ v64 _ => bs.length - (intOf v64).toNat)
        case atStart => exact ⟨0, _, none, 0, rfl, Nat.zero_le _, rfl, rfl, Own.nil _ _ _ _ _, Bel.refl _⟩
        case round =>
          obtain ⟨k, W5, AL, cL, rfl, hk, rfl, rfl, hoL, hb5⟩ := hrel
          by_cases hlt2 : k < bs.length
          · obtain ⟨ad, Ab, cb', rfl, hcell, hrb⟩ := (HR4.out.to hb5).row hlt2
            obtain ⟨b, hbe⟩ : ∃ b, bs[k] = b := ⟨_, rfl⟩
            have HT := Lib.hid (lins_take (show bs[k]? = some b by rw [List.getElem?_eq_getElem hlt2, hbe]))
            have hib := HIB5.out _ (List.getElem_mem hlt2)
            rw [hbe] at hcell hrb hib
            have HPB := Lib.hid (playBag_c _ _ _ b W5 hrb hib _ rfl)
            have HO := Lib.hid hoL
            have hll : (lins (bs.take k)).length = k := by unfold lins; rw [List.length_map, List.length_take]; omega
            have HLL := Lib.hid hll
            clear hbe hrb hib hoL hll
            go_wp2_with fail
            refine HPB.out.mono ?_
            rintro e w6 ⟨v6, rfl, ho6, hb6⟩
            obtain ⟨A6, c6, rfl, hr6⟩ := ho6.rdGe
            have HR6 := Lib.hid hr6
            have HO6 := Lib.hid (HO.out.to hb6)
            have hl6 := fun k hk => HO.out.lt (k := k) hk
            have HL6 := Lib.hid hl6
            have hs6 := hb6.size
            have hs5 := hb5.size
            have hb56 := hb5.trans hb6
            clear ho6 hr6 hl6 HPB HO
            go_wp2_with (at_builtin; refine wp_append1 linT (w0 := w3) 24 30 (.agg #[.slice none 0 0, .slice none 0 0]) 48 rfl _ _ rfl Tryz.underlying24 info_lin rfl (Ge w3.heap.size) (.slice AL k cL) (lins (bs.take k)) (playBag b, []) [.slice A6 (playBag b).length c6, .slice none 0 0] rfl rfl HO6.out (lin_mk (HR6.out.mono (fun j hj => ⟨by unfold Ge at *; omega, fun e => by have := HL6.out j e.symm; unfold Ge at hj; omega⟩)) (Rd.nil _ _ _ _ _ (by decide))) hb56 (by rw [HLL.out]; unfold maxLen; omega) (by rw [HLL.out]; omega) ?_; rintro v7 w7 ho7 hb7 _ _; obtain ⟨A7, c7, hv7⟩ := ho7.form; rw [List.length_append, HLL.out, List.length_singleton] at hv7; subst hv7; rw [← HT.out] at ho7)
            go_roundw
            case rel => exact ⟨k + 1, _, A7, c7, rfl, by omega, by go_num, rfl, ho7, hb7⟩
            case measure => simp [intOf]; omega
          · obtain rfl : k = bs.length := by omega
            rw [List.take_length] at hoL
            have hll : (lins bs).length = bs.length := by unfold lins; rw [List.length_map]
            obtain ⟨AL', cL', he, hrL⟩ := hoL.rdGe
            injection he with e1 e2 e3
            clear e2
            subst e1 e3
            have HL := Lib.hid hrL
            have HLL := Lib.hid hll
            have hb05 := hbw3.trans hb5
            have Q := ofP_c _ AL cL (lins bs) W5 hrL _ hll.symm (by rw [hll]; omega) (fun x hx => by
              obtain ⟨b, _, rfl⟩ := List.mem_map.1 hx
              exact Nat.zero_le _)
            rw [HY.out] at Q
            have HQ1 := Lib.hid Q
            clear Q hoL hrL hll
            have HQ2 := Lib.hid (fun (S : Nat → Prop) A c W (h : Rd linT W S A c y) => show Calls Tryz.prog 11 #[.pointer none, .slice A y.length c] W fun e w' => ∃ A' c', e = .returned (.tuple #[.slice A' 1 c', .int .i64 0]) ∧ Rd linT w' (Ge W.heap.size) A' c' [([], q)] ∧ Bel W w' from by
              have := semStarN_c S A c y W h _ rfl (by omega)
              rw [HST.out] at this
              refine this.mono ?_
              rintro e w' ⟨v, rfl, r, hb⟩
              obtain ⟨A', c', rfl, r'⟩ := r.rd
              exact ⟨A', c', rfl, r', hb⟩)
            go_wp2_with fail
            refine HQ1.out.mono ?_
            rintro e w8 ⟨v8, rfl, r8, hb8⟩
            obtain ⟨A8, c8, rfl, hr8⟩ := r8.rd
            have HQ3 := Lib.hid (HQ2.out _ _ _ _ hr8)
            clear r8 hr8 HQ2 HQ1
            go_wp2_with fail
            refine HQ3.out.mono ?_
            rintro e w9 ⟨A9, c9, rfl, hr9, hb9⟩
            obtain ⟨ad9, B0, d0, B1, d1, rfl, z0, z1, _, hq9⟩ := hr9.lrow (k := 0) (by simp)
            have e0 : ad9.add 0 = ad9 := by unfold Addr.add; simp
            simp only [Nat.zero_mul, List.getElem_cons_zero, List.length_nil, e0] at z0 z1 hq9
            clear e0
            have HR9 := Lib.hid hr9
            have HQ9 := Lib.hid hq9
            clear hr9 hq9 HQ3
            have hb59 := hb8.trans hb9
            have HSR := Lib.hid (fun W (hW : Bel w9 W) => show Calls Tryz.prog 15 #[.slice (some ad9) 1 c9] W fun e w' => e = .returned (.bool true) ∧ Bel W w' from by
              have := semRight_c _ (some ad9) c9 [([], q)] W (HR9.out.to hW) 1 rfl
              rwa [HRT.out] at this)
            go_wp2_with fail
            refine (HSR.out _ (Bel.refl _)).mono ?_
            rintro e w10 ⟨rfl, hb10⟩
            have hb510 := hb59.trans hb10
            have hb010 := hb05.trans hb510
            replace z0 := cell_keep z0 (hb10.block (World.block_lt_of_cell? _ _ z0))
            replace z1 := cell_keep z1 (hb10.block (World.block_lt_of_cell? _ _ z1))
            have HQ10 := Lib.hid (HQ9.out.to hb10)
            have lq := HQ9.out.lenMax
            have HL10 := Lib.hid (HL.out.to hb510)
            clear HSR HQ9 HR9 HL
            go_wp2
            go_loopw [111] (fun v111 wr => ∃ (k : Nat) (W : World), W = wr ∧ k ≤ bs.length ∧ v111 = .int .i64 k ∧ Bel w10 W) (fun v111 _ => bs.length - (intOf v111).toNat)
            case atStart => exact ⟨0, _, rfl, Nat.zero_le _, rfl, Bel.refl _⟩
            case round =>
              obtain ⟨k, W, rfl, hk, rfl, hbW⟩ := hrel
              by_cases hlt3 : k < bs.length
              · obtain ⟨ad, A2, c2, A3, c3, hadd, x0, x1, hxr, _⟩ := (HL10.out.to hbW).lrow (k := k) (by rw [HLL.out]; exact hlt3)
                subst hadd
                obtain ⟨xb, hxb⟩ : ∃ xb, (lins bs)[k]'(by rw [HLL.out]; exact hlt3) = (xb, []) := ⟨playBag bs[k], by simp [lins]⟩
                have HAN := Lib.hid (anyTo_all (HALL.out _ (List.getElem_mem (by rw [HLL.out]; exact hlt3))))
                rw [hxb] at x0 x1 hxr HAN
                dsimp only at x0 x1 hxr HAN
                have HXR := Lib.hid hxr
                have HE := Lib.hid (len0_empty xb)
                have HA0 := Lib.hid (show anyTo q xb 0 = xb.isEmpty by unfold anyTo; simp)
                have hal : Bel W (W.alloc (.cells #[.slice A2 xb.length c2, .slice A3 0 c3] 30)) := (Bel.refl _).alloc _
                have hbx := heap_alloc_new W (.cells #[.slice A2 xb.length c2, .slice A3 0 c3] 30)
                have hb9a := hbW.trans hal
                have y0 := cell_keep z0 (hb9a.block (World.block_lt_of_cell? _ _ z0))
                have y1 := cell_keep z1 (hb9a.block (World.block_lt_of_cell? _ _ z1))
                clear hxb hxr hal
                go_wp2
                go_loopw [20, 124] (fun v20 v124 wr => ∃ (i : Nat) (W9 : World), W9 = wr ∧ i ≤ q.length ∧ v124 = .int .i64 i ∧ v20 = .bool (anyTo q xb i) ∧ Bel (W.alloc (.cells #[.slice A2 xb.length c2, .slice A3 0 c3] 30)) W9) (fun _ v124 _ => q.length - (intOf v124).toNat)
                case atStart => exact ⟨0, _, rfl, Nat.zero_le _, rfl, by rw [HA0.out, ← HE.out], Bel.refl _⟩
                case round =>
                  obtain ⟨i, W9, rfl, hi, rfl, rfl, hb9⟩ := hrel
                  by_cases hlt4 : i < q.length
                  · obtain ⟨ad2, Ap, cp, rfl, hcell, hpr⟩ := (HQ10.out.to (hb9a.trans hb9)).row hlt4
                    obtain ⟨pq, hpq⟩ : ∃ pq, q[i] = pq := ⟨_, rfl⟩
                    have HT2 := Lib.hid (anyTo_succ (b := xb) (show q[i]? = some pq by rw [List.getElem?_eq_getElem hlt4, hpq]))
                    rw [hpq] at hcell hpr
                    have hbx9 := (hb9.block (blk_lt hbx)).trans hbx
                    have k0 : W9.cell? ⟨W.heap.size, 0, none⟩ = some (.slice A2 xb.length c2) := cellAt hbx9 0
                    have HSM := Lib.hid (sameInt_c _ _ _ _ _ _ xb pq W9 (HXR.out.to (Bel.trans ((Bel.refl W).alloc _) hb9)) hpr _ _ rfl rfl)
                    clear hpq hpr hbx9
                    cases han : anyTo q xb i with
                    | true =>
                      have HAT := Lib.hid han
                      clear han
                      go_wp2
                      go_roundw
                      case rel => exact ⟨i + 1, _, rfl, by omega, by go_num, by rw [HT2.out, HAT.out]; rfl, hb9⟩
                      case measure => simp [intOf]; omega
                    | false =>
                      have HAT := Lib.hid han
                      clear han
                      go_wp2_with fail
                      refine HSM.out.mono ?_
                      rintro e w12 ⟨rfl, hb12⟩
                      go_wp2
                      go_roundw
                      case rel => exact ⟨i + 1, _, rfl, by omega, by go_num, by rw [HT2.out, HAT.out]; rfl, hb9.trans hb12⟩
                      case measure => simp [intOf]; omega
                  · obtain rfl : i = q.length := by omega
                    rw [HAN.out]
                    go_wp2
                    go_roundw
                    case rel => exact ⟨k + 1, _, rfl, by omega, by go_num, hb9a.trans hb9⟩
                    case measure => simp [intOf]; omega
              · obtain rfl : k = bs.length := by omega
                have hbz := hb010.trans hbW
                go_wp2_with fail
                refine (wakes07 _).mono ?_
                rintro e w13 ⟨rfl, hb13⟩
                go_wp2
                go_ret
                exact ⟨rfl, hbz.trans hb13⟩
end Go.Proofs.YtbfbhacdllhddaaGreat
namespace Go.Proofs.YtbfbhacdllhddaaGreat.rowSemiStar
open Go.ChangeShapes Go.WideShapes Go.ChangeAt Go.RowKit Go.Cb
open Go.ChangeMaps (open_string shut_string)
theorem own : ownKnob Tryz.prog.godebug = none := by kernel_rfl
theorem laidOut : laidOutB Tryz.prog = true := by kernel_rfl
set_option maxRecDepth 100000 in
theorem lifted (os : Os) (started : os.Started) (H : Type) (enc : TypeId × Value → H) :
    ReturnsInHanded {} Tryz.checked os 3 .any (Rows.semiStarSpec.pre6 enc Tryz.prog Tryz.f3 Rows.semiStarRow.domain false) (Rows.semiStarSpec.post enc Tryz.prog Tryz.f3 false true false false) := by
  refine returnsInHanded_of_change_sized (C := Tryz.checked) own started (by kernel_rfl) Tryz.func3
    (ChangeSpec.witness6 (enc := enc) (C := Tryz.checked) false ⟨#[], #[.slice none 0 0, .slice none 0 0], []⟩ 8 (by kernel_rfl) (by kernel_rfl) (by kernel_rfl) (by kernel_rfl)) ?_
  intro W base args ds gs before hval0 hW hcnd hsz0 _
  have hsz : (DataW.weightsEach Tryz.prog (Tryz.f3.params.toList ++ Rows.semiStarSpec.plain.varTypes Tryz.prog) (ds ++ gs)).all (· ≤ reachBytes) = true := hsz0
  have hval : ∀ (j : Nat) t v, Tryz.f3.params[j]? = some t → args[j]? = some v → Value.okWide Tryz.prog W .any base t v := hval0
  have hW' := hW
  obtain ⟨p, q, hA0, hV, rfl, hfz, hnd⟩ := hW
  have hA : DataW.TrodAll enc Tryz.prog W 0 (fun _ => true) true Tryz.f3.params.toList args.toList ds p := hA0
  rw [Tryz.params3] at hA hval hsz
  obtain ⟨v0, vs0, d0, ds0, p0, q0, hargs, rfl, rfl, h0, r0⟩ := trodAll_cons hA
  obtain ⟨v1, vs1, d1, ds1, p1, q1, rfl, rfl, rfl, h1, r1⟩ := trodAll_cons r0
  obtain ⟨rfl, rfl, rfl⟩ := trodAll_nil r1
  obtain rfl : args = #[v0, v1] := by cases args; simp_all
  obtain ⟨rfl, rfl⟩ := trodVars_none hV
  obtain ⟨a0, len0, cap0, rfl⟩ := okWide_slice Tryz.underlying22 (hval 0 22 v0 rfl rfl)
  have k0 := h0
  have lt0 : ∀ x ∈ p0, x.block < W.heap.size := by obtain ⟨m, hm⟩ := k0; exact DataW.trod_lt m _ _ _ hm
  obtain ⟨l0, rfl, R0, wf0, sz0⟩ := open_rd hsz (j := 0) (t := 22) rfl rfl Tryz.underlying22 Tryz.underlying3 (by kernel_rfl) (by kernel_rfl) h0
  obtain ⟨a1, len1, cap1, rfl⟩ := okWide_slice Tryz.underlying23 (hval 1 23 v1 rfl rfl)
  have k1 := h1
  have lt1 : ∀ x ∈ p1, x.block < W.heap.size := by obtain ⟨m, hm⟩ := k1; exact DataW.trod_lt m _ _ _ hm
  obtain ⟨m1, hm1⟩ := h1
  obtain ⟨x1, R1, ok1⟩ := opensWords _ _ _ _ _ _ _ _ _ hm1
  replace R1 : (sl bagT).rd W All x1 [.slice a1 len1 cap1] := R1
  obtain ⟨A1, c1, eq1, q1⟩ := R1
  obtain ⟨rfl, rfl, rfl⟩ : a1 = A1 ∧ len1 = x1.length ∧ cap1 = c1 := by simpa using eq1
  clear hA0 hval0 hsz0 hsz
  refine (SemiStar_walk W a0 cap0 l0 R0 (fun x hx => inI64_wf (wf0 x hx)) sz0 a1 cap1 x1 q1 ok1).mono fun e W' ⟨he, bel⟩ => ?_
  subst he
  exact ⟨_, rfl, _, _, _, [], _, [], hW', trodAll_mk1 (shut_bool Tryz.underlying4 _), (trodAll_cons_mk (Below.trod laidOut (by kernel_rfl) (of_decide_eq_true (by kernel_rfl)) k0 bel.out lt0) (trodAll_cons_mk (Below.trod laidOut (by kernel_rfl) (of_decide_eq_true (by kernel_rfl)) k1 bel.out lt1) trodAll_mk0)), rfl, bel.out.frame _, fun h => by cases h⟩
theorem over : Rows.semiStarRow.holds Tryz.pinned (OpenSpec.ofChange Rows.semiStarSpec) :=
  OpenClaim.holds_of_wide 3 Tryz.f3 rfl rfl rfl rfl rfl rfl rfl ⟨rfl, rfl, rfl, rfl, rfl⟩ rfl rfl rfl rfl rfl (by kernel_rfl) Tryz.func3 (by kernel_rfl)
    (of_decide_eq_true (by kernel_rfl)) (by unfold Func.isWrapper; first | (rw [if_pos (by decide +kernel)]; kernel_rfl) | (rw [if_neg (by decide +kernel)]; exact ⟨rfl, rfl⟩))
    (fun os started H enc _ => lifted os started H enc)
end Go.Proofs.YtbfbhacdllhddaaGreat.rowSemiStar
namespace Go.Proofs.YtbfbhacdllhddaaGreat
theorem SemiStar_holds : Rows.SemiStarSaid := rowSemiStar.over
#print axioms SemiStar_holds
end Go.Proofs.YtbfbhacdllhddaaGreat
