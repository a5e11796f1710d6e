/- The statement ClockRaces. -/
import Derived.Test.YtamihjibdcccmaaClk9
import Derived.Test.YtamihjibdcccmaaClkP
set_option linter.unusedVariables false
set_option linter.unusedSimpArgs false
set_option linter.all false
namespace Go.Cb
def cmM (p q : Int × Int × Bool) : Bool := p.1 == q.1 && p.2.1 == q.2.1 && (p.2.2 || q.2.2)
def rowM (p : Int × Int × Bool) (ys : List (Int × Int × Bool)) (k : Nat) : Bool := (ys.take k).any (cmM p)
def meetM (xs ys : List (Int × Int × Bool)) (k : Nat) : Bool := (xs.take k).any fun p => ys.any (cmM p)
theorem rowM_next {p q : Int × Int × Bool} {ys : List (Int × Int × Bool)} {k : Nat} (h : ys[k]? = some q) : rowM p ys (k + 1) = (rowM p ys k || cmM p q) := by
  unfold rowM
  rw [List.take_add_one, h, List.any_append]
  simp
theorem meetM_next {p : Int × Int × Bool} {xs ys : List (Int × Int × Bool)} {k : Nat} (h : xs[k]? = some p) : meetM xs ys (k + 1) = (meetM xs ys k || rowM p ys ys.length) := by
  unfold meetM rowM
  rw [List.take_add_one, h, List.any_append, List.take_length]
  simp
theorem meetM_all (x y : Ev) : meetM x.cs y.cs x.cs.length = clashE x y := by
  unfold meetM clashE
  rw [List.take_length]
  rfl
theorem racesE_pre (l : List Ev) (j : Nat) : ∀ n, j ≤ n → ∃ r, racesE l n = racesE l j ++ r
  | 0, h => ⟨[], by rw [show j = 0 by omega]; rfl⟩
  | n + 1, h => by
    by_cases e : j = n + 1
    · exact ⟨[], by rw [e, List.append_nil]⟩
    · obtain ⟨r, hr⟩ := racesE_pre l j n (by omega)
      exact ⟨r ++ raceRow l n n, by rw [racesE, hr, List.append_assoc]⟩
theorem raceRow_pre (l : List Ev) (j i : Nat) : ∀ n, i ≤ n → ∃ r, raceRow l j n = raceRow l j i ++ r
  | 0, h => ⟨[], by rw [show i = 0 by omega]; rfl⟩
  | n + 1, h => by
    by_cases e : i = n + 1
    · exact ⟨[], by rw [e, List.append_nil]⟩
    · obtain ⟨r, hr⟩ := raceRow_pre l j i n (by omega)
      exact ⟨_, by rw [raceRow, hr, List.append_assoc]⟩
/-- The next race stands there. -/
theorem race_at {l : List Ev} {n i j : Nat} (hi : i < j) (hj : j < n) (h : raceE l i j = true) : (racesE l n)[(racesE l j ++ raceRow l j i).length]? = some ((i : Int), (j : Int)) := by
  obtain ⟨r, hr⟩ := racesE_pre l (j + 1) n (by omega)
  obtain ⟨q, hq⟩ := raceRow_pre l j (i + 1) j (by omega)
  rw [hr, racesE, hq, raceRow, if_pos h, ← List.append_assoc, ← List.append_assoc, List.append_assoc _ [_] _, List.append_assoc _ _ r, List.getElem?_append_right (Nat.le_refl _), Nat.sub_self]
  rfl
end Go.Cb
namespace Go.Proofs.Ytamihjibdcccmaa
open Go.RowKit Go.Cb Go.Sort
theorem rd_kept2 {w : World} {S : Nat → Prop} {A : Option Addr} {c : Nat} {xs : List (Int × Int)} (h : Rd keptT w S A c xs) {k : Nat} {x : Int × Int} (hk : xs[k]? = some x) :
    ∃ ad, A = some ad ∧ w.cell? (ad.add (k * 2)) = some (.int .i64 x.1) ∧ w.cell? ⟨(ad.add (k * 2)).block, (ad.add (k * 2)).off + 1, none⟩ = some (.int .i64 x.2) := by
  obtain ⟨ad, cs, e, hS, hr, hc⟩ := h.2.2 k _ hk
  rw [kept_rd.1 hr] at hc
  exact ⟨ad, e, hc 0 _ rfl, nth_cellE (hc 1 _ rfl)⟩
set_option maxHeartbeats 32000000 in
set_option maxRecDepth 100000 in
theorem ClockRaces_walk (w : World) (A : Option Addr) (c : Nat) (l : List (Int × Int × Int × List Int)) (hl : Rd raw29T w All A c l) (il : Raw29Ok l) :
    Calls Try.prog 3 #[.slice A l.length c] w fun e w' => e = .returned (.bool true) ∧ Bel w w' := by
  have HO := Lib.hid (of29_c w A c l hl _ rfl)
  have IL := Lib.hid (evsR_ok il 24 16)
  have H14 := Lib.hid (List.length_take_le 16 ((l.take 24).map evR))
  clear hl il
  go_enter Try.func3, Try.ntmps3
  go_wp2_with fail
  refine HO.out.mono ?_
  rintro e w1 ⟨A1, c1, he, hr1, hb1⟩
  have hce : (l.take 24).length = ((l.take 24).map evR).length := by simp
  rw [hce] at he
  subst he
  have HC := Lib.hid (cutEvs_c evT rfl All A1 c1 _ 16 w1 hr1 _ rfl (by have := H14.out; omega) 16 rfl)
  have HB1 := Lib.hid hb1
  clear hr1 hb1 hce HO
  generalize (l.take 24).map evR = es at *
  go_wp2_with fail
  refine HC.out.mono ?_
  rintro e w2 ⟨v2, rfl, ho2, hb2⟩
  obtain ⟨A2, c2, rfl, hr2⟩ := ho2.rdAll
  have HR := Lib.hid hr2
  have HB2 := Lib.hid (HB1.out.trans hb2)
  clear ho2 hr2 hb2 HC HB1
  obtain ⟨ls, hls⟩ : ∃ ls, es.take 16 = ls := ⟨_, rfl⟩
  rw [hls] at HR IL H14 ⊢
  clear hls
  obtain ⟨n, hn⟩ : ∃ n, ls.length = n := ⟨_, rfl⟩
  have HN := Lib.hid hn
  have n16 : n ≤ 16 := hn ▸ H14.out
  rw [hn]
  clear hn H14
  have HQ := Lib.hid (races_c w2 A2 c2 ls HR.out (by have := HN.out; omega) IL.out n HN.out.symm)
  go_wp2_with fail
  refine HQ.out.mono ?_
  rw [HN.out]
  rintro e w3 ⟨A3, c3, rfl, hrp, hb3⟩
  obtain ⟨rs, hrs⟩ : ∃ rs, racesE ls n = rs := ⟨_, rfl⟩
  have hrl := racesE_len ls n
  rw [hrs] at hrp hrl ⊢
  have rl : rs.length ≤ 256 := Nat.le_trans hrl (Nat.mul_le_mul n16 n16)
  have HP := Lib.hid hrp
  have HRS := Lib.hid hrs
  have HR3 := Lib.hid (HR.out.to hb3)
  have HB3 := Lib.hid (HB2.out.trans hb3)
  clear hrp hrs hrl hb3 HQ HB2
  have KB := Lib.hid (show ∀ W', Bel w3 W' → ∀ i j : Int, Calls Try.prog 8 #[.slice A2 n c2, .int .i64 i, .int .i64 j] W' fun e w' => e = .returned (.bool (befE ls i j)) ∧ Bel W' w' from fun W' h i j => before_c W' A2 c2 ls (HR3.out.to h) (by have := HN.out; omega) IL.out i j n HN.out.symm)
  clear IL HR
  go_wp2
  go_loopw [5, 20] (fun v5 v20 wr => ∃ (j : Nat) (W : World), W = wr ∧ j ≤ n ∧ v20 = .int .i64 j ∧ v5 = .int .i64 (racesE ls j).length ∧ Bel w3 W) (fun _ v20 _ => n - (intOf v20).toNat)
  case atStart => exact ⟨0, _, rfl, Nat.zero_le _, rfl, rfl, Bel.refl _⟩
  case round =>
    obtain ⟨j, WJ, rfl, hj, rfl, rfl, hbj⟩ := hrel
    have HBJ := Lib.hid hbj
    clear hbj
    by_cases hlj : j < n
    · obtain ⟨⟨ya, yk, yn, ys⟩, hy⟩ : ∃ x, ls[j]? = some x := ⟨_, List.getElem?_eq_getElem (by have := HN.out; omega)⟩
      have HYD := Lib.hid (show ls.getD j default = ⟨ya, yk, yn, ys⟩ by rw [List.getD_eq_getElem?_getD, hy]; rfl)
      have HY := Lib.hid hy
      clear hy
      generalize hK : (racesE ls j).length = K0
      have HK0 := Lib.hid hK
      clear hK
      go_wp2
      go_loopw [5, 7] (fun v5 v7 wr => ∃ (i : Nat) (W : World), W = wr ∧ i ≤ j ∧ v7 = .int .i64 i ∧ v5 = .int .i64 (racesE ls j ++ raceRow ls j i).length ∧ Bel w3 W) (fun _ v7 _ => j - (intOf v7).toNat)
      case atStart => exact ⟨0, _, rfl, Nat.zero_le _, rfl, by rw [raceRow, List.append_nil, HK0.out], HBJ.out⟩
      case round =>
        obtain ⟨i, WI, rfl, hi, rfl, rfl, hbi⟩ := hrel
        have HBI := Lib.hid hbi
        clear hbi
        obtain ⟨K, hK⟩ : ∃ K, (racesE ls j ++ raceRow ls j i).length = K := ⟨_, rfl⟩
        rw [hK]
        have HNX := Lib.hid (show (racesE ls j ++ raceRow ls j (i + 1)).length = K + (if raceE ls i j = true then 1 else 0) by
          rw [raceRow, ← List.append_assoc, List.length_append, hK]
          split <;> rfl)
        have HK := Lib.hid hK
        clear hK
        by_cases hli : i < j
        · have i1 : (i : Int) < (j : Int) := by omega
          have i2 : (i : Int) < (n : Int) := by omega
          have j1 : (j : Int) < (n : Int) := by omega
          obtain ⟨⟨xa, xk, xn, xs⟩, hx⟩ : ∃ x, ls[i]? = some x := ⟨_, List.getElem?_eq_getElem (by have := HN.out; omega)⟩
          have HXD := Lib.hid (show ls.getD i default = ⟨xa, xk, xn, xs⟩ by rw [List.getD_eq_getElem?_getD, hx]; rfl)
          have HX := Lib.hid hx
          obtain ⟨ad, Ax, cx, rfl, x0, _, _, x3, hxc⟩ := (HR3.out.to HBI.out).ev hx
          dsimp only at x3 hxc
          have lx := hxc.lenMax
          unfold maxLen at lx
          have HXC := Lib.hid hxc
          clear hx hxc x0
          go_wp2_with fail
          clear x3
          go_loopw [8, 34] (fun v8 v34 wr => ∃ (p : Nat) (b : Bool) (W : World), W = wr ∧ p ≤ xs.length ∧ v34 = .int .i64 p ∧ v8 = .bool b ∧ Hid (b = meetM xs ys p) ∧ Bel WI W) (fun _ v34 _ => xs.length - (intOf v34).toNat)
          case atStart => exact ⟨0, false, _, rfl, Nat.zero_le _, rfl, rfl, (rfl : false = meetM xs ys 0), Bel.refl _⟩
          case round =>
            obtain ⟨p, b, W, rfl, hp, rfl, rfl, HM, hbp⟩ := hrel
            have HBP := Lib.hid hbp
            clear hbp
            by_cases hlp : p < xs.length
            · obtain ⟨⟨p1, p2, p3⟩, hpx⟩ : ∃ q, xs[p]? = some q := ⟨_, List.getElem?_eq_getElem hlp⟩
              obtain ⟨adx, rfl, x0, x1, x2⟩ := (HXC.out.to HBP.out).cell3 hpx
              dsimp only at x0 x1 x2
              have hal : Bel W (W.alloc (.cells #[.int .i64 p1, .int .i64 p2, .bool p3] 32)) := (Bel.refl _).alloc _
              have hnw := heap_alloc_new W (.cells #[.int .i64 p1, .int .i64 p2, .bool p3] 32)
              have hba := HBP.out.trans hal
              obtain ⟨ad2, Ay, cy, ead, _, _, _, y3, hyc⟩ := (HR3.out.to (HBI.out.trans hba)).ev HY.out
              injection ead with ead
              subst ead
              dsimp only at y3 hyc
              have ly := hyc.lenMax
              unfold maxLen at ly
              have HMX := Lib.hid (meetM_next (ys := ys) hpx)
              clear hpx hal
              go_wp2_with fail
              clear x0 x1 x2 y3
              obtain ⟨gx, hgx⟩ : ∃ g, W.heap.size = g := ⟨_, rfl⟩
              obtain ⟨W2, e2⟩ : ∃ W2, W.alloc (.cells #[.int .i64 p1, .int .i64 p2, .bool p3] 32) = W2 := ⟨_, rfl⟩
              rw [e2] at hnw hba hyc ⊢
              rw [hgx] at hnw ⊢
              have HNW := Lib.hid hnw
              have HBA := Lib.hid hba
              have HYC := Lib.hid hyc
              clear e2 hgx hnw hba hyc
              go_loopw [8, 44] (fun v8 v44 wr => ∃ (q : Nat) (b2 : Bool) (W : World), W = wr ∧ q ≤ ys.length ∧ v44 = .int .i64 q ∧ v8 = .bool b2 ∧ Hid (b2 = (b || rowM (p1, p2, p3) ys q)) ∧ Bel W2 W) (fun _ v44 _ => ys.length - (intOf v44).toNat)
              case atStart => exact ⟨0, b, _, rfl, Nat.zero_le _, rfl, rfl, (by simp [rowM] : b = (b || rowM (p1, p2, p3) ys 0)), Bel.refl _⟩
              case round =>
                obtain ⟨q, b2, W3, rfl, hq, rfl, rfl, HM2, hb3⟩ := hrel
                by_cases hlq : q < ys.length
                · obtain ⟨⟨q1, q2, q3⟩, hqx⟩ : ∃ q', ys[q]? = some q' := ⟨_, List.getElem?_eq_getElem hlq⟩
                  obtain ⟨ady, rfl, y0, y1, y2⟩ := (HYC.out.to hb3).cell3 hqx
                  dsimp only at y0 y1 y2
                  have hb4 : Bel W2 (W3.alloc (.cells #[.int .i64 q1, .int .i64 q2, .bool q3] 32)) := hb3.alloc _
                  have hk := (hb4.block (blk_lt HNW.out)).trans HNW.out
                  have z0 : (W3.alloc (.cells #[.int .i64 q1, .int .i64 q2, .bool q3] 32)).cell? ⟨gx, 0, none⟩ = some (.int .i64 p1) := cellAt hk 0
                  have z1 : (W3.alloc (.cells #[.int .i64 q1, .int .i64 q2, .bool q3] 32)).cell? ⟨gx, 1, none⟩ = some (.int .i64 p2) := cellAt hk 1
                  have z2 : (W3.alloc (.cells #[.int .i64 q1, .int .i64 q2, .bool q3] 32)).cell? ⟨gx, 2, none⟩ = some (.bool p3) := cellAt hk 2
                  have hn4 := heap_alloc_new W3 (.cells #[.int .i64 q1, .int .i64 q2, .bool q3] 32)
                  have u0 : (W3.alloc (.cells #[.int .i64 q1, .int .i64 q2, .bool q3] 32)).cell? ⟨W3.heap.size, 0, none⟩ = some (.int .i64 q1) := cellAt hn4 0
                  have u1 : (W3.alloc (.cells #[.int .i64 q1, .int .i64 q2, .bool q3] 32)).cell? ⟨W3.heap.size, 1, none⟩ = some (.int .i64 q2) := cellAt hn4 1
                  have u2 : (W3.alloc (.cells #[.int .i64 q1, .int .i64 q2, .bool q3] 32)).cell? ⟨W3.heap.size, 2, none⟩ = some (.bool q3) := cellAt hn4 2
                  have HB4 := Lib.hid hb4
                  have HRX := Lib.hid (show (b || rowM (p1, p2, p3) ys (q + 1)) = (b2 || (p1 == q1 && p2 == q2 && (p3 || q3))) by rw [rowM_next hqx, ← Bool.or_assoc, ← HM2.out]; rfl)
                  clear hqx hb3 hb4 hk hn4
                  cases b2 with
                  | true =>
                    have HZ := Lib.hid (show true = (b || rowM (p1, p2, p3) ys (q + 1)) by rw [HRX.out]; simp)
                    go_wp2_with fail
                    go_roundw
                    case rel => exact ⟨q + 1, true, _, rfl, by omega, by go_num, rfl, HZ, HB4.out⟩
                    case measure => simp [intOf]; omega
                  | false =>
                    cases h1 : (p1 == q1) with
                    | false =>
                      have HZ := Lib.hid (show false = (b || rowM (p1, p2, p3) ys (q + 1)) by rw [HRX.out, h1]; simp)
                      go_wp2_with fail
                      go_roundw
                      case rel => exact ⟨q + 1, false, _, rfl, by omega, by go_num, rfl, HZ, HB4.out⟩
                      case measure => simp [intOf]; omega
                    | true =>
                      cases h2 : (p2 == q2) with
                      | false =>
                        have HZ := Lib.hid (show false = (b || rowM (p1, p2, p3) ys (q + 1)) by rw [HRX.out, h1, h2]; simp)
                        go_wp2_with fail
                        go_roundw
                        case rel => exact ⟨q + 1, false, _, rfl, by omega, by go_num, rfl, HZ, HB4.out⟩
                        case measure => simp [intOf]; omega
                      | true =>
                        cases p3 with
                        | true =>
                          have HZ := Lib.hid (show true = (b || rowM (p1, p2, true) ys (q + 1)) by rw [HRX.out, h1, h2]; simp)
                          go_wp2_with fail
                          go_roundw
                          case rel => exact ⟨q + 1, true, _, rfl, by omega, by go_num, rfl, HZ, HB4.out⟩
                          case measure => simp [intOf]; omega
                        | false =>
                          have HZ := Lib.hid (show q3 = (b || rowM (p1, p2, false) ys (q + 1)) by rw [HRX.out, h1, h2]; simp)
                          go_wp2_with fail
                          go_roundw
                          case rel => exact ⟨q + 1, q3, _, rfl, by omega, by go_num, rfl, HZ, HB4.out⟩
                          case measure => simp [intOf]; omega
                · obtain rfl : q = ys.length := by omega
                  have HZ := Lib.hid (show b2 = meetM xs ys (p + 1) by rw [HMX.out, ← HM.out]; exact HM2.out)
                  have HB5 := Lib.hid (HBA.out.trans hb3)
                  clear hb3
                  go_wp2_with fail
                  go_roundw
                  case rel => exact ⟨p + 1, b2, _, rfl, by omega, by go_num, rfl, HZ, HB5.out⟩
                  case measure => simp [intOf]; omega
            · obtain rfl : p = xs.length := by omega
              have HCL := Lib.hid (show clashE (ls.getD i default) (ls.getD j default) = b by rw [HXD.out, HYD.out, HM.out]; exact (meetM_all ⟨xa, xk, xn, xs⟩ ⟨ya, yk, yn, ys⟩).symm)
              have HBM := Lib.hid (HBI.out.trans HBP.out)
              obtain ⟨ad2, Ax2, cx2, ead, x0, _, _, _, _⟩ := (HR3.out.to HBM.out).ev HX.out
              injection ead with ead
              subst ead
              obtain ⟨ad3, Ay, cy, ead, y0, _, _, _, _⟩ := (HR3.out.to HBM.out).ev HY.out
              injection ead with ead
              subst ead
              dsimp only at x0 y0
              have X0 := cellReg x0
              have Y0 := cellReg y0
              clear HBP HM
              cases b with
              | false =>
                have HN2 := Lib.hid (show (racesE ls j ++ raceRow ls j (i + 1)).length = K by
                  rw [HNX.out, if_neg (fun h => by unfold raceE at h; rw [HCL.out] at h; simp at h)]; rfl)
                go_wp2_with fail
                refine wp_region_quiet_below (by kernel_rfl) (by kernel_rfl) ?_
                repeat (go_big_quiet_step (fail))
                refine wpQuiet_nil ?_
                intro _ hw'
                obtain ⟨⟨dq, oq⟩, hw''⟩ := hw'
                subst hw''
                have HBQ := Lib.hid (HBM.out.trans (bel_regrown W dq oq))
                generalize grow (redrawn W dq) oq = W9 at *
                clear X0 Y0 x0 y0
                go_wp2_with fail
                go_roundw
                case rel => exact ⟨i + 1, _, rfl, by omega, by go_num, by rw [HN2.out], HBQ.out⟩
                case measure => simp [intOf]; omega
              | true =>
                by_cases e : xa = ya
                · have e1 : (xa == ya) = true := by rw [e]; simp
                  have HN2 := Lib.hid (show (racesE ls j ++ raceRow ls j (i + 1)).length = K by
                    rw [HNX.out, raceE_no1 (by unfold actE; rw [HXD.out, HYD.out]; exact e)]; rfl)
                  clear e
                  go_wp2_with fail
                  refine wp_region_quiet_below (by kernel_rfl) (by kernel_rfl) ?_
                  repeat (go_big_quiet_step (fail))
                  refine wpQuiet_nil ?_
                  intro _ hw'
                  obtain ⟨⟨dq, oq⟩, hw''⟩ := hw'
                  subst hw''
                  have HBQ := Lib.hid (HBM.out.trans (bel_regrown W dq oq))
                  generalize grow (redrawn W dq) oq = W9 at *
                  clear X0 Y0 x0 y0
                  go_wp2_with fail
                  go_roundw
                  case rel => exact ⟨i + 1, _, rfl, by omega, by go_num, by rw [HN2.out], HBQ.out⟩
                  case measure => simp [intOf]; omega
                · have e1 : (xa == ya) = false := beq_eq_false_iff_ne.2 e
                  obtain ⟨b2, hb2⟩ : ∃ b, aheadE ls i j = b := ⟨_, rfl⟩
                  have HRE := Lib.hid (show raceE ls i j = !b2 by rw [raceE_val (by unfold actE; rw [HXD.out, HYD.out]; exact e), HCL.out, hb2]; rfl)
                  have hz : befE ls (i : Int) (j : Int) = b2 := by rw [befE_yes (by have := HN.out; omega) (by have := HN.out; omega), hb2]
                  have K0 := fun W' (h : Bel W W') => KB.out W' (HBM.out.trans h) (i : Int) (j : Int)
                  simp only [hz] at K0
                  have K1 := Lib.hid K0
                  clear K0 hz
                  clear e hb2
                  cases b2 with
                  | true =>
                    have HN2 := Lib.hid (show (racesE ls j ++ raceRow ls j (i + 1)).length = K by rw [HNX.out, HRE.out]; simp)
                    go_wp2_with fail
                    refine wp_region_quiet_below (by kernel_rfl) (by kernel_rfl) ?_
                    repeat (go_big_quiet_step (first | with_reducible exact callsReg K1.out))
                    refine wpQuiet_nil ?_
                    intro _ hw'
                    obtain ⟨⟨dq, oq⟩, hw''⟩ := hw'
                    subst hw''
                    have HBQ := Lib.hid (HBM.out.trans (bel_regrown W dq oq))
                    generalize grow (redrawn W dq) oq = W9 at *
                    clear X0 Y0 x0 y0
                    go_wp2_with fail
                    go_roundw
                    case rel => exact ⟨i + 1, _, rfl, by omega, by go_num, by rw [HN2.out], HBQ.out⟩
                    case measure => simp [intOf]; omega
                  | false =>
                    have HN2 := Lib.hid (show (racesE ls j ++ raceRow ls j (i + 1)).length = K + 1 by rw [HNX.out, HRE.out]; simp)
                    have hra := race_at (n := n) hli hlj (l := ls) (by rw [HRE.out]; simp)
                    rw [HK.out, HRS.out] at hra
                    have HRA := Lib.hid hra
                    have hkl : K < rs.length := (List.getElem?_eq_some_iff.1 hra).1
                    clear hra
                    go_wp2_with fail
                    refine wp_region_quiet_below (by kernel_rfl) (by kernel_rfl) ?_
                    repeat (go_big_quiet_step (first | with_reducible exact callsReg K1.out))
                    refine wpQuiet_nil ?_
                    intro _ hw'
                    obtain ⟨⟨dq, oq⟩, hw''⟩ := hw'
                    subst hw''
                    have HBQ := Lib.hid (HBM.out.trans (bel_regrown W dq oq))
                    generalize grow (redrawn W dq) oq = W9 at *
                    clear X0 Y0 x0 y0
                    obtain ⟨adr, rfl, r0, r1⟩ := rd_kept2 (HP.out.to HBQ.out) HRA.out
                    dsimp only at r0 r1
                    have k1 : (K : Int) < (rs.length : Int) := by omega
                    have k2 : decide ((rs.length : Int) ≤ (K : Int)) = false := decide_eq_false (by omega)
                    have k3 : decide (rs.length ≤ K) = false := decide_eq_false (by omega)
                    go_wp2_with fail
                    go_roundw
                    case rel => exact ⟨i + 1, _, rfl, by omega, by go_num, by rw [HN2.out]; go_num, HBQ.out⟩
                    case measure => simp [intOf]; omega
        · obtain rfl : i = j := by omega
          have HN2 := Lib.hid (show (racesE ls (i + 1)).length = K by rw [racesE]; exact HK.out)
          go_wp2_with fail
          go_roundw
          case rel => exact ⟨i + 1, _, rfl, by omega, by go_num, by rw [HN2.out], HBI.out⟩
          case measure => simp [intOf]; omega
    · obtain rfl : j = n := by omega
      rw [HRS.out]
      go_wp2_with fail
      refine (wakes29_c _).mono ?_
      rintro e W9 ⟨rfl, hb9⟩
      have HB9 := Lib.hid (HBJ.out.trans hb9)
      clear hb9
      go_wp2_with fail
      go_ret
      exact ⟨rfl, HB3.out.trans HB9.out⟩
end Go.Proofs.Ytamihjibdcccmaa
namespace Go.Proofs.Ytamihjibdcccmaa.rowClockRaces
open Go.ChangeShapes Go.WideShapes Go.ChangeAt Go.RowKit Go.Cb
open Go.ChangeMaps (open_string shut_string)
theorem own : ownKnob Try.prog.godebug = none := by kernel_rfl
theorem laidOut : laidOutB Try.prog = true := by kernel_rfl
set_option maxRecDepth 100000 in
theorem lifted (os : Os) (started : os.Started) (H : Type) (enc : TypeId × Value → H) :
    ReturnsInHanded {} Try.checked os 3 .any (Rows.clockRacesSpec.pre6 enc Try.prog Try.f3 Rows.clockRacesRow.domain false) (Rows.clockRacesSpec.post enc Try.prog Try.f3 false true false false) := by
  refine returnsInHanded_of_change_sized (C := Try.checked) own started (by kernel_rfl) Try.func3
    (ChangeSpec.witness6 (enc := enc) (C := Try.checked) false ⟨#[], #[.slice none 0 0], []⟩ 8 (by kernel_rfl) (by kernel_rfl) (by kernel_rfl) (by kernel_rfl)) ?_
  intro W base args ds gs before hval0 hW hcnd hsz0 _
  have hsz : (DataW.weightsEach Try.prog (Try.f3.params.toList ++ Rows.clockRacesSpec.plain.varTypes Try.prog) (ds ++ gs)).all (· ≤ reachBytes) = true := hsz0
  have hval : ∀ (j : Nat) t v, Try.f3.params[j]? = some t → args[j]? = some v → Value.okWide Try.prog W .any base t v := hval0
  have hW' := hW
  obtain ⟨p, q, hA0, hV, rfl, hfz, hnd⟩ := hW
  have hA : DataW.TrodAll enc Try.prog W 0 (fun _ => true) true Try.f3.params.toList args.toList ds p := hA0
  rw [Try.params3] at hA hval hsz
  obtain ⟨v0, vs0, d0, ds0, p0, q0, hargs, rfl, rfl, h0, r0⟩ := trodAll_cons hA
  obtain ⟨rfl, rfl, rfl⟩ := trodAll_nil r0
  obtain rfl : args = #[v0] := by cases args; simp_all
  obtain ⟨rfl, rfl⟩ := trodVars_none hV
  obtain ⟨a0, len0, cap0, rfl⟩ := okWide_slice Try.underlying22 (hval 0 22 v0 rfl rfl)
  have k0 := h0
  have lt0 : ∀ x ∈ p0, x.block < W.heap.size := by obtain ⟨m, hm⟩ := k0; exact DataW.trod_lt m _ _ _ hm
  obtain ⟨m0, hm0⟩ := h0
  obtain ⟨x0, R0, ok0⟩ := opensRaws29 _ _ _ _ _ _ _ _ _ hm0
  replace R0 : (sl raw29T).rd W All x0 [.slice a0 len0 cap0] := R0
  obtain ⟨A0, c0, eq0, q0⟩ := R0
  obtain ⟨rfl, rfl, rfl⟩ : a0 = A0 ∧ len0 = x0.length ∧ cap0 = c0 := by simpa using eq0
  clear hA0 hval0 hsz0 hsz
  refine (ClockRaces_walk W a0 cap0 x0 q0 ok0).mono fun e W' ⟨he, bel⟩ => ?_
  subst he
  exact ⟨_, rfl, _, _, _, [], _, [], hW', trodAll_mk1 (shut_bool Try.underlying4 _), (trodAll_cons_mk (Below.trod laidOut (by kernel_rfl) (of_decide_eq_true (by kernel_rfl)) k0 bel.out lt0) trodAll_mk0), rfl, bel.out.frame _, fun h => by cases h⟩
theorem over : Rows.clockRacesRow.holds Try.pinned (OpenSpec.ofChange Rows.clockRacesSpec) :=
  OpenClaim.holds_of_wide 3 Try.f3 rfl rfl rfl rfl rfl rfl rfl ⟨rfl, rfl, rfl, rfl, rfl⟩ rfl rfl rfl rfl rfl (by kernel_rfl) Try.func3 (by kernel_rfl)
    (of_decide_eq_true (by kernel_rfl)) (by unfold Func.isWrapper; first | (rw [if_pos (by decide +kernel)]; kernel_rfl) | (rw [if_neg (by decide +kernel)]; exact ⟨rfl, rfl⟩))
    (fun os started H enc _ => lifted os started H enc)
end Go.Proofs.Ytamihjibdcccmaa.rowClockRaces
namespace Go.Proofs.Ytamihjibdcccmaa
theorem ClockRaces_holds : Rows.ClockRacesSaid := rowClockRaces.over
#print axioms ClockRaces_holds
end Go.Proofs.Ytamihjibdcccmaa
