/- AutoReads: a word that is made of a set's Base and some of its Periods is read to the end; one letter of nothing more changes nothing of that. -/
import Derived.Test.YtbfbhacdllhddaaPureA
import Derived.Test.YtbfbhacdllhddaaMB
set_option linter.unusedVariables false
set_option linter.unusedSimpArgs false
set_option linter.all false
namespace Go.Cb
def nT (times : List Int) (i : Nat) : Nat := if i < times.length then (withinI (times.getD i 0) 6).toNat else 0
theorem nT_le (times : List Int) (i : Nat) : nT times i ≤ 5 := by
  have := withinI_range (v := times.getD i 0) (n := 6) (by decide)
  unfold nT
  split <;> omega
theorem dotF_le {f : Nat → Nat} (hf : ∀ i, f i ≤ 5) {t : Nat} : ∀ {ps : List (List Int)} {i : Nat}, (∀ p ∈ ps, 0 ≤ p.getD t 0 ∧ p.getD t 0 ≤ 20) → dotF f t ps i ≤ 100 * ps.length
  | [], _, _ => by simp [dotF]
  | p :: r, i, h => by
    have h1 := dotF_le hf (ps := r) (i := i + 1) (fun q hq => h q (by simp [hq]))
    obtain ⟨h2, h3⟩ := h p (by simp)
    have h4 := hf i
    have h5 : (f i : Int) * p.getD t 0 ≤ 5 * 20 := Int.mul_le_mul (by omega) h3 h2 (by decide)
    rw [dotF, show ((p :: r).length : Int) = r.length + 1 by simp]
    omega
end Go.Cb
namespace Go.Proofs.Ytbfbhacdllhddaa
open Go.RowKit Go.Cb Go.Sort
set_option maxHeartbeats 64000000 in
set_option maxRecDepth 100000 in
theorem AutoReads_walk (w : World) (L : Option Addr) (cl : Nat) (l : List Int) (hl : Rd intT w All L cl l) (il : ∀ x ∈ l, inI64 x) (_ : l.length * 8 ≤ 140737488351232) (which : Int) (_ : inI64 which)
    (T : Option Addr) (ct : Nat) (times : List Int) (ht : Rd intT w All T ct times) (_ : ∀ x ∈ times, inI64 x) (_ : times.length * 8 ≤ 140737488351232) :
    Calls Try.prog 4 #[.slice L l.length cl, .int .i64 which, .slice T times.length ct] w fun e w' => e = .returned (.bool true) ∧ Bel w w' := by
  have oP := playSem_P l
  obtain ⟨s, hs⟩ : ∃ s, playSem l = s := ⟨_, rfl⟩
  have Hs := Lib.hid hs
  rw [hs] at oP
  have hs6 := oP.six
  have HSP := Lib.hid oP
  have hbx := startS_box oP
  have stl := startS_len (s := s)
  have HT := Lib.hid ht
  clear hs ht oP
  rcases Nat.eq_zero_or_pos s.length with hz | hz
  · obtain rfl : s = [] := List.eq_nil_of_length_eq_zero hz
    go_enter Try.func4, Try.ntmps4
    go_wp2_with fail
    refine (playSemi_c _ L cl l w hl il _ rfl).mono ?_
    rw [Hs.out]
    rintro e w1 ⟨v, rfl, r, hb1⟩
    obtain ⟨As, cs, rfl, hr⟩ := r.rd
    have Q := autoStart_c _ As cs [] w1 hr _ rfl (by simp)
    rw [show startS [] = [] from rfl] at Q
    have HQ := Lib.hid Q
    clear Q hbx stl
    go_wp2_with fail
    refine HQ.out.mono ?_
    rintro e w2 ⟨v, rfl, ⟨Ax, cx, rfl, hrx⟩, hb2⟩
    go_wp2_with fail
    refine (wakes09 _).mono ?_
    rintro e w3 ⟨rfl, hb3⟩
    go_wp2
    go_ret
    exact ⟨rfl, (hb1.trans hb2).trans hb3⟩
  · have hwr := withinI_range (v := which) (n := (s.length : Int)) (by omega)
    obtain ⟨j, hj⟩ : ∃ j : Nat, withinI which (s.length : Int) = (j : Int) := ⟨(withinI which (s.length : Int)).toNat, by omega⟩
    have HJ := Lib.hid hj
    have hjs : j < s.length := by omega
    have hz0 : ((s.length : Int) == 0) = false := beq_eq_false_iff_ne.2 (by omega)
    obtain ⟨⟨base, ps⟩, hse⟩ : ∃ y, s[j] = y := ⟨_, rfl⟩
    have hp8 : ps.length ≤ 8 := by have := HSP.out.per _ (List.getElem_mem hjs); rw [hse] at this; exact this
    have hpl : ∀ p ∈ ps, rightB p = true ∧ p.length ≤ 4 ∧ ∀ i, p.getD i 0 ≤ 20 := by have := HSP.out.pl _ (List.getElem_mem hjs); rw [hse] at this; exact this
    obtain ⟨hb1, hb2, hb3⟩ : rightB base = true ∧ base.length ≤ 4 ∧ ∀ i, base.getD i 0 ≤ 120 := by have := HSP.out.base _ (List.getElem_mem hjs); rw [hse] at this; exact this
    have hgd : s.getD j ([], []) = (base, ps) := by rw [getDs_of hjs, hse]
    have HPL := Lib.hid hpl
    have HBR := Lib.hid hb1
    have HBL := Lib.hid hb2
    have HBT := Lib.hid hb3
    have HGD := Lib.hid hgd
    have HSE := Lib.hid hse
    have HBX := Lib.hid hbx
    clear hwr hj hpl hb1 hb2 hb3 hgd hse hbx
    go_enter Try.func4, Try.ntmps4
    go_wp2_with fail
    refine (playSemi_c _ L cl l w hl il _ rfl).mono ?_
    rw [Hs.out]
    rintro e w1 ⟨v, rfl, r, hb1⟩
    obtain ⟨As, cs, rfl, hr⟩ := r.rd
    have HTW := Lib.hid (HT.out.to hb1)
    have HB1 := Lib.hid hb1
    obtain ⟨ad, A0, c0, A1, c1, rfl, x0, x1, r0, r1⟩ := hr.lrow hjs
    rw [HSE.out] at x0 x1 r0 r1
    dsimp only at x0 x1 r0 r1
    have HSR := Lib.hid hr.all
    clear hr hb1
    go_wp2_with fail
    refine (within_c which (s.length : Int) _ (by omega)).mono ?_
    rw [HJ.out]
    rintro e wB ⟨rfl, rfl⟩
    have hal : Bel w1 (w1.alloc (.cells #[.slice A0 base.length c0, .slice A1 ps.length c1] 43)) := (Bel.refl _).alloc _
    have X := Box.new w1 43 (.slice A0 base.length c0) (.slice A1 ps.length c1)
    obtain ⟨z0, z1, _, _⟩ := X.cells
    have H0 := Lib.hid ((r0.to hal).all)
    have H1 := Lib.hid ((r1.to hal).all)
    have HSW := Lib.hid (HSR.out.to hal)
    have HTW2 := Lib.hid (HTW.out.to hal)
    have HB2 := Lib.hid (HB1.out.trans hal)
    clear X hal r0 r1
    go_wp2_with fail
    clear z0 z1 x0 x1
    generalize (w1.alloc (.cells #[.slice A0 base.length c0, .slice A1 ps.length c1] 43)) = w2 at *
    go_loopw [9, 45] (fun v9 v45 wr => ∃ (i : Nat) (W : World) (Aw : Option Addr) (cw : Nat) (wl : List Int), W = wr ∧ i ≤ ps.length ∧ v45 = .int .i64 i ∧ v9 = .slice Aw wl.length cw ∧ Rd intT W All Aw cw wl ∧ Hid (rightB wl = true) ∧ Hid (wl.length ≤ 4) ∧ Hid (∀ t, wl.getD t 0 = base.getD t 0 + dotF (nT times) t (ps.take i) 0) ∧ Bel w2 W) (fun _ v45 _ => ps.length - (intOf v45).toNat)
    case atStart => exact ⟨0, _, A0, c0, base, rfl, Nat.zero_le _, rfl, rfl, H0.out, HBR.out, HBL.out, (fun t => by simp [dotF] : ∀ t, base.getD t 0 = base.getD t 0 + dotF (nT times) t (ps.take 0) 0), Bel.refl _⟩
    case round =>
      obtain ⟨i, W, Aw, cw, wl, rfl, hi, rfl, rfl, hwl, HRW, HLW, HFW, hbW⟩ := hrel
      by_cases hlt : i < ps.length
      · obtain ⟨ad9, Ap, cp, rfl, y0, hpr⟩ := (H1.out.to hbW).row hlt
        obtain ⟨p, hpe⟩ : ∃ p, ps[i] = p := ⟨_, rfl⟩
        have hp? : ps[i]? = some p := by rw [List.getElem?_eq_getElem hlt, hpe]
        rw [hpe] at y0 hpr
        have hpp := HPL.out p (List.mem_of_getElem? hp?)
        have hn5 := nT_le times i
        obtain ⟨N, hN⟩ : ∃ N, nT times i = N := ⟨_, rfl⟩
        have HNN := Lib.hid hN
        rw [hN] at hn5
        have htk : ps.take (i + 1) = ps.take i ++ [p] := by rw [List.take_add_one, hp?]; rfl
        have HNEXT := Lib.hid (show ∀ wl : List Int, (∀ t, wl.getD t 0 = base.getD t 0 + dotF (nT times) t (ps.take i) 0 + (N : Int) * p.getD t 0) → ∀ t, wl.getD t 0 = base.getD t 0 + dotF (nT times) t (ps.take (i + 1)) 0 from fun wl h t => by
          rw [h t, htk, dotF_snoc, List.length_take, Nat.min_eq_left hi, Nat.zero_add, hN]
          omega)
        have HSMALL := Lib.hid (show ∀ (wl : List Int) (q : Nat), q < N → rightB wl = true → wl.length ≤ 4 → (∀ t, wl.getD t 0 = base.getD t 0 + dotF (nT times) t (ps.take i) 0 + (q : Int) * p.getD t 0) → (addB wl p).2 = true ∧ rightB (addB wl p).1 = true ∧ (addB wl p).1.length ≤ 4 ∧ ∀ t, (addB wl p).1.getD t 0 = base.getD t 0 + dotF (nT times) t (ps.take i) 0 + ((q + 1 : Nat) : Int) * p.getD t 0 from fun wl q hq h1 h2 h3 => by
          have ha : (addB wl p).2 = true := addB_small h1 hpp.1 (fun t => by
            have h4 := HBT.out t
            have h5 := dotF_le (nT_le times) (t := t) (ps := ps.take i) (i := 0) (fun q hq => ⟨(right_getD (HPL.out q (List.mem_of_mem_take hq)).1 t).1, (HPL.out q (List.mem_of_mem_take hq)).2.2 t⟩)
            rw [List.length_take] at h5
            have h6 := hpp.2.2 t
            have h7 := (right_getD hpp.1 t).1
            have h8 : (q : Int) * p.getD t 0 ≤ 5 * 20 := Int.mul_le_mul (by omega) h6 h7 (by decide)
            have h9 := h3 t
            have h10 : min i ps.length ≤ 8 := by omega
            unfold far
            omega)
          refine ⟨ha, addB_right ha, by rw [addB_len ha]; have := hpp.2.1; omega, fun t => ?_⟩
          rw [addB_getD ha, h3 t, show ((q + 1 : Nat) : Int) = (q : Int) + 1 by omega, Int.add_mul]
          omega)
        have HPP := Lib.hid (show Rd intT w2 All Ap cp p from by
          obtain ⟨ad8, Ap', cp', e8, y8, h8⟩ := H1.out.row hlt
          injection e8 with e8
          subst e8
          have h9 := cell_keep y8 (hbW.block (World.block_lt_of_cell? _ _ y8))
          rw [hpe] at h9 h8
          rw [y0] at h9
          injection h9 with h9
          injection h9 with e1 _ e3
          subst e1 e3
          exact h8)
        have HWL := Lib.hid hwl
        clear hpe hp? hpr hpp htk hwl hN
        by_cases hti : i < times.length
        · obtain ⟨adt, rfl, hct⟩ := (HTW2.out.to hbW).int hti
          obtain ⟨x, hx⟩ : ∃ x, times[i] = x := ⟨_, rfl⟩
          rw [hx] at hct
          have hwx := withinI_range (v := x) (n := 6) (by decide)
          have hWN : withinI x 6 = (N : Int) := by
            rw [← HNN.out]
            unfold nT
            rw [if_pos hti, List.getD_eq_getElem?_getD, List.getElem?_eq_getElem hti, Option.getD_some, hx]
            omega
          have HWN := Lib.hid hWN
          clear hx hwx hWN
          go_wp2_with fail
          refine (within_c x 6 _ (by decide)).mono ?_
          rw [HWN.out]
          rintro e wB ⟨rfl, rfl⟩
          go_wp2
          go_loopw [9, 13] (fun v9 v13 wr => ∃ (q : Nat) (W3 : World) (Aw : Option Addr) (cw : Nat) (wl : List Int), W3 = wr ∧ q ≤ N ∧ v13 = .int .i64 q ∧ v9 = .slice Aw wl.length cw ∧ Rd intT W3 All Aw cw wl ∧ Hid (rightB wl = true) ∧ Hid (wl.length ≤ 4) ∧ Hid (∀ t, wl.getD t 0 = base.getD t 0 + dotF (nT times) t (ps.take i) 0 + (q : Int) * p.getD t 0) ∧ Bel w2 W3) (fun _ v13 _ => N - (intOf v13).toNat)
          case atStart => exact ⟨0, _, Aw, cw, wl, rfl, Nat.zero_le _, rfl, rfl, HWL.out, HRW.out, HLW.out, (fun t => by rw [HFW.out t]; simp : ∀ t, wl.getD t 0 = base.getD t 0 + dotF (nT times) t (ps.take i) 0 + ((0 : Nat) : Int) * p.getD t 0), hbW⟩
          case round =>
            clear hbW
            obtain ⟨q, W3, Aw, cw, wl, rfl, hq, rfl, rfl, hwl, HRW, HLW, HFW, hbW⟩ := hrel
            by_cases hqN : q < N
            · have hsm := HSMALL.out wl q hqN HRW.out HLW.out HFW.out
              obtain ⟨a1, a2, a3, a4⟩ := hsm
              have Q := refAddBag_c _ _ Aw Ap cw cp wl p W3 hwl (HPP.out.to hbW) _ _ rfl rfl
              obtain ⟨y, hy⟩ : ∃ y, (addB wl p).1 = y := ⟨_, rfl⟩
              rw [a1, hy] at Q
              rw [hy] at a2 a3 a4
              have HQ := Lib.hid Q
              have A2 := Lib.hid a2
              have A3 := Lib.hid a3
              have A4 := Lib.hid a4
              clear Q a1 a2 a3 a4 hy
              go_wp2_with fail
              refine HQ.out.mono ?_
              rintro e w9 ⟨v9, rfl, ho9, hb9⟩
              obtain ⟨A9, c9, rfl, hr9⟩ := ho9.rdAll
              have hbW9 := hbW.trans hb9
              clear ho9 hb9 HQ
              go_wp2
              go_roundw
              case rel => exact ⟨q + 1, _, A9, c9, y, rfl, by omega, by go_num, rfl, hr9, A2.out, A3.out, A4.out, hbW9⟩
              case measure => simp [intOf]; omega
            · obtain rfl : q = N := by omega
              have HF2 := Lib.hid (HNEXT.out wl HFW.out)
              go_wp2
              go_roundw
              case rel => exact ⟨i + 1, _, Aw, cw, wl, rfl, by omega, by go_num, rfl, hwl, HRW.out, HLW.out, HF2.out, hbW⟩
              case measure => simp [intOf]; omega
        · have hN0 : N = 0 := by
            rw [← HNN.out]
            unfold nT
            rw [if_neg hti]
          subst hN0
          have HF2 := Lib.hid (HNEXT.out wl (fun t => by rw [HFW.out t]; simp))
          clear HSMALL HNEXT HNN
          go_wp2
          go_loopw [9, 13] (fun v9 v13 wr => ∃ W3 : World, W3 = wr ∧ v13 = .int .i64 0 ∧ v9 = .slice Aw wl.length cw ∧ W = W3) (fun _ _ _ => 0)
          case atStart => exact ⟨_, rfl, rfl, rfl, rfl⟩
          case round =>
            obtain ⟨W3, rfl, rfl, rfl, rfl⟩ := hrel
            go_wp2
            go_roundw
            case rel => exact ⟨i + 1, _, Aw, cw, wl, rfl, by omega, by go_num, rfl, HWL.out, HRW.out, HLW.out, HF2.out, hbW⟩
            case measure => simp [intOf]; omega
      · obtain rfl : i = ps.length := by omega
        rw [List.take_length] at HFW
        have HRD := Lib.hid (read_start HSP.out hjs (w := wl) (f := nT times) (by rw [HGD.out]; exact HFW.out))
        have Q := autoStart_c _ _ cs s W (HSW.out.to hbW) _ rfl (by omega)
        obtain ⟨xs0, hxs0⟩ : ∃ xs0, startS s = xs0 := ⟨_, rfl⟩
        rw [hxs0] at Q HRD HBX
        have HQ := Lib.hid Q
        clear Q hxs0
        go_wp2_with fail
        refine HQ.out.mono ?_
        rintro e w5 ⟨v, rfl, ⟨Ax, cx, rfl, hrx⟩, hb5⟩
        have HWL := Lib.hid (hwl.to hb5)
        have HS5 := Lib.hid ((HSW.out.to (hbW.trans hb5)))
        have HB5 := Lib.hid ((HB2.out.trans hbW).trans hb5)
        have HX5 := Lib.hid hrx.all
        clear hwl hrx hbW hb5 HQ
        go_wp2
        go_loopw [14, 15] (fun v14 v15 wr => ∃ (d : Nat) (W : World) (Ax : Option Addr) (cx : Nat) (xs : List Itm), W = wr ∧ d ≤ 12 ∧ v15 = .int .i64 d ∧ v14 = .slice Ax xs.length cx ∧ Rd itemT W All Ax cx xs ∧ Hid (BoxI s xs) ∧ Hid (ReadTo s j wl (nT times) d xs) ∧ Bel w5 W) (fun _ v15 _ => 12 - (intOf v15).toNat)
        case atStart => exact ⟨0, _, Ax, cx, xs0, rfl, by omega, rfl, rfl, HX5.out, HBX.out, HRD.out, Bel.refl _⟩
        case round =>
          clear HX5 HRD
          obtain ⟨d, W, Ax, cx, xs, rfl, hd, rfl, rfl, hx, HBOX, HREAD, hbW⟩ := hrel
          by_cases hd12 : d < 12
          · have hlr : 0 ≤ lettI wl (d : Int) ∧ lettI wl (d : Int) ≤ 18446744073709551615 := by
              rw [lettI_in HRW.out (by omega), letS_at4 d HLW.out]
              have := letS_range wl d 4
              omega
            obtain ⟨xs', he, hbox', hm'⟩ := next_none HSP.out HBOX.out (lettI wl (d : Int))
            have HREAD' := Lib.hid (read_step HSP.out HBOX.out hjs HRW.out HLW.out (by omega) HREAD.out hm')
            obtain ⟨lt, hlt9⟩ : ∃ lt, lettI wl (d : Int) = lt := ⟨_, rfl⟩
            rw [hlt9] at hlr he
            have HLT := Lib.hid hlt9
            have HE := Lib.hid he
            have HBOX' := Lib.hid hbox'
            have Q0 := letter_c _ Aw cw wl W (HWL.out.to hbW) (d : Int) _ rfl
            rw [hlt9] at Q0
            have HQ0 := Lib.hid Q0
            have HQ1 := Lib.hid (autoNextN_c _ _ _ Ax cs cx s xs lt W (HS5.out.to hbW) hx _ _ rfl rfl HSP.out HBOX.out hlr xs' HE.out)
            clear he hbox' hm' hlt9 hx Q0
            go_wp2_with fail
            refine HQ0.out.mono ?_
            rintro e w6 ⟨rfl, rfl⟩
            go_wp2_with fail
            refine HQ1.out.mono ?_
            rintro e w6 ⟨v, rfl, ⟨An, cn, rfl, hrn⟩, hb6⟩
            have hb56 := hbW.trans hb6
            have HWL6 := Lib.hid (HWL.out.to hb56)
            have HN6 := Lib.hid hrn.all
            clear hrn hb6 HQ0 HQ1
            go_wp2
            go_loopw [18, 91] (fun v18 v91 wr => ∃ (i : Nat) (W7 : World) (D : Bool), W7 = wr ∧ i ≤ wl.length ∧ v91 = .int .i64 i ∧ v18 = .bool D ∧ Hid (D = true → ∀ t, t < i → wl.getD t 0 / 2 ^ (d + 1) = 0) ∧ w6 = W7) (fun _ v91 _ => wl.length - (intOf v91).toNat)
            case atStart => exact ⟨0, _, true, rfl, Nat.zero_le _, rfl, rfl, (fun _ t h => absurd h (by omega) : true = true → ∀ t, t < 0 → wl.getD t 0 / 2 ^ (d + 1) = 0), rfl⟩
            case round =>
              obtain ⟨i, W7, D, rfl, hi, rfl, rfl, HD, rfl⟩ := hrel
              have hlw4 := HLW.out
              by_cases hil : i < wl.length
              · obtain ⟨adw, rfl, hcw⟩ := HWL6.out.int hil
                obtain ⟨x, hx⟩ : ∃ x, wl[i] = x := ⟨_, rfl⟩
                rw [hx] at hcw
                have HX := Lib.hid (show wl.getD i 0 = x by rw [List.getD_eq_getElem?_getD, List.getElem?_eq_getElem hil, Option.getD_some, hx])
                clear hx
                cases D with
                | false =>
                  go_wp2
                  go_roundw
                  case rel => exact ⟨i + 1, _, false, rfl, by omega, by go_num, rfl, (fun h => absurd h (by decide) : false = true → ∀ t, t < i + 1 → wl.getD t 0 / 2 ^ (d + 1) = 0), rfl⟩
                  case measure => simp [intOf]; omega
                | true =>
                  by_cases hzz : x / 2 ^ (d + 1) = 0
                  · have hbt : (x / 2 ^ (d + 1) == 0) = true := by rw [hzz]; rfl
                    have HD2 := Lib.hid (show true = true → ∀ t, t < i + 1 → wl.getD t 0 / 2 ^ (d + 1) = 0 from fun h t ht => by
                      by_cases e : t = i
                      · subst e; rw [HX.out]; exact hzz
                      · exact HD.out h t (by omega))
                    clear hzz
                    go_wp2
                    go_roundw
                    case rel => exact ⟨i + 1, _, true, rfl, by omega, by go_num, rfl, HD2.out, rfl⟩
                    case measure => simp [intOf]; omega
                  · have hbt : (x / 2 ^ (d + 1) == 0) = false := beq_eq_false_iff_ne.2 hzz
                    clear hzz
                    go_wp2
                    go_roundw
                    case rel => exact ⟨i + 1, _, false, rfl, by omega, by go_num, rfl, (fun h => absurd h (by decide) : false = true → ∀ t, t < i + 1 → wl.getD t 0 / 2 ^ (d + 1) = 0), rfl⟩
                    case measure => simp [intOf]; omega
              · obtain rfl : i = wl.length := by omega
                cases D with
                | false =>
                  go_wp2
                  go_roundw
                  case rel => exact ⟨d + 1, _, An, cn, xs', rfl, by omega, by go_num, rfl, HN6.out, HBOX'.out, HREAD'.out, hb56⟩
                  case measure => simp [intOf]; omega
                | true =>
                  have Q := final_c _ An cn xs' w6 HN6.out _ rfl
                  rw [read_done HSP.out HBOX'.out hjs HREAD'.out (fun t => by
                    by_cases ht : t < wl.length
                    · exact HD.out rfl t ht
                    · rw [List.getD_eq_getElem?_getD, List.getElem?_eq_none (by omega)]
                      exact Int.zero_ediv _)] at Q
                  have HQ := Lib.hid Q
                  clear Q
                  go_wp2_with fail
                  refine HQ.out.mono ?_
                  rintro e w8 ⟨rfl, hb8⟩
                  go_wp2
                  go_roundw
                  case rel => exact ⟨d + 1, _, An, cn, xs', rfl, by omega, by go_num, rfl, HN6.out.to hb8, HBOX'.out, HREAD'.out, hb56.trans hb8⟩
                  case measure => simp [intOf]; omega
          · obtain rfl : d = 12 := by omega
            go_wp2_with fail
            refine (wakes09 _).mono ?_
            rintro e w9 ⟨rfl, hb9⟩
            go_wp2
            go_ret
            exact ⟨rfl, (HB5.out.trans hbW).trans hb9⟩
end Go.Proofs.Ytbfbhacdllhddaa
namespace Go.Proofs.Ytbfbhacdllhddaa.rowAutoReads
open Go.ChangeShapes Go.WideShapes Go.ChangeAt Go.RowKit Go.Cb
open Go.ChangeMaps (open_string shut_string)
theorem own : ownKnob Try.prog.godebug = none := by kernel_rfl
theorem laidOut : laidOutB Try.prog = true := by kernel_rfl
set_option maxRecDepth 100000 in
theorem lifted (os : Os) (started : os.Started) (H : Type) (enc : TypeId × Value → H) :
    ReturnsInHanded {} Try.checked os 4 .any (Rows.autoReadsSpec.pre6 enc Try.prog Try.f4 Rows.autoReadsRow.domain false) (Rows.autoReadsSpec.post enc Try.prog Try.f4 false true false false) := by
  refine returnsInHanded_of_change_sized (C := Try.checked) own started (by kernel_rfl) Try.func4
    (ChangeSpec.witness6 (enc := enc) (C := Try.checked) false ⟨#[], #[.slice none 0 0, .int .i64 0, .slice none 0 0], []⟩ 8 (by kernel_rfl) (by kernel_rfl) (by kernel_rfl) (by kernel_rfl)) ?_
  intro W base args ds gs before hval0 hW hcnd hsz0 _
  have hsz : (DataW.weightsEach Try.prog (Try.f4.params.toList ++ Rows.autoReadsSpec.plain.varTypes Try.prog) (ds ++ gs)).all (· ≤ reachBytes) = true := hsz0
  have hval : ∀ (j : Nat) t v, Try.f4.params[j]? = some t → args[j]? = some v → Value.okWide Try.prog W .any base t v := hval0
  have hW' := hW
  obtain ⟨p, q, hA0, hV, rfl, hfz, hnd⟩ := hW
  have hA : DataW.TrodAll enc Try.prog W 0 (fun _ => true) true Try.f4.params.toList args.toList ds p := hA0
  rw [Try.params4] at hA hval hsz
  obtain ⟨v0, vs0, d0, ds0, p0, q0, hargs, rfl, rfl, h0, r0⟩ := trodAll_cons hA
  obtain ⟨v1, vs1, d1, ds1, p1, q1, rfl, rfl, rfl, h1, r1⟩ := trodAll_cons r0
  obtain ⟨v2, vs2, d2, ds2, p2, q2, rfl, rfl, rfl, h2, r2⟩ := trodAll_cons r1
  obtain ⟨rfl, rfl, rfl⟩ := trodAll_nil r2
  obtain rfl : args = #[v0, v1, v2] := by cases args; simp_all
  obtain ⟨rfl, rfl⟩ := trodVars_none hV
  obtain ⟨a0, len0, cap0, rfl⟩ := okWide_slice Try.underlying22 (hval 0 22 v0 rfl rfl)
  have k0 := h0
  have lt0 : ∀ x ∈ p0, x.block < W.heap.size := by obtain ⟨m, hm⟩ := k0; exact DataW.trod_lt m _ _ _ hm
  obtain ⟨l0, rfl, R0, wf0, sz0⟩ := open_rd hsz (j := 0) (t := 22) rfl rfl Try.underlying22 Try.underlying3 (by kernel_rfl) (by kernel_rfl) h0
  obtain ⟨a1, rfl, rfl, rfl, w1⟩ := open_int Try.underlying3 (hval 1 3 v1 rfl rfl) h1
  obtain ⟨a2, len2, cap2, rfl⟩ := okWide_slice Try.underlying22 (hval 2 22 v2 rfl rfl)
  have k2 := h2
  have lt2 : ∀ x ∈ p2, x.block < W.heap.size := by obtain ⟨m, hm⟩ := k2; exact DataW.trod_lt m _ _ _ hm
  obtain ⟨l2, rfl, R2, wf2, sz2⟩ := open_rd hsz (j := 2) (t := 22) rfl rfl Try.underlying22 Try.underlying3 (by kernel_rfl) (by kernel_rfl) h2
  clear hA0 hval0 hsz0 hsz
  refine (AutoReads_walk W a0 cap0 l0 R0 (fun x hx => inI64_wf (wf0 x hx)) sz0 a1 (inI64_wf w1) a2 cap2 l2 R2 (fun x hx => inI64_wf (wf2 x hx)) sz2).mono fun e W' ⟨he, bel⟩ => ?_
  subst he
  exact ⟨_, rfl, _, _, _, [], _, [], hW', trodAll_mk1 (shut_bool Try.underlying4 _), (trodAll_cons_mk (Below.trod laidOut (by kernel_rfl) (of_decide_eq_true (by kernel_rfl)) k0 bel.out lt0) (trodAll_cons_mk (shut_int Try.underlying3 w1) (trodAll_cons_mk (Below.trod laidOut (by kernel_rfl) (of_decide_eq_true (by kernel_rfl)) k2 bel.out lt2) trodAll_mk0))), rfl, bel.out.frame _, fun h => by cases h⟩
theorem over : Rows.autoReadsRow.holds Try.pinned (OpenSpec.ofChange Rows.autoReadsSpec) :=
  OpenClaim.holds_of_wide 4 Try.f4 rfl rfl rfl rfl rfl rfl rfl ⟨rfl, rfl, rfl, rfl, rfl⟩ rfl rfl rfl rfl rfl (by kernel_rfl) Try.func4 (by kernel_rfl)
    (of_decide_eq_true (by kernel_rfl)) (by unfold Func.isWrapper; first | (rw [if_pos (by decide +kernel)]; kernel_rfl) | (rw [if_neg (by decide +kernel)]; exact ⟨rfl, rfl⟩))
    (fun os started H enc _ => lifted os started H enc)
end Go.Proofs.Ytbfbhacdllhddaa.rowAutoReads
namespace Go.Proofs.Ytbfbhacdllhddaa
theorem AutoReads_holds : Rows.AutoReadsSaid := rowAutoReads.over
#print axioms AutoReads_holds
end Go.Proofs.Ytbfbhacdllhddaa
