/- ResidTells: of any set, any tag, by any budget: what is left when one has come, and what that spent, or why not; do any tags cover it, and if not, what is not covered. -/
import Derived.Test.YtbfbhacdllhddaaGreatResid5
import Derived.Test.YtbfbhacdllhddaaGreatPureW
import Derived.Test.YtbfbhacdllhddaaGreatRaw7
set_option linter.unusedVariables false
set_option linter.unusedSimpArgs false
set_option linter.all false
namespace Go.Cb
/-- A tag, as the statement takes it. -/
def fixT (t : Int) : Int := if t.tmod 5 = 0 then t else withinI t 4
theorem fixT_set {ts : List Int} {q : Nat} {z : Int} (h : q < ts.length) (hz : ts[q] = z) : ((ts.take q).map fixT ++ ts.drop q).set q (fixT z) = (ts.take (q + 1)).map fixT ++ ts.drop (q + 1) := by
  rw [List.set_append_right _ _ (by rw [List.length_map, List.length_take]; omega), List.length_map, List.length_take, Nat.min_eq_left (by omega), Nat.sub_self, List.drop_eq_getElem_cons h, List.set_cons_zero, List.take_add_one, List.getElem?_eq_getElem h, hz]
  simp
theorem fixT_at {ts : List Int} {q : Nat} {z : Int} (h : q < ts.length) (hz : ts[q] = z) (hp : q < ((ts.take q).map fixT ++ ts.drop q).length) : ((ts.take q).map fixT ++ ts.drop q)[q] = z := by
  have h9 : ((ts.take q).map fixT ++ ts.drop q)[q]? = some z := by
    rw [List.getElem?_append_right (by rw [List.length_map, List.length_take]; omega), List.length_map, List.length_take, Nat.min_eq_left (by omega), Nat.sub_self, List.getElem?_drop, Nat.add_zero, List.getElem?_eq_getElem h, hz]
  rw [List.getElem?_eq_getElem hp] at h9
  exact Option.some.inj h9
theorem leftF_bud (x : Lin) (tag B : Int) : ∀ (r : List (List Int)) (S : Int) (o : Bool) (acc : List Lin), S ≤ B → ∃ S' o', (leftF x tag r (some (B, S, o)) acc).1 = some (B, S', o') ∧ S ≤ S' ∧ S' ≤ B
  | [], S, o, acc, h => ⟨S, o, rfl, Int.le_refl _, h⟩
  | p :: r, S, o, acc, h => by
    have h1 := spendS_range o 1 h
    rw [leftF]
    split
    · split
      · split
        · obtain ⟨S', o', e, l1, l2⟩ := leftF_bud x tag B r (spendS B S o 1) (spendO B S o 1) (acc ++ [(lessF x tag p).1]) h1.2
          exact ⟨S', o', e, by omega, l2⟩
        · exact ⟨_, _, rfl, h1.1, h1.2⟩
      · exact ⟨_, _, rfl, h1.1, h1.2⟩
    · exact leftF_bud x tag B r S o acc h
theorem leftS_bud (x : Lin) (tag B S : Int) (o : Bool) (acc : List Lin) (h : S ≤ B) : ∃ S' o', (leftS x tag (some (B, S, o)) acc).1 = some (B, S', o') ∧ S ≤ S' ∧ S' ≤ B := by
  have h1 := spendS_range o 1 h
  unfold leftS
  split
  · split
    · exact ⟨_, _, rfl, h1.1, h1.2⟩
    · obtain ⟨S', o', e, l1, l2⟩ := leftF_bud x tag B x.2 (spendS B S o 1) (spendO B S o 1) acc h1.2
      exact ⟨S', o', e, by omega, l2⟩
  · exact ⟨_, _, rfl, h1.1, h1.2⟩
theorem byF_bud (tag B : Int) : ∀ (s : SemS) (S : Int) (o : Bool) (acc : List Lin), S ≤ B → ∃ S' o', (byF tag s (some (B, S, o)) acc).1 = some (B, S', o') ∧ S ≤ S' ∧ S' ≤ B
  | [], S, o, acc, h => ⟨S, o, rfl, Int.le_refl _, h⟩
  | x :: r, S, o, acc, h => by
    obtain ⟨S1, o1, e1, l1, l2⟩ := leftS_bud x tag B S o acc h
    rw [byF]
    split
    · rw [e1]
      obtain ⟨S', o', e, l3, l4⟩ := byF_bud tag B r S1 o1 _ l2
      exact ⟨S', o', e, by omega, l4⟩
    · exact ⟨S1, o1, e1, l1, l2⟩
theorem byS_bud (B S : Int) (o : Bool) (h : S ≤ B) (s : SemS) (tag : Int) : ∃ S' o', (byS (some (B, S, o)) s tag).1 = some (B, S', o') ∧ S ≤ S' ∧ S' ≤ B := by
  unfold byS
  split
  · split
    · exact byF_bud tag B s S o [] h
    · exact byF_bud tag B s S o [] h
  · exact ⟨S, o, rfl, Int.le_refl _, h⟩
end Go.Cb
namespace Go.Proofs.YtbfbhacdllhddaaGreat
open Go.RowKit Go.Cb Go.Sort
theorem fixT_id {ts : List Int} {q : Nat} {z : Int} {w : World} {b g c : Nat} (h : q < ts.length) (hc : w.cell? ⟨g, q, none⟩ = some (.int .i64 z)) (hO : Own intT 3 w b (Ge b) (.slice (some ⟨g, 0, none⟩) ts.length c) ((ts.take q).map fixT ++ ts.drop q)) :
    ((ts.take q).map fixT ++ ts.drop q).set q z = (ts.take q).map fixT ++ ts.drop q := by
  have hll : ((ts.take q).map fixT ++ ts.drop q).length = ts.length := by simp; omega
  obtain ⟨hc1, _⟩ := hO.cell (i := q) (by omega)
  rw [hc] at hc1
  injection hc1 with hc1
  injection hc1 with _ hc1
  apply List.ext_getElem
  · rw [List.length_set]
  · intro i h1 h2
    rw [List.getElem_set]
    split
    · rename_i e; subst e; exact hc1
    · rfl
set_option maxHeartbeats 64000000 in
set_option maxRecDepth 100000 in
theorem ResidTells_walk (w : World) (A : Option Addr) (ca : Nat) (raw : SemS) (hraw : Rd raw11T w All A ca raw) (_ : ∀ r ∈ raw, (∀ n ∈ r.1, inI64 n) ∧ ∀ l ∈ r.2, ∀ n ∈ l, inI64 n)
    (C : Option Addr) (cc : Nat) (l : List Int) (hl : Rd intT w All C cc l) (il : ∀ x ∈ l, inI64 x) (_ : l.length * 8 ≤ 140737488351232) (tag : Int) (_ : inI64 tag) (budget : Int) (_ : inI64 budget) (how : Int) (ihow : inI64 how) (free : Bool)
    (G : Option Addr) (cg : Nat) (tags0 : List Int) (hgt : Rd intT w All G cg tags0) (_ : ∀ x ∈ tags0, inI64 x) (_ : tags0.length * 8 ≤ 140737488351232) :
    Calls Tryz.prog 5 #[.slice A raw.length ca, .slice C l.length cc, .int .i64 tag, .int .i64 budget, .int .i64 how, .bool free, .slice G tags0.length cg] w fun e w' => e = .returned (.bool true) ∧ Bel w w' := by
  obtain ⟨hx6, px⟩ := ofRaw_per raw l how 3 4 5 3 (by decide) (by decide)
  obtain ⟨x, hx⟩ : ∃ x, ofRaw raw l how 3 4 5 3 = x := ⟨_, rfl⟩
  have Hx := Lib.hid hx
  rw [hx] at hx6 px
  have PX := Lib.hid px
  have hr := withinI_range (v := budget) (n := 20) (by decide)
  obtain ⟨B, hB⟩ : ∃ B, withinI budget 20 = B := ⟨_, rfl⟩
  have HBd := Lib.hid hB
  rw [hB] at hr
  have HBr := Lib.hid hr
  obtain ⟨ts, hts⟩ : ∃ ts, tags0.take 5 = ts := ⟨_, rfl⟩
  have HTE := Lib.hid hts
  have hts5 : ts.length ≤ 5 := by rw [← hts, List.length_take]; omega
  clear hx hB hr px hts
  by_cases h0 : tag.tmod 4 = 0
  · have e0 : (tag.tmod 4 != 0) = false := by simp [h0]
    clear h0
    obtain ⟨tt, htt⟩ : ∃ tt, tt = tag := ⟨_, rfl⟩
    subst htt
    go_enter Tryz.func5, Tryz.ntmps5
    have Q := oflaw11_c _ _ A C ca cc raw l how w hraw hl il ihow
    rw [Hx.out] at Q
    have HQ := Lib.hid Q
    clear Q
    go_wp2_with fail
    refine HQ.out.mono ?_
    rintro e w1 ⟨v, rfl, r, hb⟩
    obtain ⟨Ax, cx, rfl, hr⟩ := r.rd
    clear HQ
    have hr0 := hr.bound
    have HS0 := Lib.hid (fun W (h : Bel w1 W) => (hr0.to h))
    have HW := Lib.hid hb
    clear hr hr0 hb
    have hBr := HBr.out
    go_wp2_with fail
    refine (within_c budget 20 _ (by decide)).mono ?_
    rw [HBd.out]
    rintro e wB ⟨rfl, rfl⟩
    go_wp2_with fail
    refine (newMeter_s1 B _ (by omega)).mono ?_
    rintro e wm ⟨g, rfl, hg, HM, hb⟩
    have HBN := hb
    clear hb
    go_wp2_with fail
    refine (within_c budget 20 _ (by decide)).mono ?_
    rw [HBd.out]
    rintro e wB ⟨rfl, rfl⟩
    go_wp2_with fail
    refine (newMeter_s2 B _ (by omega)).mono ?_
    rintro e W0 ⟨g2, rfl, hg2, HR, hb⟩
    have hgl := HM.lt
    have hne : g ≠ g2 := by omega
    replace HM := HM.to hb
    replace HBN := HBN.trans hb
    have hNg : w1.heap.size ≤ g := by omega
    have hNg2 : w1.heap.size ≤ g2 := by omega
    rw [show max B 0 = B by omega] at HM HR
    clear hb hg hg2 hgl
    have hB9 : B ≤ 9223372036854775807 := by omega
    have hB0 : 0 ≤ B := by omega
    obtain ⟨s1, o1, f0, l0, l1⟩ := byS_bud B 0 false hB0 x tt
    obtain ⟨a, ha⟩ : ∃ a, (byS (some (B, 0, false)) x tt).2.1 = a := ⟨_, rfl⟩
    obtain ⟨ec, hec⟩ : ∃ e, (byS (some (B, 0, false)) x tt).2.2 = e := ⟨_, rfl⟩
    have E0 := Lib.hid (show byS (some (B, 0, false)) x tt = (some (B, s1, o1), a, ec) by rw [← f0, ← ha, ← hec])
    clear f0 ha hec
    have HMK := Lib.hid HM
    have HRK := Lib.hid HR
    have hgs1 := HM.lt
    have hrs1 := HR.lt
    have Q := residBy_c (.pointer (some ⟨g, 0, none⟩)) (some g) (some (B, 0, false)) _ Ax cx x tt W0 (MetO.of1 HM (Int.le_refl _) hB0 hB9) (HS0.out _ HBN) (fun j hj e => by injection e with e; have := hj.2; omega) _ rfl (by omega) (fun v hv => Nat.le_trans (PX.out v hv) (by decide))
    rw [E0.out] at Q
    dsimp only at Q
    have HQ := Lib.hid Q
    clear Q HM HR
    go_wp2_with fail
    refine HQ.out.mono ?_
    clear HQ
    rintro e wa ⟨v, rfl, r, hm, hg⟩
    obtain ⟨Aa, cA, rfl, hra⟩ := r.rd
    have HM := (hm.at1 rfl).1
    have HR := HRK.out.by_ hg (Ne.symm hne)
    have HBN := HBN.grown hg (fun j e => by injection e with e; omega)
    clear hm hg HMK HRK
    have HMK := Lib.hid HM
    have HRK := Lib.hid HR
    have hgs2 := HM.lt
    have hrs2 := HR.lt
    have Q := refBy_c (.pointer (some ⟨g2, 0, none⟩)) (some g2) (some (B, 0, false)) _ Ax cx x tt wa (MetO.of1 HR (Int.le_refl _) hB0 hB9) (HS0.out _ HBN) (fun j hj e => by injection e with e; have := hj.2; omega) _ rfl (by omega) (fun v hv => Nat.le_trans (PX.out v hv) (by decide))
    rw [E0.out] at Q
    dsimp only at Q
    have HQ := Lib.hid Q
    clear Q HM HR
    go_wp2_with fail
    refine HQ.out.mono ?_
    clear HQ
    rintro e wb ⟨v, rfl, r, hm, hg⟩
    obtain ⟨Ab, cB, rfl, hrb⟩ := r.rd
    have HR := (hm.at1 rfl).1
    have HM := HMK.out.by_ hg hne
    replace hra := (hra.bound.step' (fun j hj => hg.block j hj.2 (fun e => by injection e with e; have := hj.1; unfold Ge at this; omega))).all
    replace hrb := hrb.all
    have HBN := HBN.grown hg (fun j e => by injection e with e; omega)
    clear hm hg HMK HRK
    have HMW := Lib.hid (fun W (h : Bel wb W) => HM.to h)
    have HRW := Lib.hid (fun W (h : Bel wb W) => HR.to h)
    have HRA := Lib.hid (fun W (h : Bel wb W) => hra.to h)
    have HRB := Lib.hid (fun W (h : Bel wb W) => hrb.to h)
    have HSX := Lib.hid (fun W (h : Bel wb W) => (HS0.out _ (HBN.trans h)).all)
    have HBW := Lib.hid (HW.out.trans HBN)
    have HTG := Lib.hid (cutIntS_c _ G cg tags0 5 wb (hgt.to HBW.out) _ rfl (Nat.le_trans (Nat.mul_le_mul_right _ (List.length_take_le 5 tags0)) (by decide)) 5 rfl)
    clear HM HR hra hrb HBN HS0
    rw [HTE.out] at HTG
    go_wp2_with fail
    refine HTG.out.mono ?_
    rintro e wc ⟨v, rfl, hoc, hbc⟩
    obtain ⟨At, ct, rfl⟩ := hoc.form
    have HOC := Lib.hid hoc
    clear hoc HTG
    go_wp2
    go_loopw [62] (fun v62 wr => ∃ (q : Nat) (W : World), W = wr ∧ q ≤ ts.length ∧ v62 = .int .i64 q ∧ Own intT 3 W wb.heap.size (Ge wb.heap.size) (.slice At ts.length ct) ((ts.take q).map fixT ++ ts.drop q) ∧ Bel wb W) (fun v62 _ => ts.length - (intOf v62).toNat)
    case atStart => exact ⟨0, _, rfl, Nat.zero_le _, rfl, HOC.out, hbc⟩
    case round =>
      obtain ⟨q, W, rfl, hq, rfl, hO, hbq⟩ := hrel
      have hll : ((ts.take q).map fixT ++ ts.drop q).length = ts.length := by simp; omega
      by_cases hlt : q < ts.length
      · obtain ⟨gt, rfl, hg0, _⟩ := hO.addr (by omega)
        obtain ⟨hc1, hf1⟩ := hO.cell (i := q) (by omega)
        obtain ⟨z, hz⟩ : ∃ z, ts[q] = z := ⟨_, rfl⟩
        have hgx : ((ts.take q).map fixT ++ ts.drop q)[q]'(by omega) = z := fixT_at hlt hz (by omega)
        rw [hgx] at hc1
        have HST := Lib.hid (show ((ts.take q).map fixT ++ ts.drop q).set q (fixT z) = (ts.take (q + 1)).map fixT ++ ts.drop (q + 1) from fixT_set hlt hz)
        have HO := Lib.hid hO
        clear hz hgx hll hO
        by_cases h5 : z.tmod 5 = 0
        · have e5 : (z.tmod 5 != 0) = false := by simp [h5]
          have hz5 : fixT z = z := by unfold fixT; rw [if_pos h5]
          have HFX := Lib.hid (show Own intT 3 W wb.heap.size (Ge wb.heap.size) (.slice (some ⟨gt, 0, none⟩) ts.length ct) ((ts.take (q + 1)).map fixT ++ ts.drop (q + 1)) from by
            have h9 := HO.out
            rw [← HST.out, hz5, fixT_id hlt hc1 h9]
            exact h9)
          clear h5 hz5
          go_wp2
          go_roundw
          case rel => exact ⟨q + 1, _, rfl, by omega, by go_num, HFX.out, hbq⟩
          case measure => simp [intOf]; omega
        · have e5 : (z.tmod 5 != 0) = true := by simp [h5]
          have HZ5 := Lib.hid (show fixT z = withinI z 4 by unfold fixT; rw [if_neg h5])
          clear h5
          go_wp2_with fail
          refine (within_c z 4 _ (by decide)).mono ?_
          rintro e wB ⟨rfl, rfl⟩
          go_wp2
          go_roundw
          case rel => exact ⟨q + 1, _, rfl, by omega, by go_num, by rw [← HST.out, HZ5.out]; exact HO.out.set q _, hbq.set hg0 _⟩
          case measure => simp [intOf]; omega
      · obtain rfl : q = ts.length := by omega
        rw [List.take_length, List.drop_length, List.append_nil] at hO
        obtain ⟨tl, htl⟩ : ∃ tl, ts.map fixT = tl := ⟨_, rfl⟩
        have htll : tl.length = ts.length := by rw [← htl, List.length_map]
        rw [htl] at hO
        obtain ⟨AZ, cZ, eZ, rZ⟩ := hO.rdAll
        injection eZ with z1 z2 z3
        clear z2
        subst z1 z3
        have HTR := Lib.hid rZ
        obtain ⟨R, wc2, hcv⟩ : ∃ a b, coverS x free tl = (a, b) := ⟨_, _, rfl⟩
        have Q1 := residCover_c _ _ Ax At cx ct x free tl W (HSX.out _ hbq) rZ _ ts.length rfl htll.symm
        rw [hcv] at Q1
        dsimp only at Q1
        have HCV := Lib.hid hcv
        have HQ1 := Lib.hid Q1
        have HLL := Lib.hid htll
        clear Q1 hcv hO rZ htl htll hlt
        go_wp2_with fail
        refine HQ1.out.mono ?_
        rintro e wd ⟨v, rfl, ⟨Aw, cw, rfl, hrw⟩, hbd⟩
        have Q2 := refCover_c _ _ Ax At cx ct x free tl wd (HSX.out _ (hbq.trans hbd)) (HTR.out.to hbd) _ ts.length rfl HLL.out.symm
        rw [HCV.out] at Q2
        dsimp only at Q2
        have HQ2 := Lib.hid Q2
        clear Q2 HQ1
        go_wp2_with fail
        refine HQ2.out.mono ?_
        rintro e we ⟨v, rfl, ⟨Av, cv, rfl, hrv⟩, hbe⟩
        have hbf := hbq.trans (hbd.trans hbe)
        have HRW1 := Lib.hid (hrw.to hbe)
        have HRV1 := Lib.hid hrv
        obtain ⟨q0, q1, q2, _⟩ := (HRW.out _ hbf).cells
        have HMF := Lib.hid (HMW.out _ hbf)
        have K1 := Lib.hid (show ∀ W', Bel we W' → Calls Tryz.prog 21 #[.slice Aa a.length cA, .slice Ab a.length cB] W' fun e w' => e = .returned (.bool true) ∧ Bel W' w' from fun W' h => by
          have := sameSem_c _ _ Aa Ab cA cB a a W' (HRA.out _ (hbf.trans h)) (HRB.out _ (hbf.trans h)) _ _ rfl rfl
          rwa [decide_eq_true (show a = a from rfl)] at this)
        have K2 := Lib.hid (show ∀ W', Bel we W' → Calls Tryz.prog 34 #[.pointer (some ⟨g, 0, none⟩)] W' fun e w' => e = .returned (.int .i64 s1) ∧ Bel W' w' from fun W' h => (spent_s1 g B s1 o1 W' (HMF.out.to h)).mono fun e w' ⟨a, b⟩ => ⟨a, by subst b; exact Bel.refl _⟩)
        have K3 := Lib.hid (show ∀ W', Bel we W' → Calls Tryz.prog 16 #[.slice Aw wc2.length cw, .slice Av wc2.length cv] W' fun e w' => e = .returned (.bool true) ∧ Bel W' w' from fun W' h => by
          have := sameInt_c _ _ Aw Av cw cv wc2 wc2 W' (HRW1.out.to h) (HRV1.out.to h) _ _ rfl rfl
          rwa [decide_eq_true (show wc2 = wc2 from rfl)] at this)
        have K4 := Lib.hid (show ∀ W', Bel we W' → Calls Tryz.prog 35 #[] W' fun e w' => e = .returned (.bool true) ∧ Bel W' w' from fun W' _ => wakes11 W')
        have Q1 := cellReg q1
        have HBF := Lib.hid (HBW.out.trans hbf)
        have hso : ∀ b : Bool, (b == b) = true := fun b => by cases b <;> rfl
        have hRR := hso R
        clear q0 q1 q2 hso hrw hrv hbd hbe hbf hbq HQ2
        go_wp2_with fail
        refine wp_region_quiet_below (by kernel_rfl) (by kernel_rfl) ?_
        repeat (go_big_quiet_step (first | with_reducible exact callsReg K1.out | with_reducible exact callsReg K2.out | with_reducible exact callsReg K3.out | with_reducible exact callsReg K4.out))
        refine wpQuiet_nil ?_
        intro _ hw'
        obtain ⟨⟨dq, oq⟩, hw''⟩ := hw'
        subst hw''
        go_wp2_with fail
        go_ret
        exact ⟨rfl, HBF.out.trans (bel_regrown we dq oq)⟩
  · have e0 : (tag.tmod 4 != 0) = true := by simp [h0]
    clear h0
    obtain ⟨tt, htt⟩ : ∃ tt, withinI tag 4 = tt := ⟨_, rfl⟩
    have HTT := Lib.hid htt
    clear htt
    go_enter Tryz.func5, Tryz.ntmps5
    have Q := oflaw11_c _ _ A C ca cc raw l how w hraw hl il ihow
    rw [Hx.out] at Q
    have HQ := Lib.hid Q
    clear Q
    go_wp2_with fail
    refine HQ.out.mono ?_
    rintro e w1 ⟨v, rfl, r, hb⟩
    obtain ⟨Ax, cx, rfl, hr⟩ := r.rd
    clear HQ
    have hr0 := hr.bound
    have HS0 := Lib.hid (fun W (h : Bel w1 W) => (hr0.to h))
    have HW := Lib.hid hb
    clear hr hr0 hb
    go_wp2_with fail
    refine (within_c tag 4 _ (by decide)).mono ?_
    rw [HTT.out]
    rintro e wT ⟨rfl, rfl⟩
    have hBr := HBr.out
    go_wp2_with fail
    refine (within_c budget 20 _ (by decide)).mono ?_
    rw [HBd.out]
    rintro e wB ⟨rfl, rfl⟩
    go_wp2_with fail
    refine (newMeter_s1 B _ (by omega)).mono ?_
    rintro e wm ⟨g, rfl, hg, HM, hb⟩
    have HBN := hb
    clear hb
    go_wp2_with fail
    refine (within_c budget 20 _ (by decide)).mono ?_
    rw [HBd.out]
    rintro e wB ⟨rfl, rfl⟩
    go_wp2_with fail
    refine (newMeter_s2 B _ (by omega)).mono ?_
    rintro e W0 ⟨g2, rfl, hg2, HR, hb⟩
    have hgl := HM.lt
    have hne : g ≠ g2 := by omega
    replace HM := HM.to hb
    replace HBN := HBN.trans hb
    have hNg : w1.heap.size ≤ g := by omega
    have hNg2 : w1.heap.size ≤ g2 := by omega
    rw [show max B 0 = B by omega] at HM HR
    clear hb hg hg2 hgl
    have hB9 : B ≤ 9223372036854775807 := by omega
    have hB0 : 0 ≤ B := by omega
    obtain ⟨s1, o1, f0, l0, l1⟩ := byS_bud B 0 false hB0 x tt
    obtain ⟨a, ha⟩ : ∃ a, (byS (some (B, 0, false)) x tt).2.1 = a := ⟨_, rfl⟩
    obtain ⟨ec, hec⟩ : ∃ e, (byS (some (B, 0, false)) x tt).2.2 = e := ⟨_, rfl⟩
    have E0 := Lib.hid (show byS (some (B, 0, false)) x tt = (some (B, s1, o1), a, ec) by rw [← f0, ← ha, ← hec])
    clear f0 ha hec
    have HMK := Lib.hid HM
    have HRK := Lib.hid HR
    have hgs1 := HM.lt
    have hrs1 := HR.lt
    have Q := residBy_c (.pointer (some ⟨g, 0, none⟩)) (some g) (some (B, 0, false)) _ Ax cx x tt W0 (MetO.of1 HM (Int.le_refl _) hB0 hB9) (HS0.out _ HBN) (fun j hj e => by injection e with e; have := hj.2; omega) _ rfl (by omega) (fun v hv => Nat.le_trans (PX.out v hv) (by decide))
    rw [E0.out] at Q
    dsimp only at Q
    have HQ := Lib.hid Q
    clear Q HM HR
    go_wp2_with fail
    refine HQ.out.mono ?_
    clear HQ
    rintro e wa ⟨v, rfl, r, hm, hg⟩
    obtain ⟨Aa, cA, rfl, hra⟩ := r.rd
    have HM := (hm.at1 rfl).1
    have HR := HRK.out.by_ hg (Ne.symm hne)
    have HBN := HBN.grown hg (fun j e => by injection e with e; omega)
    clear hm hg HMK HRK
    have HMK := Lib.hid HM
    have HRK := Lib.hid HR
    have hgs2 := HM.lt
    have hrs2 := HR.lt
    have Q := refBy_c (.pointer (some ⟨g2, 0, none⟩)) (some g2) (some (B, 0, false)) _ Ax cx x tt wa (MetO.of1 HR (Int.le_refl _) hB0 hB9) (HS0.out _ HBN) (fun j hj e => by injection e with e; have := hj.2; omega) _ rfl (by omega) (fun v hv => Nat.le_trans (PX.out v hv) (by decide))
    rw [E0.out] at Q
    dsimp only at Q
    have HQ := Lib.hid Q
    clear Q HM HR
    go_wp2_with fail
    refine HQ.out.mono ?_
    clear HQ
    rintro e wb ⟨v, rfl, r, hm, hg⟩
    obtain ⟨Ab, cB, rfl, hrb⟩ := r.rd
    have HR := (hm.at1 rfl).1
    have HM := HMK.out.by_ hg hne
    replace hra := (hra.bound.step' (fun j hj => hg.block j hj.2 (fun e => by injection e with e; have := hj.1; unfold Ge at this; omega))).all
    replace hrb := hrb.all
    have HBN := HBN.grown hg (fun j e => by injection e with e; omega)
    clear hm hg HMK HRK
    have HMW := Lib.hid (fun W (h : Bel wb W) => HM.to h)
    have HRW := Lib.hid (fun W (h : Bel wb W) => HR.to h)
    have HRA := Lib.hid (fun W (h : Bel wb W) => hra.to h)
    have HRB := Lib.hid (fun W (h : Bel wb W) => hrb.to h)
    have HSX := Lib.hid (fun W (h : Bel wb W) => (HS0.out _ (HBN.trans h)).all)
    have HBW := Lib.hid (HW.out.trans HBN)
    have HTG := Lib.hid (cutIntS_c _ G cg tags0 5 wb (hgt.to HBW.out) _ rfl (Nat.le_trans (Nat.mul_le_mul_right _ (List.length_take_le 5 tags0)) (by decide)) 5 rfl)
    clear HM HR hra hrb HBN HS0
    rw [HTE.out] at HTG
    go_wp2_with fail
    refine HTG.out.mono ?_
    rintro e wc ⟨v, rfl, hoc, hbc⟩
    obtain ⟨At, ct, rfl⟩ := hoc.form
    have HOC := Lib.hid hoc
    clear hoc HTG
    go_wp2
    go_loopw [62] (fun v62 wr => ∃ (q : Nat) (W : World), W = wr ∧ q ≤ ts.length ∧ v62 = .int .i64 q ∧ Own intT 3 W wb.heap.size (Ge wb.heap.size) (.slice At ts.length ct) ((ts.take q).map fixT ++ ts.drop q) ∧ Bel wb W) (fun v62 _ => ts.length - (intOf v62).toNat)
    case atStart => exact ⟨0, _, rfl, Nat.zero_le _, rfl, HOC.out, hbc⟩
    case round =>
      obtain ⟨q, W, rfl, hq, rfl, hO, hbq⟩ := hrel
      have hll : ((ts.take q).map fixT ++ ts.drop q).length = ts.length := by simp; omega
      by_cases hlt : q < ts.length
      · obtain ⟨gt, rfl, hg0, _⟩ := hO.addr (by omega)
        obtain ⟨hc1, hf1⟩ := hO.cell (i := q) (by omega)
        obtain ⟨z, hz⟩ : ∃ z, ts[q] = z := ⟨_, rfl⟩
        have hgx : ((ts.take q).map fixT ++ ts.drop q)[q]'(by omega) = z := fixT_at hlt hz (by omega)
        rw [hgx] at hc1
        have HST := Lib.hid (show ((ts.take q).map fixT ++ ts.drop q).set q (fixT z) = (ts.take (q + 1)).map fixT ++ ts.drop (q + 1) from fixT_set hlt hz)
        have HO := Lib.hid hO
        clear hz hgx hll hO
        by_cases h5 : z.tmod 5 = 0
        · have e5 : (z.tmod 5 != 0) = false := by simp [h5]
          have hz5 : fixT z = z := by unfold fixT; rw [if_pos h5]
          have HFX := Lib.hid (show Own intT 3 W wb.heap.size (Ge wb.heap.size) (.slice (some ⟨gt, 0, none⟩) ts.length ct) ((ts.take (q + 1)).map fixT ++ ts.drop (q + 1)) from by
            have h9 := HO.out
            rw [← HST.out, hz5, fixT_id hlt hc1 h9]
            exact h9)
          clear h5 hz5
          go_wp2
          go_roundw
          case rel => exact ⟨q + 1, _, rfl, by omega, by go_num, HFX.out, hbq⟩
          case measure => simp [intOf]; omega
        · have e5 : (z.tmod 5 != 0) = true := by simp [h5]
          have HZ5 := Lib.hid (show fixT z = withinI z 4 by unfold fixT; rw [if_neg h5])
          clear h5
          go_wp2_with fail
          refine (within_c z 4 _ (by decide)).mono ?_
          rintro e wB ⟨rfl, rfl⟩
          go_wp2
          go_roundw
          case rel => exact ⟨q + 1, _, rfl, by omega, by go_num, by rw [← HST.out, HZ5.out]; exact HO.out.set q _, hbq.set hg0 _⟩
          case measure => simp [intOf]; omega
      · obtain rfl : q = ts.length := by omega
        rw [List.take_length, List.drop_length, List.append_nil] at hO
        obtain ⟨tl, htl⟩ : ∃ tl, ts.map fixT = tl := ⟨_, rfl⟩
        have htll : tl.length = ts.length := by rw [← htl, List.length_map]
        rw [htl] at hO
        obtain ⟨AZ, cZ, eZ, rZ⟩ := hO.rdAll
        injection eZ with z1 z2 z3
        clear z2
        subst z1 z3
        have HTR := Lib.hid rZ
        obtain ⟨R, wc2, hcv⟩ : ∃ a b, coverS x free tl = (a, b) := ⟨_, _, rfl⟩
        have Q1 := residCover_c _ _ Ax At cx ct x free tl W (HSX.out _ hbq) rZ _ ts.length rfl htll.symm
        rw [hcv] at Q1
        dsimp only at Q1
        have HCV := Lib.hid hcv
        have HQ1 := Lib.hid Q1
        have HLL := Lib.hid htll
        clear Q1 hcv hO rZ htl htll hlt
        go_wp2_with fail
        refine HQ1.out.mono ?_
        rintro e wd ⟨v, rfl, ⟨Aw, cw, rfl, hrw⟩, hbd⟩
        have Q2 := refCover_c _ _ Ax At cx ct x free tl wd (HSX.out _ (hbq.trans hbd)) (HTR.out.to hbd) _ ts.length rfl HLL.out.symm
        rw [HCV.out] at Q2
        dsimp only at Q2
        have HQ2 := Lib.hid Q2
        clear Q2 HQ1
        go_wp2_with fail
        refine HQ2.out.mono ?_
        rintro e we ⟨v, rfl, ⟨Av, cv, rfl, hrv⟩, hbe⟩
        have hbf := hbq.trans (hbd.trans hbe)
        have HRW1 := Lib.hid (hrw.to hbe)
        have HRV1 := Lib.hid hrv
        obtain ⟨q0, q1, q2, _⟩ := (HRW.out _ hbf).cells
        have HMF := Lib.hid (HMW.out _ hbf)
        have K1 := Lib.hid (show ∀ W', Bel we W' → Calls Tryz.prog 21 #[.slice Aa a.length cA, .slice Ab a.length cB] W' fun e w' => e = .returned (.bool true) ∧ Bel W' w' from fun W' h => by
          have := sameSem_c _ _ Aa Ab cA cB a a W' (HRA.out _ (hbf.trans h)) (HRB.out _ (hbf.trans h)) _ _ rfl rfl
          rwa [decide_eq_true (show a = a from rfl)] at this)
        have K2 := Lib.hid (show ∀ W', Bel we W' → Calls Tryz.prog 34 #[.pointer (some ⟨g, 0, none⟩)] W' fun e w' => e = .returned (.int .i64 s1) ∧ Bel W' w' from fun W' h => (spent_s1 g B s1 o1 W' (HMF.out.to h)).mono fun e w' ⟨a, b⟩ => ⟨a, by subst b; exact Bel.refl _⟩)
        have K3 := Lib.hid (show ∀ W', Bel we W' → Calls Tryz.prog 16 #[.slice Aw wc2.length cw, .slice Av wc2.length cv] W' fun e w' => e = .returned (.bool true) ∧ Bel W' w' from fun W' h => by
          have := sameInt_c _ _ Aw Av cw cv wc2 wc2 W' (HRW1.out.to h) (HRV1.out.to h) _ _ rfl rfl
          rwa [decide_eq_true (show wc2 = wc2 from rfl)] at this)
        have K4 := Lib.hid (show ∀ W', Bel we W' → Calls Tryz.prog 35 #[] W' fun e w' => e = .returned (.bool true) ∧ Bel W' w' from fun W' _ => wakes11 W')
        have Q1 := cellReg q1
        have HBF := Lib.hid (HBW.out.trans hbf)
        have hso : ∀ b : Bool, (b == b) = true := fun b => by cases b <;> rfl
        have hRR := hso R
        clear q0 q1 q2 hso hrw hrv hbd hbe hbf hbq HQ2
        go_wp2_with fail
        refine wp_region_quiet_below (by kernel_rfl) (by kernel_rfl) ?_
        repeat (go_big_quiet_step (first | with_reducible exact callsReg K1.out | with_reducible exact callsReg K2.out | with_reducible exact callsReg K3.out | with_reducible exact callsReg K4.out))
        refine wpQuiet_nil ?_
        intro _ hw'
        obtain ⟨⟨dq, oq⟩, hw''⟩ := hw'
        subst hw''
        go_wp2_with fail
        go_ret
        exact ⟨rfl, HBF.out.trans (bel_regrown we dq oq)⟩
end Go.Proofs.YtbfbhacdllhddaaGreat
namespace Go.Proofs.YtbfbhacdllhddaaGreat.rowResidTells
open Go.ChangeShapes Go.WideShapes Go.ChangeAt Go.RowKit Go.Cb
open Go.ChangeMaps (open_string shut_string)
theorem own : ownKnob Tryz.prog.godebug = none := by kernel_rfl
theorem laidOut : laidOutB Tryz.prog = true := by kernel_rfl
set_option maxRecDepth 100000 in
theorem lifted (os : Os) (started : os.Started) (H : Type) (enc : TypeId × Value → H) :
    ReturnsInHanded {} Tryz.checked os 5 .any (Rows.residTellsSpec.pre6 enc Tryz.prog Tryz.f5 Rows.residTellsRow.domain false) (Rows.residTellsSpec.post enc Tryz.prog Tryz.f5 false true false false) := by
  refine returnsInHanded_of_change_sized (C := Tryz.checked) own started (by kernel_rfl) Tryz.func5
    (ChangeSpec.witness6 (enc := enc) (C := Tryz.checked) false ⟨#[], #[.slice none 0 0, .slice none 0 0, .int .i64 0, .int .i64 0, .int .i64 0, .bool false, .slice none 0 0], []⟩ 8 (by kernel_rfl) (by kernel_rfl) (by kernel_rfl) (by kernel_rfl)) ?_
  intro W base args ds gs before hval0 hW hcnd hsz0 _
  have hsz : (DataW.weightsEach Tryz.prog (Tryz.f5.params.toList ++ Rows.residTellsSpec.plain.varTypes Tryz.prog) (ds ++ gs)).all (· ≤ reachBytes) = true := hsz0
  have hval : ∀ (j : Nat) t v, Tryz.f5.params[j]? = some t → args[j]? = some v → Value.okWide Tryz.prog W .any base t v := hval0
  have hW' := hW
  obtain ⟨p, q, hA0, hV, rfl, hfz, hnd⟩ := hW
  have hA : DataW.TrodAll enc Tryz.prog W 0 (fun _ => true) true Tryz.f5.params.toList args.toList ds p := hA0
  rw [Tryz.params5] at hA hval hsz
  obtain ⟨v0, vs0, d0, ds0, p0, q0, hargs, rfl, rfl, h0, r0⟩ := trodAll_cons hA
  obtain ⟨v1, vs1, d1, ds1, p1, q1, rfl, rfl, rfl, h1, r1⟩ := trodAll_cons r0
  obtain ⟨v2, vs2, d2, ds2, p2, q2, rfl, rfl, rfl, h2, r2⟩ := trodAll_cons r1
  obtain ⟨v3, vs3, d3, ds3, p3, q3, rfl, rfl, rfl, h3, r3⟩ := trodAll_cons r2
  obtain ⟨v4, vs4, d4, ds4, p4, q4, rfl, rfl, rfl, h4, r4⟩ := trodAll_cons r3
  obtain ⟨v5, vs5, d5, ds5, p5, q5, rfl, rfl, rfl, h5, r5⟩ := trodAll_cons r4
  obtain ⟨v6, vs6, d6, ds6, p6, q6, rfl, rfl, rfl, h6, r6⟩ := trodAll_cons r5
  obtain ⟨rfl, rfl, rfl⟩ := trodAll_nil r6
  obtain rfl : args = #[v0, v1, v2, v3, v4, v5, v6] := by cases args; simp_all
  obtain ⟨rfl, rfl⟩ := trodVars_none hV
  obtain ⟨a0, len0, cap0, rfl⟩ := okWide_slice Tryz.underlying48 (hval 0 48 v0 rfl rfl)
  have k0 := h0
  have lt0 : ∀ x ∈ p0, x.block < W.heap.size := by obtain ⟨m, hm⟩ := k0; exact DataW.trod_lt m _ _ _ hm
  obtain ⟨m0, hm0⟩ := h0
  obtain ⟨x0, R0, ok0⟩ := opensRaws11 _ _ _ _ _ _ _ _ _ hm0
  replace R0 : (sl raw11T).rd W All x0 [.slice a0 len0 cap0] := R0
  obtain ⟨A0, c0, eq0, q0⟩ := R0
  obtain ⟨rfl, rfl, rfl⟩ : a0 = A0 ∧ len0 = x0.length ∧ cap0 = c0 := by simpa using eq0
  obtain ⟨a1, len1, cap1, rfl⟩ := okWide_slice Tryz.underlying22 (hval 1 22 v1 rfl rfl)
  have k1 := h1
  have lt1 : ∀ x ∈ p1, x.block < W.heap.size := by obtain ⟨m, hm⟩ := k1; exact DataW.trod_lt m _ _ _ hm
  obtain ⟨l1, rfl, R1, wf1, sz1⟩ := open_rd hsz (j := 1) (t := 22) rfl rfl Tryz.underlying22 Tryz.underlying3 (by kernel_rfl) (by kernel_rfl) h1
  obtain ⟨a2, rfl, rfl, rfl, w2⟩ := open_int Tryz.underlying3 (hval 2 3 v2 rfl rfl) h2
  obtain ⟨a3, rfl, rfl, rfl, w3⟩ := open_int Tryz.underlying3 (hval 3 3 v3 rfl rfl) h3
  obtain ⟨a4, rfl, rfl, rfl, w4⟩ := open_int Tryz.underlying3 (hval 4 3 v4 rfl rfl) h4
  obtain ⟨a5, rfl, rfl, rfl⟩ := open_bool Tryz.underlying4 (hval 5 4 v5 rfl rfl) h5
  obtain ⟨a6, len6, cap6, rfl⟩ := okWide_slice Tryz.underlying22 (hval 6 22 v6 rfl rfl)
  have k6 := h6
  have lt6 : ∀ x ∈ p6, x.block < W.heap.size := by obtain ⟨m, hm⟩ := k6; exact DataW.trod_lt m _ _ _ hm
  obtain ⟨l6, rfl, R6, wf6, sz6⟩ := open_rd hsz (j := 6) (t := 22) rfl rfl Tryz.underlying22 Tryz.underlying3 (by kernel_rfl) (by kernel_rfl) h6
  clear hA0 hval0 hsz0 hsz
  refine (ResidTells_walk W a0 cap0 x0 q0 ok0 a1 cap1 l1 R1 (fun x hx => inI64_wf (wf1 x hx)) sz1 a2 (inI64_wf w2) a3 (inI64_wf w3) a4 (inI64_wf w4) a5 a6 cap6 l6 R6 (fun x hx => inI64_wf (wf6 x hx)) sz6).mono fun e W' ⟨he, bel⟩ => ?_
  subst he
  exact ⟨_, rfl, _, _, _, [], _, [], hW', trodAll_mk1 (shut_bool Tryz.underlying4 _), (trodAll_cons_mk (Below.trod laidOut (by kernel_rfl) (of_decide_eq_true (by kernel_rfl)) k0 bel.out lt0) (trodAll_cons_mk (Below.trod laidOut (by kernel_rfl) (of_decide_eq_true (by kernel_rfl)) k1 bel.out lt1) (trodAll_cons_mk (shut_int Tryz.underlying3 w2) (trodAll_cons_mk (shut_int Tryz.underlying3 w3) (trodAll_cons_mk (shut_int Tryz.underlying3 w4) (trodAll_cons_mk (shut_bool Tryz.underlying4 _) (trodAll_cons_mk (Below.trod laidOut (by kernel_rfl) (of_decide_eq_true (by kernel_rfl)) k6 bel.out lt6) trodAll_mk0))))))), rfl, bel.out.frame _, fun h => by cases h⟩
theorem over : Rows.residTellsRow.holds Tryz.pinned (OpenSpec.ofChange Rows.residTellsSpec) :=
  OpenClaim.holds_of_wide 5 Tryz.f5 rfl rfl rfl rfl rfl rfl rfl ⟨rfl, rfl, rfl, rfl, rfl⟩ rfl rfl rfl rfl rfl (by kernel_rfl) Tryz.func5 (by kernel_rfl)
    (of_decide_eq_true (by kernel_rfl)) (by unfold Func.isWrapper; first | (rw [if_pos (by decide +kernel)]; kernel_rfl) | (rw [if_neg (by decide +kernel)]; exact ⟨rfl, rfl⟩))
    (fun os started H enc _ => lifted os started H enc)
end Go.Proofs.YtbfbhacdllhddaaGreat.rowResidTells
namespace Go.Proofs.YtbfbhacdllhddaaGreat
theorem ResidTells_holds : Rows.ResidTellsSaid := rowResidTells.over
#print axioms ResidTells_holds
end Go.Proofs.YtbfbhacdllhddaaGreat
