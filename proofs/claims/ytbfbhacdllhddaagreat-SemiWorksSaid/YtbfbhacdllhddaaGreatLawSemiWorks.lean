/- SemiWorks: by any budget: two sets together, all of one, some times over, and what that spent, or why not. -/
import Derived.Test.YtbfbhacdllhddaaGreatPureW
import Derived.Test.YtbfbhacdllhddaaGreatOf7
import Derived.Test.YtbfbhacdllhddaaGreatMK
import Derived.Test.YtbfbhacdllhddaaGreatMB
import Derived.Test.YtbfbhacdllhddaaGreatRaw7
set_option linter.unusedVariables false
set_option linter.unusedSimpArgs false
set_option linter.all false
namespace Go.Proofs.YtbfbhacdllhddaaGreat
open Go.RowKit Go.Cb Go.Sort
set_option maxHeartbeats 64000000 in
set_option maxRecDepth 100000 in
theorem SemiWorks_walk (w : World) (A : Option Addr) (ca : Nat) (a : SemS) (ha : Rd raw7T w All A ca a) (_ : ∀ r ∈ a, (∀ n ∈ r.1, inI64 n) ∧ ∀ l ∈ r.2, ∀ n ∈ l, inI64 n)
    (C : Option Addr) (cc : Nat) (l : List Int) (hl : Rd intT w All C cc l) (il : ∀ x ∈ l, inI64 x) (_ : l.length * 8 ≤ 140737488351232)
    (K : Option Addr) (ck : Nat) (k : List Int) (hk0 : Rd intT w All K ck k) (ik : ∀ x ∈ k, inI64 x) (_ : k.length * 8 ≤ 140737488351232) (how : Int) (ihow : inI64 how) (budget : Int) (_ : inI64 budget) (times : Int) (itimes : inI64 times) :
    Calls Tryz.prog 8 #[.slice A a.length ca, .slice C l.length cc, .slice K k.length ck, .int .i64 how, .int .i64 budget, .int .i64 times] w fun e w' => e = .returned (.bool true) ∧ Bel w w' := by
  obtain ⟨hx6, px⟩ := ofRaw_per a l how 2 5 6 4 (by decide) (by decide)
  obtain ⟨oy, hy6⟩ := playSem_ok k
  obtain ⟨x, hx⟩ : ∃ x, ofRaw a l how 2 5 6 4 = x := ⟨_, rfl⟩
  obtain ⟨y, hy⟩ : ∃ y, playSem k = y := ⟨_, rfl⟩
  have Hx := Lib.hid hx
  have Hy := Lib.hid hy
  rw [hx] at hx6 px
  rw [hy] at hy6 oy
  have PXY := Lib.hid (show ∀ u ∈ x, ∀ v ∈ y, u.2.length + v.2.length ≤ 4294967295 from fun u hu v hv => by
    have := px u hu
    have := oy.per v hv
    omega)
  have PY := Lib.hid (fun v hv => oy.per v hv)
  have HB := Bel.refl w
  have hr := withinI_range (v := budget) (n := 400) (by decide)
  obtain ⟨B, hB⟩ : ∃ B, withinI budget 400 = B := ⟨_, rfl⟩
  have HBd := Lib.hid hB
  rw [hB] at hr
  have HBr := Lib.hid hr
  clear hx hy hB hr px oy
  by_cases h0 : times.tmod 4 = 0
  · have e0 : (times.tmod 4 != 0) = false := by simp [h0]
    clear h0
    obtain ⟨tt, htt⟩ : ∃ tt, tt = times := ⟨_, rfl⟩
    subst htt
    go_enter Tryz.func8, Tryz.ntmps8
    have Q := oflaw07_c _ _ A C ca cc a l how w (ha.to HB) (hl.to HB) il ihow
    rw [Hx.out] at Q
    have HQ := Lib.hid Q
    clear Q
    go_wp2_with fail
    refine HQ.out.mono ?_
    rintro e w1 ⟨v, rfl, r, hb⟩
    obtain ⟨Ax, cx, rfl, hr⟩ := r.rd
    clear HQ
    replace HB := HB.trans hb
    have Kx := Lib.hid (fun W (h : Bel w1 W) => (hr.to h).all)
    clear hr
    clear hb
    have Q := playSemi_c _ K ck k w1 (hk0.to HB) ik _ rfl
    rw [Hy.out] at Q
    have HQ := Lib.hid Q
    clear Q
    go_wp2_with fail
    refine HQ.out.mono ?_
    rintro e w2 ⟨v, rfl, r, hb⟩
    obtain ⟨Ay, cy, rfl, hr⟩ := r.rd
    clear HQ
    replace Kx := Lib.hid (fun W h => Kx.out W (hb.trans h))
    replace HB := HB.trans hb
    have Ky := Lib.hid (fun W (h : Bel w2 W) => (hr.to h).all)
    clear hr
    clear hb
    have Kx := Lib.hid (fun W (h : Bel w2 W) => ((Kx.out _ (Bel.refl _)).bound).to h)
    have Ky := Lib.hid (fun W (h : Bel w2 W) => ((Ky.out _ (Bel.refl _)).bound).to h)
    have HW := Lib.hid HB
    clear HB
    go_wp2_with fail
    refine (within_c budget 400 _ (by decide)).mono ?_
    rw [HBd.out]
    rintro e wB ⟨rfl, rfl⟩
    have h400 := HBr.out.2
    go_wp2_with fail
    have hBr := HBr.out
    refine (newMeter_s1 B _ (by omega)).mono ?_
    rintro e wm ⟨g, rfl, hg, HM, hb⟩
    have HBN := hb
    clear hb
    go_wp2_with fail
    refine (newMeter_s2 B _ (by omega)).mono ?_
    rintro e W0 ⟨g2, rfl, hg2, HR, hb⟩
    have hgl := HM.lt
    have hne : g ≠ g2 := by omega
    replace HM := HM.to hb
    replace HBN := HBN.trans hb
    have hNg : w2.heap.size ≤ g := by omega
    have hNg2 : w2.heap.size ≤ g2 := by omega
    rw [show max B 0 = B by omega] at HM HR
    clear hb hg hg2 hgl
    have hs0 : (0 : Int) ≤ 0 := by omega
    have ht0 : 0 ≤ B := by omega
    have hB9 : B ≤ 9223372036854775807 := by omega
    obtain ⟨s0, hs0e⟩ : ∃ s0 : Int, s0 = 0 := ⟨_, rfl⟩
    obtain ⟨o0, ho0e⟩ : ∃ o0 : Bool, o0 = false := ⟨_, rfl⟩
    rw [← hs0e, ← ho0e] at HM HR
    rw [← hs0e] at ht0
    replace hs0 : 0 ≤ s0 := by omega
    clear hs0e ho0e
    obtain ⟨s1, o1, f0, l0, ht1⟩ := catS_bud B s0 o0 ht0 x y
    obtain ⟨z0, hz0⟩ : ∃ z, (catS (some (B, s0, o0)) x y).2.1 = z := ⟨_, rfl⟩
    obtain ⟨e0c, he0⟩ : ∃ e, (catS (some (B, s0, o0)) x y).2.2 = e := ⟨_, rfl⟩
    have E0 := Lib.hid (show catS (some (B, s0, o0)) x y = (some (B, s1, o1), z0, e0c) by rw [← f0, ← hz0, ← he0])
    obtain ⟨s2, o2, f1, l1, ht2⟩ := starS_bud B s1 o1 ht1 x
    obtain ⟨z1, hz1⟩ : ∃ z, (starS (some (B, s1, o1)) x).2.1 = z := ⟨_, rfl⟩
    obtain ⟨e1c, he1⟩ : ∃ e, (starS (some (B, s1, o1)) x).2.2 = e := ⟨_, rfl⟩
    have E1 := Lib.hid (show starS (some (B, s1, o1)) x = (some (B, s2, o2), z1, e1c) by rw [← f1, ← hz1, ← he1])
    have hs1 : 0 ≤ s1 := by omega
    have hs2 : 0 ≤ s2 := by omega
    obtain ⟨s3, o3, f2, l2, ht3⟩ := powS_bud B s2 o2 ht2 y tt
    obtain ⟨z2, hz2⟩ : ∃ z, (powS (some (B, s2, o2)) y tt).2.1 = z := ⟨_, rfl⟩
    obtain ⟨e2c, he2⟩ : ∃ e, (powS (some (B, s2, o2)) y tt).2.2 = e := ⟨_, rfl⟩
    have E2 := Lib.hid (show powS (some (B, s2, o2)) y tt = (some (B, s3, o3), z2, e2c) by rw [← f2, ← hz2, ← he2])
    have PF := Lib.hid (fun s o (h0 : 0 ≤ s) (h1 : s ≤ B) k he => pow_work PY.out hy6 h0 h1 (by omega) (o := o) k he)
    clear f0 hz0 he0 f1 hz1 he1 f2 hz2 he2 l0 l1 l2
    go_wp2_with fail
    have HMK := Lib.hid HM
    have HRK := Lib.hid HR
    have hgs := HM.lt
    have hrs := HR.lt
    have Q := semCat_c (.pointer (some ⟨g, 0, none⟩)) (some g) (some (B, s0, o0)) _ _ Ax Ay cx cy x y W0 (MetO.of1 HM hs0 ht0 hB9) (Kx.out _ HBN) (Ky.out _ HBN) (fun j hj e => by injection e with e; have := hj.2; omega) (fun j hj e => by injection e with e; have := hj.2; omega) _ _ rfl rfl (by omega) (by omega) (fun _ => Nat.le_trans (Nat.mul_le_mul hx6 hy6) (by decide)) (fun u hu v hv => PXY.out u hu v hv)
    rw [E0.out] at Q
    dsimp only at Q
    have HQ := Lib.hid Q
    clear Q HM HR
    go_wp2_with fail
    refine HQ.out.mono ?_
    clear HQ
    rintro e wa0 ⟨v, rfl, r, hm, hg⟩
    obtain ⟨Ac0, cc0, rfl, hr0⟩ := PSem.rd (t := 30) r
    have HM := (hm.at1 rfl).1
    have HR := HRK.out.by_ hg (Ne.symm hne)
    have HBa := HBN.grown hg (fun j e => by injection e with e; omega)
    clear hm r
    have hsz := hg.size
    clear hg HBN HMK HRK
    have HMK := Lib.hid HM
    have HRK := Lib.hid HR
    have hgs := HM.lt
    have hrs := HR.lt
    have Q := refCatS_c (.pointer (some ⟨g2, 0, none⟩)) (some g2) (some (B, s0, o0)) _ _ Ax Ay cx cy x y wa0 (MetO.of1 HR hs0 ht0 hB9) (Kx.out _ HBa) (Ky.out _ HBa) (fun j hj e => by injection e with e; have := hj.2; omega) (fun j hj e => by injection e with e; have := hj.2; omega) _ _ rfl rfl (by omega) (by omega) (fun _ => Nat.le_trans (Nat.mul_le_mul hx6 hy6) (by decide)) (fun u hu v hv => PXY.out u hu v hv)
    rw [E0.out] at Q
    dsimp only at Q
    have HQ := Lib.hid Q
    clear Q HM HR
    go_wp2_with fail
    refine HQ.out.mono ?_
    clear HQ
    rintro e wb0 ⟨v, rfl, r, hm, hg⟩
    obtain ⟨Ad0, cd0, rfl, hd0⟩ := r.rd
    have HR := (hm.at1 rfl).1
    have HM := HMK.out.by_ hg hne
    have HBN := HBa.grown hg (fun j e => by injection e with e; omega)
    replace hr0 := (hr0.bound.step' (fun j hj => hg.block j hj.2 (fun e => by injection e with e; have := hj.1; unfold Ge at this; omega))).all
    replace hd0 := hd0.all
    clear hm r hg HBa HMK HRK hsz
    obtain ⟨q0, q1, q2, _⟩ := HR.cells
    have HMK := Lib.hid HM
    have HRK := Lib.hid HR
    have HBK := Lib.hid HBN
    have K1 := Lib.hid (show ∀ W', Bel wb0 W' → Calls Tryz.prog 21 #[.slice Ac0 z0.length cc0, .slice Ad0 z0.length cd0] W' fun e w' => e = .returned (.bool true) ∧ Bel W' w' from fun W' h => by
      have := sameSem_c _ _ Ac0 Ad0 cc0 cd0 z0 z0 W' (hr0.to h) (hd0.to h) _ _ rfl rfl
      rwa [decide_eq_true (show z0 = z0 from rfl)] at this)
    have K2 := Lib.hid (show ∀ W', Bel wb0 W' → Calls Tryz.prog 34 #[.pointer (some ⟨g, 0, none⟩)] W' fun e w' => e = .returned (.int .i64 s1) ∧ Bel W' w' from fun W' h => (spent_s1 g B s1 o1 W' (HMK.out.to h)).mono fun e w' ⟨a, b⟩ => ⟨a, by subst b; exact Bel.refl _⟩)
    have Q1 := cellReg q1
    have Q2 := cellReg q2
    clear q0 q1 q2 HM HR HBN hr0 hd0
    go_wp2_with fail
    refine wp_region_quiet_below (by kernel_rfl) (by kernel_rfl) ?_
    repeat (go_big_quiet_step (first | with_reducible exact callsReg K1.out | with_reducible exact callsReg K2.out))
    refine wpQuiet_nil ?_
    intro _ hw'
    obtain ⟨⟨dq, oq⟩, hw''⟩ := hw'
    subst hw''
    have HBN := HBK.out.trans (bel_regrown wb0 dq oq)
    have HM := HMK.out.to (bel_regrown wb0 dq oq)
    have HR := HRK.out.to (bel_regrown wb0 dq oq)
    generalize grow (redrawn wb0 dq) oq = W1 at *
    clear HMK HRK HBK K1 K2 Q1 Q2
    have HMK := Lib.hid HM
    have HRK := Lib.hid HR
    have hgs := HM.lt
    have hrs := HR.lt
    have Q := semStar_c (.pointer (some ⟨g, 0, none⟩)) (some g) (some (B, s1, o1)) _ Ax cx x W1 (MetO.of1 HM hs1 ht1 hB9) (Kx.out _ HBN) (fun j hj e => by injection e with e; have := hj.2; omega) _ rfl (by omega)
    rw [E1.out] at Q
    dsimp only at Q
    have HQ := Lib.hid Q
    clear Q HM HR
    go_wp2_with fail
    refine HQ.out.mono ?_
    clear HQ
    rintro e wa1 ⟨v, rfl, r, hm, hg⟩
    obtain ⟨Ac1, cc1, rfl, hr1⟩ := PSem.rd (t := 30) r
    have HM := (hm.at1 rfl).1
    have HR := HRK.out.by_ hg (Ne.symm hne)
    have HBa := HBN.grown hg (fun j e => by injection e with e; omega)
    clear hm r
    have hsz := hg.size
    clear hg HBN HMK HRK
    have HMK := Lib.hid HM
    have HRK := Lib.hid HR
    have hgs := HM.lt
    have hrs := HR.lt
    have Q := refStar_c (.pointer (some ⟨g2, 0, none⟩)) (some g2) (some (B, s1, o1)) _ Ax cx x wa1 (MetO.of1 HR hs1 ht1 hB9) (Kx.out _ HBa) (fun j hj e => by injection e with e; have := hj.2; omega) _ rfl (by omega)
    rw [E1.out] at Q
    dsimp only at Q
    have HQ := Lib.hid Q
    clear Q HM HR
    go_wp2_with fail
    refine HQ.out.mono ?_
    clear HQ
    rintro e wb1 ⟨v, rfl, r, hm, hg⟩
    obtain ⟨Ad1, cd1, rfl, hd1⟩ := r.rd
    have HR := (hm.at1 rfl).1
    have HM := HMK.out.by_ hg hne
    have HBN := HBa.grown hg (fun j e => by injection e with e; omega)
    replace hr1 := (hr1.bound.step' (fun j hj => hg.block j hj.2 (fun e => by injection e with e; have := hj.1; unfold Ge at this; omega))).all
    replace hd1 := hd1.all
    clear hm r hg HBa HMK HRK hsz
    obtain ⟨q0, q1, q2, _⟩ := HR.cells
    have HMK := Lib.hid HM
    have HRK := Lib.hid HR
    have HBK := Lib.hid HBN
    have K1 := Lib.hid (show ∀ W', Bel wb1 W' → Calls Tryz.prog 21 #[.slice Ac1 z1.length cc1, .slice Ad1 z1.length cd1] W' fun e w' => e = .returned (.bool true) ∧ Bel W' w' from fun W' h => by
      have := sameSem_c _ _ Ac1 Ad1 cc1 cd1 z1 z1 W' (hr1.to h) (hd1.to h) _ _ rfl rfl
      rwa [decide_eq_true (show z1 = z1 from rfl)] at this)
    have K2 := Lib.hid (show ∀ W', Bel wb1 W' → Calls Tryz.prog 34 #[.pointer (some ⟨g, 0, none⟩)] W' fun e w' => e = .returned (.int .i64 s2) ∧ Bel W' w' from fun W' h => (spent_s1 g B s2 o2 W' (HMK.out.to h)).mono fun e w' ⟨a, b⟩ => ⟨a, by subst b; exact Bel.refl _⟩)
    have Q1 := cellReg q1
    have Q2 := cellReg q2
    clear q0 q1 q2 HM HR HBN hr1 hd1
    go_wp2_with fail
    refine wp_region_quiet_below (by kernel_rfl) (by kernel_rfl) ?_
    repeat (go_big_quiet_step (first | with_reducible exact callsReg K1.out | with_reducible exact callsReg K2.out))
    refine wpQuiet_nil ?_
    intro _ hw'
    obtain ⟨⟨dq, oq⟩, hw''⟩ := hw'
    subst hw''
    have HBN := HBK.out.trans (bel_regrown wb1 dq oq)
    have HM := HMK.out.to (bel_regrown wb1 dq oq)
    have HR := HRK.out.to (bel_regrown wb1 dq oq)
    generalize grow (redrawn wb1 dq) oq = W2 at *
    clear HMK HRK HBK K1 K2 Q1 Q2
    have HMK := Lib.hid HM
    have HRK := Lib.hid HR
    have hgs := HM.lt
    have hrs := HR.lt
    have Q := semPow_c (.pointer (some ⟨g, 0, none⟩)) (some g) (some (B, s2, o2)) _ Ay cy y tt W2 (MetO.of1 HM hs2 ht2 hB9) (Ky.out _ HBN) (fun j hj e => by injection e with e; have := hj.2; omega) _ rfl (fun k _ he => PF.out s2 o2 hs2 ht2 k he)
    rw [E2.out] at Q
    dsimp only at Q
    have HQ := Lib.hid Q
    clear Q HM HR
    go_wp2_with fail
    refine HQ.out.mono ?_
    clear HQ
    rintro e wa2 ⟨v, rfl, r, hm, hg⟩
    obtain ⟨Ac2, cc2, rfl, hr2⟩ := r.rd
    have HM := (hm.at1 rfl).1
    have HR := HRK.out.by_ hg (Ne.symm hne)
    have HBa := HBN.grown hg (fun j e => by injection e with e; omega)
    clear hm r
    have hsz := hg.size
    clear hg HBN HMK HRK
    have HMK := Lib.hid HM
    have HRK := Lib.hid HR
    have hgs := HM.lt
    have hrs := HR.lt
    have Q := refPow_c (.pointer (some ⟨g2, 0, none⟩)) (some g2) (some (B, s2, o2)) _ Ay cy y tt wa2 (MetO.of1 HR hs2 ht2 hB9) (Ky.out _ HBa) (fun j hj e => by injection e with e; have := hj.2; omega) _ rfl (fun k _ he => PF.out s2 o2 hs2 ht2 k he)
    rw [E2.out] at Q
    dsimp only at Q
    have HQ := Lib.hid Q
    clear Q HM HR
    go_wp2_with fail
    refine HQ.out.mono ?_
    clear HQ
    rintro e wb2 ⟨v, rfl, r, hm, hg⟩
    obtain ⟨Ad2, cd2, rfl, hd2⟩ := r.rd
    have HR := (hm.at1 rfl).1
    have HM := HMK.out.by_ hg hne
    have HBN := HBa.grown hg (fun j e => by injection e with e; omega)
    replace hr2 := (hr2.bound.step' (fun j hj => hg.block j hj.2 (fun e => by injection e with e; have := hj.1; unfold Ge at this; omega))).all
    replace hd2 := hd2.all
    clear hm r hg HBa HMK HRK hsz
    obtain ⟨q0, q1, q2, _⟩ := HR.cells
    have HMK := Lib.hid HM
    have HRK := Lib.hid HR
    have HBK := Lib.hid HBN
    have K1 := Lib.hid (show ∀ W', Bel wb2 W' → Calls Tryz.prog 21 #[.slice Ac2 z2.length cc2, .slice Ad2 z2.length cd2] W' fun e w' => e = .returned (.bool true) ∧ Bel W' w' from fun W' h => by
      have := sameSem_c _ _ Ac2 Ad2 cc2 cd2 z2 z2 W' (hr2.to h) (hd2.to h) _ _ rfl rfl
      rwa [decide_eq_true (show z2 = z2 from rfl)] at this)
    have K2 := Lib.hid (show ∀ W', Bel wb2 W' → Calls Tryz.prog 34 #[.pointer (some ⟨g, 0, none⟩)] W' fun e w' => e = .returned (.int .i64 s3) ∧ Bel W' w' from fun W' h => (spent_s1 g B s3 o3 W' (HMK.out.to h)).mono fun e w' ⟨a, b⟩ => ⟨a, by subst b; exact Bel.refl _⟩)
    have Q1 := cellReg q1
    have Q2 := cellReg q2
    have K3 := Lib.hid (show ∀ W', Bel wb2 W' → Calls Tryz.prog 42 #[.pointer (some ⟨g, 0, none⟩)] W' fun e w' => e = .returned (.bool o3) ∧ Bel W' w' from fun W' h => (out_s1 g B s3 o3 W' (HMK.out.to h)).mono fun e w' ⟨a, b⟩ => ⟨a, by subst b; exact Bel.refl _⟩)
    have K4 := Lib.hid (show ∀ W', Bel wb2 W' → Calls Tryz.prog 17 #[] W' fun e w' => e = .returned (.bool true) ∧ Bel W' w' from fun W' _ => wakes07 W')
    clear q0 q1 q2 HM HR HBN hr2 hd2
    have hso : ∀ b : Bool, (b == b) = true := fun b => by cases b <;> rfl
    go_wp2_with fail
    refine wp_region_quiet_below (by kernel_rfl) (by kernel_rfl) ?_
    repeat (go_big_quiet_step (first | with_reducible exact callsReg K1.out | with_reducible exact callsReg K2.out | with_reducible exact callsReg K3.out | with_reducible exact callsReg K4.out))
    refine wpQuiet_nil ?_
    intro _ hw'
    obtain ⟨⟨dq, oq⟩, hw''⟩ := hw'
    subst hw''
    have HBN := HBK.out.trans (bel_regrown wb2 dq oq)
    go_wp2_with fail
    go_ret
    exact ⟨rfl, HW.out.trans HBN⟩
  · have e0 : (times.tmod 4 != 0) = true := by simp [h0]
    clear h0
    obtain ⟨tt, htt⟩ : ∃ tt, withinI times 5 = tt := ⟨_, rfl⟩
    have HT5 := Lib.hid htt
    clear htt
    go_enter Tryz.func8, Tryz.ntmps8
    have Q := oflaw07_c _ _ A C ca cc a l how w (ha.to HB) (hl.to HB) il ihow
    rw [Hx.out] at Q
    have HQ := Lib.hid Q
    clear Q
    go_wp2_with fail
    refine HQ.out.mono ?_
    rintro e w1 ⟨v, rfl, r, hb⟩
    obtain ⟨Ax, cx, rfl, hr⟩ := r.rd
    clear HQ
    replace HB := HB.trans hb
    have Kx := Lib.hid (fun W (h : Bel w1 W) => (hr.to h).all)
    clear hr
    clear hb
    have Q := playSemi_c _ K ck k w1 (hk0.to HB) ik _ rfl
    rw [Hy.out] at Q
    have HQ := Lib.hid Q
    clear Q
    go_wp2_with fail
    refine HQ.out.mono ?_
    rintro e w2 ⟨v, rfl, r, hb⟩
    obtain ⟨Ay, cy, rfl, hr⟩ := r.rd
    clear HQ
    replace Kx := Lib.hid (fun W h => Kx.out W (hb.trans h))
    replace HB := HB.trans hb
    have Ky := Lib.hid (fun W (h : Bel w2 W) => (hr.to h).all)
    clear hr
    clear hb
    have Kx := Lib.hid (fun W (h : Bel w2 W) => ((Kx.out _ (Bel.refl _)).bound).to h)
    have Ky := Lib.hid (fun W (h : Bel w2 W) => ((Ky.out _ (Bel.refl _)).bound).to h)
    have HW := Lib.hid HB
    clear HB
    go_wp2_with fail
    refine (within_c budget 400 _ (by decide)).mono ?_
    rw [HBd.out]
    rintro e wB ⟨rfl, rfl⟩
    have h400 := HBr.out.2
    go_wp2_with fail
    refine (within_c times 5 _ (by decide)).mono ?_
    rw [HT5.out]
    rintro e wT ⟨rfl, rfl⟩
    go_wp2_with fail
    have hBr := HBr.out
    refine (newMeter_s1 B _ (by omega)).mono ?_
    rintro e wm ⟨g, rfl, hg, HM, hb⟩
    have HBN := hb
    clear hb
    go_wp2_with fail
    refine (newMeter_s2 B _ (by omega)).mono ?_
    rintro e W0 ⟨g2, rfl, hg2, HR, hb⟩
    have hgl := HM.lt
    have hne : g ≠ g2 := by omega
    replace HM := HM.to hb
    replace HBN := HBN.trans hb
    have hNg : w2.heap.size ≤ g := by omega
    have hNg2 : w2.heap.size ≤ g2 := by omega
    rw [show max B 0 = B by omega] at HM HR
    clear hb hg hg2 hgl
    have hs0 : (0 : Int) ≤ 0 := by omega
    have ht0 : 0 ≤ B := by omega
    have hB9 : B ≤ 9223372036854775807 := by omega
    obtain ⟨s0, hs0e⟩ : ∃ s0 : Int, s0 = 0 := ⟨_, rfl⟩
    obtain ⟨o0, ho0e⟩ : ∃ o0 : Bool, o0 = false := ⟨_, rfl⟩
    rw [← hs0e, ← ho0e] at HM HR
    rw [← hs0e] at ht0
    replace hs0 : 0 ≤ s0 := by omega
    clear hs0e ho0e
    obtain ⟨s1, o1, f0, l0, ht1⟩ := catS_bud B s0 o0 ht0 x y
    obtain ⟨z0, hz0⟩ : ∃ z, (catS (some (B, s0, o0)) x y).2.1 = z := ⟨_, rfl⟩
    obtain ⟨e0c, he0⟩ : ∃ e, (catS (some (B, s0, o0)) x y).2.2 = e := ⟨_, rfl⟩
    have E0 := Lib.hid (show catS (some (B, s0, o0)) x y = (some (B, s1, o1), z0, e0c) by rw [← f0, ← hz0, ← he0])
    obtain ⟨s2, o2, f1, l1, ht2⟩ := starS_bud B s1 o1 ht1 x
    obtain ⟨z1, hz1⟩ : ∃ z, (starS (some (B, s1, o1)) x).2.1 = z := ⟨_, rfl⟩
    obtain ⟨e1c, he1⟩ : ∃ e, (starS (some (B, s1, o1)) x).2.2 = e := ⟨_, rfl⟩
    have E1 := Lib.hid (show starS (some (B, s1, o1)) x = (some (B, s2, o2), z1, e1c) by rw [← f1, ← hz1, ← he1])
    have hs1 : 0 ≤ s1 := by omega
    have hs2 : 0 ≤ s2 := by omega
    obtain ⟨s3, o3, f2, l2, ht3⟩ := powS_bud B s2 o2 ht2 y tt
    obtain ⟨z2, hz2⟩ : ∃ z, (powS (some (B, s2, o2)) y tt).2.1 = z := ⟨_, rfl⟩
    obtain ⟨e2c, he2⟩ : ∃ e, (powS (some (B, s2, o2)) y tt).2.2 = e := ⟨_, rfl⟩
    have E2 := Lib.hid (show powS (some (B, s2, o2)) y tt = (some (B, s3, o3), z2, e2c) by rw [← f2, ← hz2, ← he2])
    have PF := Lib.hid (fun s o (h0 : 0 ≤ s) (h1 : s ≤ B) k he => pow_work PY.out hy6 h0 h1 (by omega) (o := o) k he)
    clear f0 hz0 he0 f1 hz1 he1 f2 hz2 he2 l0 l1 l2
    go_wp2_with fail
    have HMK := Lib.hid HM
    have HRK := Lib.hid HR
    have hgs := HM.lt
    have hrs := HR.lt
    have Q := semCat_c (.pointer (some ⟨g, 0, none⟩)) (some g) (some (B, s0, o0)) _ _ Ax Ay cx cy x y W0 (MetO.of1 HM hs0 ht0 hB9) (Kx.out _ HBN) (Ky.out _ HBN) (fun j hj e => by injection e with e; have := hj.2; omega) (fun j hj e => by injection e with e; have := hj.2; omega) _ _ rfl rfl (by omega) (by omega) (fun _ => Nat.le_trans (Nat.mul_le_mul hx6 hy6) (by decide)) (fun u hu v hv => PXY.out u hu v hv)
    rw [E0.out] at Q
    dsimp only at Q
    have HQ := Lib.hid Q
    clear Q HM HR
    go_wp2_with fail
    refine HQ.out.mono ?_
    clear HQ
    rintro e wa0 ⟨v, rfl, r, hm, hg⟩
    obtain ⟨Ac0, cc0, rfl, hr0⟩ := PSem.rd (t := 30) r
    have HM := (hm.at1 rfl).1
    have HR := HRK.out.by_ hg (Ne.symm hne)
    have HBa := HBN.grown hg (fun j e => by injection e with e; omega)
    clear hm r
    have hsz := hg.size
    clear hg HBN HMK HRK
    have HMK := Lib.hid HM
    have HRK := Lib.hid HR
    have hgs := HM.lt
    have hrs := HR.lt
    have Q := refCatS_c (.pointer (some ⟨g2, 0, none⟩)) (some g2) (some (B, s0, o0)) _ _ Ax Ay cx cy x y wa0 (MetO.of1 HR hs0 ht0 hB9) (Kx.out _ HBa) (Ky.out _ HBa) (fun j hj e => by injection e with e; have := hj.2; omega) (fun j hj e => by injection e with e; have := hj.2; omega) _ _ rfl rfl (by omega) (by omega) (fun _ => Nat.le_trans (Nat.mul_le_mul hx6 hy6) (by decide)) (fun u hu v hv => PXY.out u hu v hv)
    rw [E0.out] at Q
    dsimp only at Q
    have HQ := Lib.hid Q
    clear Q HM HR
    go_wp2_with fail
    refine HQ.out.mono ?_
    clear HQ
    rintro e wb0 ⟨v, rfl, r, hm, hg⟩
    obtain ⟨Ad0, cd0, rfl, hd0⟩ := r.rd
    have HR := (hm.at1 rfl).1
    have HM := HMK.out.by_ hg hne
    have HBN := HBa.grown hg (fun j e => by injection e with e; omega)
    replace hr0 := (hr0.bound.step' (fun j hj => hg.block j hj.2 (fun e => by injection e with e; have := hj.1; unfold Ge at this; omega))).all
    replace hd0 := hd0.all
    clear hm r hg HBa HMK HRK hsz
    obtain ⟨q0, q1, q2, _⟩ := HR.cells
    have HMK := Lib.hid HM
    have HRK := Lib.hid HR
    have HBK := Lib.hid HBN
    have K1 := Lib.hid (show ∀ W', Bel wb0 W' → Calls Tryz.prog 21 #[.slice Ac0 z0.length cc0, .slice Ad0 z0.length cd0] W' fun e w' => e = .returned (.bool true) ∧ Bel W' w' from fun W' h => by
      have := sameSem_c _ _ Ac0 Ad0 cc0 cd0 z0 z0 W' (hr0.to h) (hd0.to h) _ _ rfl rfl
      rwa [decide_eq_true (show z0 = z0 from rfl)] at this)
    have K2 := Lib.hid (show ∀ W', Bel wb0 W' → Calls Tryz.prog 34 #[.pointer (some ⟨g, 0, none⟩)] W' fun e w' => e = .returned (.int .i64 s1) ∧ Bel W' w' from fun W' h => (spent_s1 g B s1 o1 W' (HMK.out.to h)).mono fun e w' ⟨a, b⟩ => ⟨a, by subst b; exact Bel.refl _⟩)
    have Q1 := cellReg q1
    have Q2 := cellReg q2
    clear q0 q1 q2 HM HR HBN hr0 hd0
    go_wp2_with fail
    refine wp_region_quiet_below (by kernel_rfl) (by kernel_rfl) ?_
    repeat (go_big_quiet_step (first | with_reducible exact callsReg K1.out | with_reducible exact callsReg K2.out))
    refine wpQuiet_nil ?_
    intro _ hw'
    obtain ⟨⟨dq, oq⟩, hw''⟩ := hw'
    subst hw''
    have HBN := HBK.out.trans (bel_regrown wb0 dq oq)
    have HM := HMK.out.to (bel_regrown wb0 dq oq)
    have HR := HRK.out.to (bel_regrown wb0 dq oq)
    generalize grow (redrawn wb0 dq) oq = W1 at *
    clear HMK HRK HBK K1 K2 Q1 Q2
    have HMK := Lib.hid HM
    have HRK := Lib.hid HR
    have hgs := HM.lt
    have hrs := HR.lt
    have Q := semStar_c (.pointer (some ⟨g, 0, none⟩)) (some g) (some (B, s1, o1)) _ Ax cx x W1 (MetO.of1 HM hs1 ht1 hB9) (Kx.out _ HBN) (fun j hj e => by injection e with e; have := hj.2; omega) _ rfl (by omega)
    rw [E1.out] at Q
    dsimp only at Q
    have HQ := Lib.hid Q
    clear Q HM HR
    go_wp2_with fail
    refine HQ.out.mono ?_
    clear HQ
    rintro e wa1 ⟨v, rfl, r, hm, hg⟩
    obtain ⟨Ac1, cc1, rfl, hr1⟩ := PSem.rd (t := 30) r
    have HM := (hm.at1 rfl).1
    have HR := HRK.out.by_ hg (Ne.symm hne)
    have HBa := HBN.grown hg (fun j e => by injection e with e; omega)
    clear hm r
    have hsz := hg.size
    clear hg HBN HMK HRK
    have HMK := Lib.hid HM
    have HRK := Lib.hid HR
    have hgs := HM.lt
    have hrs := HR.lt
    have Q := refStar_c (.pointer (some ⟨g2, 0, none⟩)) (some g2) (some (B, s1, o1)) _ Ax cx x wa1 (MetO.of1 HR hs1 ht1 hB9) (Kx.out _ HBa) (fun j hj e => by injection e with e; have := hj.2; omega) _ rfl (by omega)
    rw [E1.out] at Q
    dsimp only at Q
    have HQ := Lib.hid Q
    clear Q HM HR
    go_wp2_with fail
    refine HQ.out.mono ?_
    clear HQ
    rintro e wb1 ⟨v, rfl, r, hm, hg⟩
    obtain ⟨Ad1, cd1, rfl, hd1⟩ := r.rd
    have HR := (hm.at1 rfl).1
    have HM := HMK.out.by_ hg hne
    have HBN := HBa.grown hg (fun j e => by injection e with e; omega)
    replace hr1 := (hr1.bound.step' (fun j hj => hg.block j hj.2 (fun e => by injection e with e; have := hj.1; unfold Ge at this; omega))).all
    replace hd1 := hd1.all
    clear hm r hg HBa HMK HRK hsz
    obtain ⟨q0, q1, q2, _⟩ := HR.cells
    have HMK := Lib.hid HM
    have HRK := Lib.hid HR
    have HBK := Lib.hid HBN
    have K1 := Lib.hid (show ∀ W', Bel wb1 W' → Calls Tryz.prog 21 #[.slice Ac1 z1.length cc1, .slice Ad1 z1.length cd1] W' fun e w' => e = .returned (.bool true) ∧ Bel W' w' from fun W' h => by
      have := sameSem_c _ _ Ac1 Ad1 cc1 cd1 z1 z1 W' (hr1.to h) (hd1.to h) _ _ rfl rfl
      rwa [decide_eq_true (show z1 = z1 from rfl)] at this)
    have K2 := Lib.hid (show ∀ W', Bel wb1 W' → Calls Tryz.prog 34 #[.pointer (some ⟨g, 0, none⟩)] W' fun e w' => e = .returned (.int .i64 s2) ∧ Bel W' w' from fun W' h => (spent_s1 g B s2 o2 W' (HMK.out.to h)).mono fun e w' ⟨a, b⟩ => ⟨a, by subst b; exact Bel.refl _⟩)
    have Q1 := cellReg q1
    have Q2 := cellReg q2
    clear q0 q1 q2 HM HR HBN hr1 hd1
    go_wp2_with fail
    refine wp_region_quiet_below (by kernel_rfl) (by kernel_rfl) ?_
    repeat (go_big_quiet_step (first | with_reducible exact callsReg K1.out | with_reducible exact callsReg K2.out))
    refine wpQuiet_nil ?_
    intro _ hw'
    obtain ⟨⟨dq, oq⟩, hw''⟩ := hw'
    subst hw''
    have HBN := HBK.out.trans (bel_regrown wb1 dq oq)
    have HM := HMK.out.to (bel_regrown wb1 dq oq)
    have HR := HRK.out.to (bel_regrown wb1 dq oq)
    generalize grow (redrawn wb1 dq) oq = W2 at *
    clear HMK HRK HBK K1 K2 Q1 Q2
    have HMK := Lib.hid HM
    have HRK := Lib.hid HR
    have hgs := HM.lt
    have hrs := HR.lt
    have Q := semPow_c (.pointer (some ⟨g, 0, none⟩)) (some g) (some (B, s2, o2)) _ Ay cy y tt W2 (MetO.of1 HM hs2 ht2 hB9) (Ky.out _ HBN) (fun j hj e => by injection e with e; have := hj.2; omega) _ rfl (fun k _ he => PF.out s2 o2 hs2 ht2 k he)
    rw [E2.out] at Q
    dsimp only at Q
    have HQ := Lib.hid Q
    clear Q HM HR
    go_wp2_with fail
    refine HQ.out.mono ?_
    clear HQ
    rintro e wa2 ⟨v, rfl, r, hm, hg⟩
    obtain ⟨Ac2, cc2, rfl, hr2⟩ := r.rd
    have HM := (hm.at1 rfl).1
    have HR := HRK.out.by_ hg (Ne.symm hne)
    have HBa := HBN.grown hg (fun j e => by injection e with e; omega)
    clear hm r
    have hsz := hg.size
    clear hg HBN HMK HRK
    have HMK := Lib.hid HM
    have HRK := Lib.hid HR
    have hgs := HM.lt
    have hrs := HR.lt
    have Q := refPow_c (.pointer (some ⟨g2, 0, none⟩)) (some g2) (some (B, s2, o2)) _ Ay cy y tt wa2 (MetO.of1 HR hs2 ht2 hB9) (Ky.out _ HBa) (fun j hj e => by injection e with e; have := hj.2; omega) _ rfl (fun k _ he => PF.out s2 o2 hs2 ht2 k he)
    rw [E2.out] at Q
    dsimp only at Q
    have HQ := Lib.hid Q
    clear Q HM HR
    go_wp2_with fail
    refine HQ.out.mono ?_
    clear HQ
    rintro e wb2 ⟨v, rfl, r, hm, hg⟩
    obtain ⟨Ad2, cd2, rfl, hd2⟩ := r.rd
    have HR := (hm.at1 rfl).1
    have HM := HMK.out.by_ hg hne
    have HBN := HBa.grown hg (fun j e => by injection e with e; omega)
    replace hr2 := (hr2.bound.step' (fun j hj => hg.block j hj.2 (fun e => by injection e with e; have := hj.1; unfold Ge at this; omega))).all
    replace hd2 := hd2.all
    clear hm r hg HBa HMK HRK hsz
    obtain ⟨q0, q1, q2, _⟩ := HR.cells
    have HMK := Lib.hid HM
    have HRK := Lib.hid HR
    have HBK := Lib.hid HBN
    have K1 := Lib.hid (show ∀ W', Bel wb2 W' → Calls Tryz.prog 21 #[.slice Ac2 z2.length cc2, .slice Ad2 z2.length cd2] W' fun e w' => e = .returned (.bool true) ∧ Bel W' w' from fun W' h => by
      have := sameSem_c _ _ Ac2 Ad2 cc2 cd2 z2 z2 W' (hr2.to h) (hd2.to h) _ _ rfl rfl
      rwa [decide_eq_true (show z2 = z2 from rfl)] at this)
    have K2 := Lib.hid (show ∀ W', Bel wb2 W' → Calls Tryz.prog 34 #[.pointer (some ⟨g, 0, none⟩)] W' fun e w' => e = .returned (.int .i64 s3) ∧ Bel W' w' from fun W' h => (spent_s1 g B s3 o3 W' (HMK.out.to h)).mono fun e w' ⟨a, b⟩ => ⟨a, by subst b; exact Bel.refl _⟩)
    have Q1 := cellReg q1
    have Q2 := cellReg q2
    have K3 := Lib.hid (show ∀ W', Bel wb2 W' → Calls Tryz.prog 42 #[.pointer (some ⟨g, 0, none⟩)] W' fun e w' => e = .returned (.bool o3) ∧ Bel W' w' from fun W' h => (out_s1 g B s3 o3 W' (HMK.out.to h)).mono fun e w' ⟨a, b⟩ => ⟨a, by subst b; exact Bel.refl _⟩)
    have K4 := Lib.hid (show ∀ W', Bel wb2 W' → Calls Tryz.prog 17 #[] W' fun e w' => e = .returned (.bool true) ∧ Bel W' w' from fun W' _ => wakes07 W')
    clear q0 q1 q2 HM HR HBN hr2 hd2
    have hso : ∀ b : Bool, (b == b) = true := fun b => by cases b <;> rfl
    go_wp2_with fail
    refine wp_region_quiet_below (by kernel_rfl) (by kernel_rfl) ?_
    repeat (go_big_quiet_step (first | with_reducible exact callsReg K1.out | with_reducible exact callsReg K2.out | with_reducible exact callsReg K3.out | with_reducible exact callsReg K4.out))
    refine wpQuiet_nil ?_
    intro _ hw'
    obtain ⟨⟨dq, oq⟩, hw''⟩ := hw'
    subst hw''
    have HBN := HBK.out.trans (bel_regrown wb2 dq oq)
    go_wp2_with fail
    go_ret
    exact ⟨rfl, HW.out.trans HBN⟩
end Go.Proofs.YtbfbhacdllhddaaGreat
namespace Go.Proofs.YtbfbhacdllhddaaGreat.rowSemiWorks
open Go.ChangeShapes Go.WideShapes Go.ChangeAt Go.RowKit Go.Cb
open Go.ChangeMaps (open_string shut_string)
theorem own : ownKnob Tryz.prog.godebug = none := by kernel_rfl
theorem laidOut : laidOutB Tryz.prog = true := by kernel_rfl
set_option maxRecDepth 100000 in
theorem lifted (os : Os) (started : os.Started) (H : Type) (enc : TypeId × Value → H) :
    ReturnsInHanded {} Tryz.checked os 8 .any (Rows.semiWorksSpec.pre6 enc Tryz.prog Tryz.f8 Rows.semiWorksRow.domain false) (Rows.semiWorksSpec.post enc Tryz.prog Tryz.f8 false true false false) := by
  refine returnsInHanded_of_change_sized (C := Tryz.checked) own started (by kernel_rfl) Tryz.func8
    (ChangeSpec.witness6 (enc := enc) (C := Tryz.checked) false ⟨#[], #[.slice none 0 0, .slice none 0 0, .slice none 0 0, .int .i64 0, .int .i64 0, .int .i64 0], []⟩ 8 (by kernel_rfl) (by kernel_rfl) (by kernel_rfl) (by kernel_rfl)) ?_
  intro W base args ds gs before hval0 hW hcnd hsz0 _
  have hsz : (DataW.weightsEach Tryz.prog (Tryz.f8.params.toList ++ Rows.semiWorksSpec.plain.varTypes Tryz.prog) (ds ++ gs)).all (· ≤ reachBytes) = true := hsz0
  have hval : ∀ (j : Nat) t v, Tryz.f8.params[j]? = some t → args[j]? = some v → Value.okWide Tryz.prog W .any base t v := hval0
  have hW' := hW
  obtain ⟨p, q, hA0, hV, rfl, hfz, hnd⟩ := hW
  have hA : DataW.TrodAll enc Tryz.prog W 0 (fun _ => true) true Tryz.f8.params.toList args.toList ds p := hA0
  rw [Tryz.params8] at hA hval hsz
  obtain ⟨v0, vs0, d0, ds0, p0, q0, hargs, rfl, rfl, h0, r0⟩ := trodAll_cons hA
  obtain ⟨v1, vs1, d1, ds1, p1, q1, rfl, rfl, rfl, h1, r1⟩ := trodAll_cons r0
  obtain ⟨v2, vs2, d2, ds2, p2, q2, rfl, rfl, rfl, h2, r2⟩ := trodAll_cons r1
  obtain ⟨v3, vs3, d3, ds3, p3, q3, rfl, rfl, rfl, h3, r3⟩ := trodAll_cons r2
  obtain ⟨v4, vs4, d4, ds4, p4, q4, rfl, rfl, rfl, h4, r4⟩ := trodAll_cons r3
  obtain ⟨v5, vs5, d5, ds5, p5, q5, rfl, rfl, rfl, h5, r5⟩ := trodAll_cons r4
  obtain ⟨rfl, rfl, rfl⟩ := trodAll_nil r5
  obtain rfl : args = #[v0, v1, v2, v3, v4, v5] := by cases args; simp_all
  obtain ⟨rfl, rfl⟩ := trodVars_none hV
  obtain ⟨a0, len0, cap0, rfl⟩ := okWide_slice Tryz.underlying42 (hval 0 42 v0 rfl rfl)
  have k0 := h0
  have lt0 : ∀ x ∈ p0, x.block < W.heap.size := by obtain ⟨m, hm⟩ := k0; exact DataW.trod_lt m _ _ _ hm
  obtain ⟨m0, hm0⟩ := h0
  obtain ⟨x0, R0, ok0⟩ := opensRaws7 _ _ _ _ _ _ _ _ _ hm0
  replace R0 : (sl raw7T).rd W All x0 [.slice a0 len0 cap0] := R0
  obtain ⟨A0, c0, eq0, q0⟩ := R0
  obtain ⟨rfl, rfl, rfl⟩ : a0 = A0 ∧ len0 = x0.length ∧ cap0 = c0 := by simpa using eq0
  obtain ⟨a1, len1, cap1, rfl⟩ := okWide_slice Tryz.underlying22 (hval 1 22 v1 rfl rfl)
  have k1 := h1
  have lt1 : ∀ x ∈ p1, x.block < W.heap.size := by obtain ⟨m, hm⟩ := k1; exact DataW.trod_lt m _ _ _ hm
  obtain ⟨l1, rfl, R1, wf1, sz1⟩ := open_rd hsz (j := 1) (t := 22) rfl rfl Tryz.underlying22 Tryz.underlying3 (by kernel_rfl) (by kernel_rfl) h1
  obtain ⟨a2, len2, cap2, rfl⟩ := okWide_slice Tryz.underlying22 (hval 2 22 v2 rfl rfl)
  have k2 := h2
  have lt2 : ∀ x ∈ p2, x.block < W.heap.size := by obtain ⟨m, hm⟩ := k2; exact DataW.trod_lt m _ _ _ hm
  obtain ⟨l2, rfl, R2, wf2, sz2⟩ := open_rd hsz (j := 2) (t := 22) rfl rfl Tryz.underlying22 Tryz.underlying3 (by kernel_rfl) (by kernel_rfl) h2
  obtain ⟨a3, rfl, rfl, rfl, w3⟩ := open_int Tryz.underlying3 (hval 3 3 v3 rfl rfl) h3
  obtain ⟨a4, rfl, rfl, rfl, w4⟩ := open_int Tryz.underlying3 (hval 4 3 v4 rfl rfl) h4
  obtain ⟨a5, rfl, rfl, rfl, w5⟩ := open_int Tryz.underlying3 (hval 5 3 v5 rfl rfl) h5
  clear hA0 hval0 hsz0 hsz
  refine (SemiWorks_walk W a0 cap0 x0 q0 ok0 a1 cap1 l1 R1 (fun x hx => inI64_wf (wf1 x hx)) sz1 a2 cap2 l2 R2 (fun x hx => inI64_wf (wf2 x hx)) sz2 a3 (inI64_wf w3) a4 (inI64_wf w4) a5 (inI64_wf w5)).mono fun e W' ⟨he, bel⟩ => ?_
  subst he
  exact ⟨_, rfl, _, _, _, [], _, [], hW', trodAll_mk1 (shut_bool Tryz.underlying4 _), (trodAll_cons_mk (Below.trod laidOut (by kernel_rfl) (of_decide_eq_true (by kernel_rfl)) k0 bel.out lt0) (trodAll_cons_mk (Below.trod laidOut (by kernel_rfl) (of_decide_eq_true (by kernel_rfl)) k1 bel.out lt1) (trodAll_cons_mk (Below.trod laidOut (by kernel_rfl) (of_decide_eq_true (by kernel_rfl)) k2 bel.out lt2) (trodAll_cons_mk (shut_int Tryz.underlying3 w3) (trodAll_cons_mk (shut_int Tryz.underlying3 w4) (trodAll_cons_mk (shut_int Tryz.underlying3 w5) trodAll_mk0)))))), rfl, bel.out.frame _, fun h => by cases h⟩
theorem over : Rows.semiWorksRow.holds Tryz.pinned (OpenSpec.ofChange Rows.semiWorksSpec) :=
  OpenClaim.holds_of_wide 8 Tryz.f8 rfl rfl rfl rfl rfl rfl rfl ⟨rfl, rfl, rfl, rfl, rfl⟩ rfl rfl rfl rfl rfl (by kernel_rfl) Tryz.func8 (by kernel_rfl)
    (of_decide_eq_true (by kernel_rfl)) (by unfold Func.isWrapper; first | (rw [if_pos (by decide +kernel)]; kernel_rfl) | (rw [if_neg (by decide +kernel)]; exact ⟨rfl, rfl⟩))
    (fun os started H enc _ => lifted os started H enc)
end Go.Proofs.YtbfbhacdllhddaaGreat.rowSemiWorks
namespace Go.Proofs.YtbfbhacdllhddaaGreat
theorem SemiWorks_holds : Rows.SemiWorksSaid := rowSemiWorks.over
#print axioms SemiWorks_holds
end Go.Proofs.YtbfbhacdllhddaaGreat
