/- SemiLaws: sets together are so in whatever order; one times is itself, none times the empty word; what is in both orders of a sum is one. -/
import Derived.Test.YtbfbhacdllhddaaGreatPureL
import Derived.Test.YtbfbhacdllhddaaGreatMK
import Derived.Test.YtbfbhacdllhddaaGreatMB
set_option linter.unusedVariables false
set_option linter.unusedSimpArgs false
set_option linter.all false
namespace Go.Proofs.YtbfbhacdllhddaaGreat
open Go.RowKit Go.Cb Go.Sort
theorem rinst {α : Prop} (h : α) : α := h
set_option maxHeartbeats 32000000 in
set_option maxRecDepth 100000 in
theorem SemiLaws_walk (w : World) (A : Option Addr) (ca : Nat) (a : List Int) (ha : Rd intT w All A ca a) (ia : ∀ x ∈ a, inI64 x) (_ : a.length * 8 ≤ 140737488351232)
    (B : Option Addr) (cb : Nat) (b : List Int) (hb0 : Rd intT w All B cb b) (ib : ∀ x ∈ b, inI64 x) (_ : b.length * 8 ≤ 140737488351232)
    (C : Option Addr) (cc : Nat) (c : List Int) (hc : Rd intT w All C cc c) (ic : ∀ x ∈ c, inI64 x) (_ : c.length * 8 ≤ 140737488351232) :
    Calls Tryz.prog 7 #[.slice A a.length ca, .slice B b.length cb, .slice C c.length cc] w fun e w' => e = .returned (.bool true) ∧ Bel w w' := by
  obtain ⟨ox, hx6⟩ := playSem_ok a
  obtain ⟨oy, hy6⟩ := playSem_ok b
  obtain ⟨oz, hz6⟩ := playSem_ok c
  obtain ⟨x, hx⟩ : ∃ x, playSem a = x := ⟨_, rfl⟩
  obtain ⟨y, hy⟩ : ∃ y, playSem b = y := ⟨_, rfl⟩
  obtain ⟨z, hz⟩ : ∃ z, playSem c = z := ⟨_, rfl⟩
  have Hx := Lib.hid hx
  have Hy := Lib.hid hy
  have Hz := Lib.hid hz
  rw [hx] at ox hx6
  rw [hy] at oy hy6
  rw [hz] at oz hz6
  obtain ⟨p, l, xz, yz, u, e1, e2, e3, e4, e5, e6, e7, e8, e9, e10, e11, r1, r2, pu, pxz, pyz, lu, lxz, lyz⟩ := semi_laws ox oy oz
  have lxz : xz.length ≤ 36 := Nat.le_trans lxz (Nat.mul_le_mul hx6 hz6)
  have lyz : yz.length ≤ 36 := Nat.le_trans lyz (Nat.mul_le_mul hy6 hz6)
  have PF := Lib.hid (pow_fit ox hx6)
  have E1 := Lib.hid e1
  have E2 := Lib.hid e2
  have E3 := Lib.hid e3
  have E4 := Lib.hid e4
  have E5 := Lib.hid e5
  have E6 := Lib.hid e6
  have E7 := Lib.hid e7
  have E8 := Lib.hid e8
  have E9 := Lib.hid e9
  have E10 := Lib.hid e10
  have E11 := Lib.hid e11
  have R1 := Lib.hid r1
  have R2 := Lib.hid r2
  have Px := Lib.hid (fun v (hv : v ∈ x) => Nat.le_trans (ox.per v hv) (show 8 ≤ 16 by decide))
  have Py := Lib.hid (fun v (hv : v ∈ y) => Nat.le_trans (oy.per v hv) (show 8 ≤ 16 by decide))
  have Pz := Lib.hid (fun v (hv : v ∈ z) => Nat.le_trans (oz.per v hv) (show 8 ≤ 16 by decide))
  have Pu1 := Lib.hid pu
  have Pxz := Lib.hid pxz
  have Pyz := Lib.hid pyz
  have HB := Bel.refl w
  clear hx hy hz e1 e2 e3 e4 e5 e6 e7 e8 e9 e10 e11 r1 r2 pu pxz pyz ox oy oz
  go_enter Tryz.func7, Tryz.ntmps7
  have Q := playSemi_c _ A ca a w (ha.to HB) ia _ rfl
  rw [Hx.out] at Q
  have HQ := Lib.hid Q
  clear Q
  go_wp2_with fail
  refine HQ.out.mono ?_
  rintro e w1 ⟨v, rfl, r, hb⟩
  obtain ⟨Ax, cx, rfl, hr⟩ := r.rd
  clear HQ
  replace HB := HB.trans hb
  have Kx := Lib.hid (fun W (h : Bel w1 W) => (hr.to h).all)
  clear hr
  clear hb
  have Q := playSemi_c _ B cb b w1 (hb0.to HB) ib _ rfl
  rw [Hy.out] at Q
  have HQ := Lib.hid Q
  clear Q
  go_wp2_with fail
  refine HQ.out.mono ?_
  rintro e w2 ⟨v, rfl, r, hb⟩
  obtain ⟨Ay, cy, rfl, hr⟩ := r.rd
  clear HQ
  replace Kx := Lib.hid (fun W h => Kx.out W (hb.trans h))
  replace HB := HB.trans hb
  have Ky := Lib.hid (fun W (h : Bel w2 W) => (hr.to h).all)
  clear hr
  clear hb
  have Q := playSemi_c _ C cc c w2 (hc.to HB) ic _ rfl
  rw [Hz.out] at Q
  have HQ := Lib.hid Q
  clear Q
  go_wp2_with fail
  refine HQ.out.mono ?_
  rintro e w3 ⟨v, rfl, r, hb⟩
  obtain ⟨Az, cz, rfl, hr⟩ := r.rd
  clear HQ
  replace Kx := Lib.hid (fun W h => Kx.out W (hb.trans h))
  replace Ky := Lib.hid (fun W h => Ky.out W (hb.trans h))
  replace HB := HB.trans hb
  have Kz := Lib.hid (fun W (h : Bel w3 W) => (hr.to h).all)
  clear hr
  clear hb
  have Q := semCatN_c _ _ Ax Ay cx cy x y w3 (Kx.out _ (Bel.refl _)) (Ky.out _ (Bel.refl _)) _ _ rfl rfl (by omega) (by omega) (fun u hu v hv => by have h1 := Px.out u hu; have h2 := Py.out v hv; omega)
  rw [E1.out] at Q
  have HQ := Lib.hid Q
  clear Q
  go_wp2_with fail
  refine HQ.out.mono ?_
  rintro e w4 ⟨v, rfl, r, hb⟩
  obtain ⟨Ap, cp, rfl, hr⟩ := r.rd
  clear HQ
  replace Kx := Lib.hid (fun W h => Kx.out W (hb.trans h))
  replace Ky := Lib.hid (fun W h => Ky.out W (hb.trans h))
  replace Kz := Lib.hid (fun W h => Kz.out W (hb.trans h))
  replace HB := HB.trans hb
  have Kp := Lib.hid (fun W (h : Bel w4 W) => (hr.to h).all)
  clear hr
  clear hb
  have Q := semCatN_c _ _ Ay Ax cy cx y x w4 (Ky.out _ (Bel.refl _)) (Kx.out _ (Bel.refl _)) _ _ rfl rfl (by omega) (by omega) (fun u hu v hv => by have h1 := Py.out u hu; have h2 := Px.out v hv; omega)
  rw [E2.out] at Q
  have HQ := Lib.hid Q
  clear Q
  go_wp2_with fail
  refine HQ.out.mono ?_
  rintro e w5 ⟨v, rfl, r, hb⟩
  obtain ⟨Aq, cq, rfl, hr⟩ := r.rd
  clear HQ
  replace Kx := Lib.hid (fun W h => Kx.out W (hb.trans h))
  replace Ky := Lib.hid (fun W h => Ky.out W (hb.trans h))
  replace Kz := Lib.hid (fun W h => Kz.out W (hb.trans h))
  replace Kp := Lib.hid (fun W h => Kp.out W (hb.trans h))
  replace HB := HB.trans hb
  have Kq := Lib.hid (fun W (h : Bel w5 W) => (hr.to h).all)
  clear hr
  clear hb
  have Q := semPowN_c _ Ax cx x 1 w5 (Kx.out _ (Bel.refl _)) _ rfl (fun k hk _ => PF.out k (by omega))
  rw [E3.out] at Q
  have HQ := Lib.hid Q
  clear Q
  go_wp2_with fail
  refine HQ.out.mono ?_
  rintro e w6 ⟨v, rfl, r, hb⟩
  obtain ⟨Aone, cone, rfl, hr⟩ := r.rd
  clear HQ
  replace Kx := Lib.hid (fun W h => Kx.out W (hb.trans h))
  replace Ky := Lib.hid (fun W h => Ky.out W (hb.trans h))
  replace Kz := Lib.hid (fun W h => Kz.out W (hb.trans h))
  replace Kp := Lib.hid (fun W h => Kp.out W (hb.trans h))
  replace Kq := Lib.hid (fun W h => Kq.out W (hb.trans h))
  replace HB := HB.trans hb
  have Kone := Lib.hid (fun W (h : Bel w6 W) => (hr.to h).all)
  clear hr
  clear hb
  have Q := semPowN_c _ Ax cx x 0 w6 (Kx.out _ (Bel.refl _)) _ rfl (fun k hk _ => PF.out k (by omega))
  rw [E4.out] at Q
  have HQ := Lib.hid Q
  clear Q
  go_wp2_with fail
  refine HQ.out.mono ?_
  rintro e w7 ⟨v, rfl, r, hb⟩
  obtain ⟨Ano, cno, rfl, hr⟩ := r.rd
  clear HQ
  replace Kx := Lib.hid (fun W h => Kx.out W (hb.trans h))
  replace Ky := Lib.hid (fun W h => Ky.out W (hb.trans h))
  replace Kz := Lib.hid (fun W h => Kz.out W (hb.trans h))
  replace Kp := Lib.hid (fun W h => Kp.out W (hb.trans h))
  replace Kq := Lib.hid (fun W h => Kq.out W (hb.trans h))
  replace Kone := Lib.hid (fun W h => Kone.out W (hb.trans h))
  replace HB := HB.trans hb
  have Kno := Lib.hid (fun W (h : Bel w7 W) => (hr.to h).all)
  clear hr
  clear hb
  have Q := union_c _ _ Ax Ay cx cy x y w7 (Kx.out _ (Bel.refl _)) (Ky.out _ (Bel.refl _)) _ _ rfl rfl (by omega) (fun u hu => by rcases List.mem_append.1 hu with h | h; exact Nat.le_trans (Px.out u h) (by decide); exact Nat.le_trans (Py.out u h) (by decide))
  rw [E5.out] at Q
  have HQ := Lib.hid Q
  clear Q
  go_wp2_with fail
  refine HQ.out.mono ?_
  rintro e w8 ⟨v, rfl, r, hb⟩
  obtain ⟨Au1, cu1, rfl, hr⟩ := PSem.rd (t := 30) r
  clear HQ
  replace Kx := Lib.hid (fun W h => Kx.out W (hb.trans h))
  replace Ky := Lib.hid (fun W h => Ky.out W (hb.trans h))
  replace Kz := Lib.hid (fun W h => Kz.out W (hb.trans h))
  replace Kp := Lib.hid (fun W h => Kp.out W (hb.trans h))
  replace Kq := Lib.hid (fun W h => Kq.out W (hb.trans h))
  replace Kone := Lib.hid (fun W h => Kone.out W (hb.trans h))
  replace Kno := Lib.hid (fun W h => Kno.out W (hb.trans h))
  replace HB := HB.trans hb
  have Ku1 := Lib.hid (fun W (h : Bel w8 W) => (hr.to h).all)
  clear hr
  clear hb
  have Q := semCatN_c _ _ Au1 Az cu1 cz u z w8 (Ku1.out _ (Bel.refl _)) (Kz.out _ (Bel.refl _)) _ _ rfl rfl (by omega) (by omega) (fun u hu v hv => by have h1 := Pu1.out u hu; have h2 := Pz.out v hv; omega)
  rw [E7.out] at Q
  have HQ := Lib.hid Q
  clear Q
  go_wp2_with fail
  refine HQ.out.mono ?_
  rintro e w9 ⟨v, rfl, r, hb⟩
  obtain ⟨Al, cl, rfl, hr⟩ := r.rd
  clear HQ
  replace Kx := Lib.hid (fun W h => Kx.out W (hb.trans h))
  replace Ky := Lib.hid (fun W h => Ky.out W (hb.trans h))
  replace Kz := Lib.hid (fun W h => Kz.out W (hb.trans h))
  replace Kp := Lib.hid (fun W h => Kp.out W (hb.trans h))
  replace Kq := Lib.hid (fun W h => Kq.out W (hb.trans h))
  replace Kone := Lib.hid (fun W h => Kone.out W (hb.trans h))
  replace Kno := Lib.hid (fun W h => Kno.out W (hb.trans h))
  replace Ku1 := Lib.hid (fun W h => Ku1.out W (hb.trans h))
  replace HB := HB.trans hb
  have Kl := Lib.hid (fun W (h : Bel w9 W) => (hr.to h).all)
  clear hr
  clear hb
  have Q := semCatN_c _ _ Ax Az cx cz x z w9 (Kx.out _ (Bel.refl _)) (Kz.out _ (Bel.refl _)) _ _ rfl rfl (by omega) (by omega) (fun u hu v hv => by have h1 := Px.out u hu; have h2 := Pz.out v hv; omega)
  rw [E8.out] at Q
  have HQ := Lib.hid Q
  clear Q
  go_wp2_with fail
  refine HQ.out.mono ?_
  rintro e w10 ⟨v, rfl, r, hb⟩
  obtain ⟨Axz, cxz, rfl, hr⟩ := r.rd
  clear HQ
  replace Kx := Lib.hid (fun W h => Kx.out W (hb.trans h))
  replace Ky := Lib.hid (fun W h => Ky.out W (hb.trans h))
  replace Kz := Lib.hid (fun W h => Kz.out W (hb.trans h))
  replace Kp := Lib.hid (fun W h => Kp.out W (hb.trans h))
  replace Kq := Lib.hid (fun W h => Kq.out W (hb.trans h))
  replace Kone := Lib.hid (fun W h => Kone.out W (hb.trans h))
  replace Kno := Lib.hid (fun W h => Kno.out W (hb.trans h))
  replace Ku1 := Lib.hid (fun W h => Ku1.out W (hb.trans h))
  replace Kl := Lib.hid (fun W h => Kl.out W (hb.trans h))
  replace HB := HB.trans hb
  have Kxz := Lib.hid (fun W (h : Bel w10 W) => (hr.to h).all)
  clear hr
  clear hb
  have Q := semCatN_c _ _ Ay Az cy cz y z w10 (Ky.out _ (Bel.refl _)) (Kz.out _ (Bel.refl _)) _ _ rfl rfl (by omega) (by omega) (fun u hu v hv => by have h1 := Py.out u hu; have h2 := Pz.out v hv; omega)
  rw [E9.out] at Q
  have HQ := Lib.hid Q
  clear Q
  go_wp2_with fail
  refine HQ.out.mono ?_
  rintro e w11 ⟨v, rfl, r, hb⟩
  obtain ⟨Ayz, cyz, rfl, hr⟩ := r.rd
  clear HQ
  replace Kx := Lib.hid (fun W h => Kx.out W (hb.trans h))
  replace Ky := Lib.hid (fun W h => Ky.out W (hb.trans h))
  replace Kz := Lib.hid (fun W h => Kz.out W (hb.trans h))
  replace Kp := Lib.hid (fun W h => Kp.out W (hb.trans h))
  replace Kq := Lib.hid (fun W h => Kq.out W (hb.trans h))
  replace Kone := Lib.hid (fun W h => Kone.out W (hb.trans h))
  replace Kno := Lib.hid (fun W h => Kno.out W (hb.trans h))
  replace Ku1 := Lib.hid (fun W h => Ku1.out W (hb.trans h))
  replace Kl := Lib.hid (fun W h => Kl.out W (hb.trans h))
  replace Kxz := Lib.hid (fun W h => Kxz.out W (hb.trans h))
  replace HB := HB.trans hb
  have Kyz := Lib.hid (fun W (h : Bel w11 W) => (hr.to h).all)
  clear hr
  clear hb
  have Q := sameSem_c _ _ Ap Aq cp cq p p w11 (Kp.out _ (Bel.refl _)) (Kq.out _ (Bel.refl _)) _ _ rfl rfl
  rw [decide_eq_true (show p = p from rfl)] at Q
  have HQ := Lib.hid Q
  clear Q
  go_wp2_with fail
  refine HQ.out.mono ?_
  rintro e w12 ⟨rfl, hb⟩
  clear HQ
  replace Kx := Lib.hid (fun W h => Kx.out W (hb.trans h))
  replace Ky := Lib.hid (fun W h => Ky.out W (hb.trans h))
  replace Kz := Lib.hid (fun W h => Kz.out W (hb.trans h))
  replace Kp := Lib.hid (fun W h => Kp.out W (hb.trans h))
  replace Kq := Lib.hid (fun W h => Kq.out W (hb.trans h))
  replace Kone := Lib.hid (fun W h => Kone.out W (hb.trans h))
  replace Kno := Lib.hid (fun W h => Kno.out W (hb.trans h))
  replace Ku1 := Lib.hid (fun W h => Ku1.out W (hb.trans h))
  replace Kl := Lib.hid (fun W h => Kl.out W (hb.trans h))
  replace Kxz := Lib.hid (fun W h => Kxz.out W (hb.trans h))
  replace Kyz := Lib.hid (fun W h => Kyz.out W (hb.trans h))
  replace HB := HB.trans hb
  clear hb
  have Q := sameSem_c _ _ Aone Ax cone cx x x w12 (Kone.out _ (Bel.refl _)) (Kx.out _ (Bel.refl _)) _ _ rfl rfl
  rw [decide_eq_true (show x = x from rfl)] at Q
  have HQ := Lib.hid Q
  clear Q
  go_wp2_with fail
  refine HQ.out.mono ?_
  rintro e w13 ⟨rfl, hb⟩
  clear HQ
  replace Kx := Lib.hid (fun W h => Kx.out W (hb.trans h))
  replace Ky := Lib.hid (fun W h => Ky.out W (hb.trans h))
  replace Kz := Lib.hid (fun W h => Kz.out W (hb.trans h))
  replace Kp := Lib.hid (fun W h => Kp.out W (hb.trans h))
  replace Kq := Lib.hid (fun W h => Kq.out W (hb.trans h))
  replace Kone := Lib.hid (fun W h => Kone.out W (hb.trans h))
  replace Kno := Lib.hid (fun W h => Kno.out W (hb.trans h))
  replace Ku1 := Lib.hid (fun W h => Ku1.out W (hb.trans h))
  replace Kl := Lib.hid (fun W h => Kl.out W (hb.trans h))
  replace Kxz := Lib.hid (fun W h => Kxz.out W (hb.trans h))
  replace Kyz := Lib.hid (fun W h => Kyz.out W (hb.trans h))
  replace HB := HB.trans hb
  clear hb
  have Q := semOne_c w13
  have HQ := Lib.hid Q
  clear Q
  go_wp2_with fail
  refine HQ.out.mono ?_
  rintro e w14 ⟨Ao1, co1, rfl, hr, _, hb⟩
  clear HQ
  replace Kx := Lib.hid (fun W h => Kx.out W (hb.trans h))
  replace Ky := Lib.hid (fun W h => Ky.out W (hb.trans h))
  replace Kz := Lib.hid (fun W h => Kz.out W (hb.trans h))
  replace Kp := Lib.hid (fun W h => Kp.out W (hb.trans h))
  replace Kq := Lib.hid (fun W h => Kq.out W (hb.trans h))
  replace Kone := Lib.hid (fun W h => Kone.out W (hb.trans h))
  replace Kno := Lib.hid (fun W h => Kno.out W (hb.trans h))
  replace Ku1 := Lib.hid (fun W h => Ku1.out W (hb.trans h))
  replace Kl := Lib.hid (fun W h => Kl.out W (hb.trans h))
  replace Kxz := Lib.hid (fun W h => Kxz.out W (hb.trans h))
  replace Kyz := Lib.hid (fun W h => Kyz.out W (hb.trans h))
  replace HB := HB.trans hb
  have Ko1 := Lib.hid (fun W (h : Bel w14 W) => (hr.to h).all)
  clear hr hb
  have Q := sameSem_c _ _ Ano Ao1 cno co1 oneS oneS w14 (Kno.out _ (Bel.refl _)) (Ko1.out _ (Bel.refl _)) _ _ rfl rfl
  rw [decide_eq_true (show oneS = oneS from rfl)] at Q
  have HQ := Lib.hid Q
  clear Q
  go_wp2_with fail
  refine HQ.out.mono ?_
  rintro e w15 ⟨rfl, hb⟩
  clear HQ
  replace Kx := Lib.hid (fun W h => Kx.out W (hb.trans h))
  replace Ky := Lib.hid (fun W h => Ky.out W (hb.trans h))
  replace Kz := Lib.hid (fun W h => Kz.out W (hb.trans h))
  replace Kp := Lib.hid (fun W h => Kp.out W (hb.trans h))
  replace Kq := Lib.hid (fun W h => Kq.out W (hb.trans h))
  replace Kone := Lib.hid (fun W h => Kone.out W (hb.trans h))
  replace Kno := Lib.hid (fun W h => Kno.out W (hb.trans h))
  replace Ku1 := Lib.hid (fun W h => Ku1.out W (hb.trans h))
  replace Kl := Lib.hid (fun W h => Kl.out W (hb.trans h))
  replace Kxz := Lib.hid (fun W h => Kxz.out W (hb.trans h))
  replace Kyz := Lib.hid (fun W h => Kyz.out W (hb.trans h))
  replace Ko1 := Lib.hid (fun W h => Ko1.out W (hb.trans h))
  replace HB := HB.trans hb
  clear hb
  have Q := union_c _ _ Axz Ayz cxz cyz xz yz w15 (Kxz.out _ (Bel.refl _)) (Kyz.out _ (Bel.refl _)) _ _ rfl rfl (by omega) (fun u hu => by rcases List.mem_append.1 hu with h | h; exact Nat.le_trans (Pxz.out u h) (by decide); exact Nat.le_trans (Pyz.out u h) (by decide))
  rw [E10.out] at Q
  have HQ := Lib.hid Q
  clear Q
  go_wp2_with fail
  refine HQ.out.mono ?_
  rintro e w16 ⟨v, rfl, r, hb⟩
  obtain ⟨Au2, cu2, rfl, hr⟩ := PSem.rd (t := 30) r
  clear HQ
  replace Kx := Lib.hid (fun W h => Kx.out W (hb.trans h))
  replace Ky := Lib.hid (fun W h => Ky.out W (hb.trans h))
  replace Kz := Lib.hid (fun W h => Kz.out W (hb.trans h))
  replace Kp := Lib.hid (fun W h => Kp.out W (hb.trans h))
  replace Kq := Lib.hid (fun W h => Kq.out W (hb.trans h))
  replace Kone := Lib.hid (fun W h => Kone.out W (hb.trans h))
  replace Kno := Lib.hid (fun W h => Kno.out W (hb.trans h))
  replace Ku1 := Lib.hid (fun W h => Ku1.out W (hb.trans h))
  replace Kl := Lib.hid (fun W h => Kl.out W (hb.trans h))
  replace Kxz := Lib.hid (fun W h => Kxz.out W (hb.trans h))
  replace Kyz := Lib.hid (fun W h => Kyz.out W (hb.trans h))
  replace Ko1 := Lib.hid (fun W h => Ko1.out W (hb.trans h))
  replace HB := HB.trans hb
  have Ku2 := Lib.hid (fun W (h : Bel w16 W) => (hr.to h).all)
  clear hr
  clear hb
  have Q := sameSem_c _ _ Al Au2 cl cu2 l l w16 (Kl.out _ (Bel.refl _)) (Ku2.out _ (Bel.refl _)) _ _ rfl rfl
  rw [decide_eq_true (show l = l from rfl)] at Q
  have HQ := Lib.hid Q
  clear Q
  go_wp2_with fail
  refine HQ.out.mono ?_
  rintro e w17 ⟨rfl, hb⟩
  clear HQ
  replace Kx := Lib.hid (fun W h => Kx.out W (hb.trans h))
  replace Ky := Lib.hid (fun W h => Ky.out W (hb.trans h))
  replace Kz := Lib.hid (fun W h => Kz.out W (hb.trans h))
  replace Kp := Lib.hid (fun W h => Kp.out W (hb.trans h))
  replace Kq := Lib.hid (fun W h => Kq.out W (hb.trans h))
  replace Kone := Lib.hid (fun W h => Kone.out W (hb.trans h))
  replace Kno := Lib.hid (fun W h => Kno.out W (hb.trans h))
  replace Ku1 := Lib.hid (fun W h => Ku1.out W (hb.trans h))
  replace Kl := Lib.hid (fun W h => Kl.out W (hb.trans h))
  replace Kxz := Lib.hid (fun W h => Kxz.out W (hb.trans h))
  replace Kyz := Lib.hid (fun W h => Kyz.out W (hb.trans h))
  replace Ko1 := Lib.hid (fun W h => Ko1.out W (hb.trans h))
  replace Ku2 := Lib.hid (fun W h => Ku2.out W (hb.trans h))
  replace HB := HB.trans hb
  clear hb
  have Q := union_c _ _ Ax Ay cx cy x y w17 (Kx.out _ (Bel.refl _)) (Ky.out _ (Bel.refl _)) _ _ rfl rfl (by omega) (fun u hu => by rcases List.mem_append.1 hu with h | h; exact Nat.le_trans (Px.out u h) (by decide); exact Nat.le_trans (Py.out u h) (by decide))
  rw [E5.out] at Q
  have HQ := Lib.hid Q
  clear Q
  go_wp2_with fail
  refine HQ.out.mono ?_
  rintro e w18 ⟨v, rfl, r, hb⟩
  obtain ⟨Au3, cu3, rfl, hr⟩ := PSem.rd (t := 30) r
  clear HQ
  replace Kx := Lib.hid (fun W h => Kx.out W (hb.trans h))
  replace Ky := Lib.hid (fun W h => Ky.out W (hb.trans h))
  replace Kz := Lib.hid (fun W h => Kz.out W (hb.trans h))
  replace Kp := Lib.hid (fun W h => Kp.out W (hb.trans h))
  replace Kq := Lib.hid (fun W h => Kq.out W (hb.trans h))
  replace Kone := Lib.hid (fun W h => Kone.out W (hb.trans h))
  replace Kno := Lib.hid (fun W h => Kno.out W (hb.trans h))
  replace Ku1 := Lib.hid (fun W h => Ku1.out W (hb.trans h))
  replace Kl := Lib.hid (fun W h => Kl.out W (hb.trans h))
  replace Kxz := Lib.hid (fun W h => Kxz.out W (hb.trans h))
  replace Kyz := Lib.hid (fun W h => Kyz.out W (hb.trans h))
  replace Ko1 := Lib.hid (fun W h => Ko1.out W (hb.trans h))
  replace Ku2 := Lib.hid (fun W h => Ku2.out W (hb.trans h))
  replace HB := HB.trans hb
  have Ku3 := Lib.hid (fun W (h : Bel w18 W) => (hr.to h).all)
  clear hr
  clear hb
  have Q := union_c _ _ Ay Ax cy cx y x w18 (Ky.out _ (Bel.refl _)) (Kx.out _ (Bel.refl _)) _ _ rfl rfl (by omega) (fun u hu => by rcases List.mem_append.1 hu with h | h; exact Nat.le_trans (Py.out u h) (by decide); exact Nat.le_trans (Px.out u h) (by decide))
  rw [E6.out] at Q
  have HQ := Lib.hid Q
  clear Q
  go_wp2_with fail
  refine HQ.out.mono ?_
  rintro e w19 ⟨v, rfl, r, hb⟩
  obtain ⟨Au4, cu4, rfl, hr⟩ := PSem.rd (t := 30) r
  clear HQ
  replace Kx := Lib.hid (fun W h => Kx.out W (hb.trans h))
  replace Ky := Lib.hid (fun W h => Ky.out W (hb.trans h))
  replace Kz := Lib.hid (fun W h => Kz.out W (hb.trans h))
  replace Kp := Lib.hid (fun W h => Kp.out W (hb.trans h))
  replace Kq := Lib.hid (fun W h => Kq.out W (hb.trans h))
  replace Kone := Lib.hid (fun W h => Kone.out W (hb.trans h))
  replace Kno := Lib.hid (fun W h => Kno.out W (hb.trans h))
  replace Ku1 := Lib.hid (fun W h => Ku1.out W (hb.trans h))
  replace Kl := Lib.hid (fun W h => Kl.out W (hb.trans h))
  replace Kxz := Lib.hid (fun W h => Kxz.out W (hb.trans h))
  replace Kyz := Lib.hid (fun W h => Kyz.out W (hb.trans h))
  replace Ko1 := Lib.hid (fun W h => Ko1.out W (hb.trans h))
  replace Ku2 := Lib.hid (fun W h => Ku2.out W (hb.trans h))
  replace Ku3 := Lib.hid (fun W h => Ku3.out W (hb.trans h))
  replace HB := HB.trans hb
  have Ku4 := Lib.hid (fun W (h : Bel w19 W) => (hr.to h).all)
  clear hr
  clear hb
  have Q := sameSem_c _ _ Au3 Au4 cu3 cu4 u u w19 (Ku3.out _ (Bel.refl _)) (Ku4.out _ (Bel.refl _)) _ _ rfl rfl
  rw [decide_eq_true (show u = u from rfl)] at Q
  have HQ := Lib.hid Q
  clear Q
  go_wp2_with fail
  refine HQ.out.mono ?_
  rintro e w20 ⟨rfl, hb⟩
  clear HQ
  replace Kx := Lib.hid (fun W h => Kx.out W (hb.trans h))
  replace Ky := Lib.hid (fun W h => Ky.out W (hb.trans h))
  replace Kz := Lib.hid (fun W h => Kz.out W (hb.trans h))
  replace Kp := Lib.hid (fun W h => Kp.out W (hb.trans h))
  replace Kq := Lib.hid (fun W h => Kq.out W (hb.trans h))
  replace Kone := Lib.hid (fun W h => Kone.out W (hb.trans h))
  replace Kno := Lib.hid (fun W h => Kno.out W (hb.trans h))
  replace Ku1 := Lib.hid (fun W h => Ku1.out W (hb.trans h))
  replace Kl := Lib.hid (fun W h => Kl.out W (hb.trans h))
  replace Kxz := Lib.hid (fun W h => Kxz.out W (hb.trans h))
  replace Kyz := Lib.hid (fun W h => Kyz.out W (hb.trans h))
  replace Ko1 := Lib.hid (fun W h => Ko1.out W (hb.trans h))
  replace Ku2 := Lib.hid (fun W h => Ku2.out W (hb.trans h))
  replace Ku3 := Lib.hid (fun W h => Ku3.out W (hb.trans h))
  replace Ku4 := Lib.hid (fun W h => Ku4.out W (hb.trans h))
  replace HB := HB.trans hb
  clear hb
  have Q := union_c _ _ Ax Ax cx cx x x w20 (Kx.out _ (Bel.refl _)) (Kx.out _ (Bel.refl _)) _ _ rfl rfl (by omega) (fun u hu => by rcases List.mem_append.1 hu with h | h; exact Nat.le_trans (Px.out u h) (by decide); exact Nat.le_trans (Px.out u h) (by decide))
  rw [E11.out] at Q
  have HQ := Lib.hid Q
  clear Q
  go_wp2_with fail
  refine HQ.out.mono ?_
  rintro e w21 ⟨v, rfl, r, hb⟩
  obtain ⟨Au5, cu5, rfl, hr⟩ := PSem.rd (t := 30) r
  clear HQ
  replace Kx := Lib.hid (fun W h => Kx.out W (hb.trans h))
  replace Ky := Lib.hid (fun W h => Ky.out W (hb.trans h))
  replace Kz := Lib.hid (fun W h => Kz.out W (hb.trans h))
  replace Kp := Lib.hid (fun W h => Kp.out W (hb.trans h))
  replace Kq := Lib.hid (fun W h => Kq.out W (hb.trans h))
  replace Kone := Lib.hid (fun W h => Kone.out W (hb.trans h))
  replace Kno := Lib.hid (fun W h => Kno.out W (hb.trans h))
  replace Ku1 := Lib.hid (fun W h => Ku1.out W (hb.trans h))
  replace Kl := Lib.hid (fun W h => Kl.out W (hb.trans h))
  replace Kxz := Lib.hid (fun W h => Kxz.out W (hb.trans h))
  replace Kyz := Lib.hid (fun W h => Kyz.out W (hb.trans h))
  replace Ko1 := Lib.hid (fun W h => Ko1.out W (hb.trans h))
  replace Ku2 := Lib.hid (fun W h => Ku2.out W (hb.trans h))
  replace Ku3 := Lib.hid (fun W h => Ku3.out W (hb.trans h))
  replace Ku4 := Lib.hid (fun W h => Ku4.out W (hb.trans h))
  replace HB := HB.trans hb
  have Ku5 := Lib.hid (fun W (h : Bel w21 W) => (hr.to h).all)
  clear hr
  clear hb
  have Q := sameSem_c _ _ Au5 Ax cu5 cx x x w21 (Ku5.out _ (Bel.refl _)) (Kx.out _ (Bel.refl _)) _ _ rfl rfl
  rw [decide_eq_true (show x = x from rfl)] at Q
  have HQ := Lib.hid Q
  clear Q
  go_wp2_with fail
  refine HQ.out.mono ?_
  rintro e w22 ⟨rfl, hb⟩
  clear HQ
  replace Kx := Lib.hid (fun W h => Kx.out W (hb.trans h))
  replace Ky := Lib.hid (fun W h => Ky.out W (hb.trans h))
  replace Kz := Lib.hid (fun W h => Kz.out W (hb.trans h))
  replace Kp := Lib.hid (fun W h => Kp.out W (hb.trans h))
  replace Kq := Lib.hid (fun W h => Kq.out W (hb.trans h))
  replace Kone := Lib.hid (fun W h => Kone.out W (hb.trans h))
  replace Kno := Lib.hid (fun W h => Kno.out W (hb.trans h))
  replace Ku1 := Lib.hid (fun W h => Ku1.out W (hb.trans h))
  replace Kl := Lib.hid (fun W h => Kl.out W (hb.trans h))
  replace Kxz := Lib.hid (fun W h => Kxz.out W (hb.trans h))
  replace Kyz := Lib.hid (fun W h => Kyz.out W (hb.trans h))
  replace Ko1 := Lib.hid (fun W h => Ko1.out W (hb.trans h))
  replace Ku2 := Lib.hid (fun W h => Ku2.out W (hb.trans h))
  replace Ku3 := Lib.hid (fun W h => Ku3.out W (hb.trans h))
  replace Ku4 := Lib.hid (fun W h => Ku4.out W (hb.trans h))
  replace Ku5 := Lib.hid (fun W h => Ku5.out W (hb.trans h))
  replace HB := HB.trans hb
  clear hb
  have Q := semRight_c _ Ap cp p w22 (Kp.out _ (Bel.refl _)) _ rfl
  rw [R1.out] at Q
  have HQ := Lib.hid Q
  clear Q
  go_wp2_with fail
  refine HQ.out.mono ?_
  rintro e w23 ⟨rfl, hb⟩
  clear HQ
  replace Kx := Lib.hid (fun W h => Kx.out W (hb.trans h))
  replace Ky := Lib.hid (fun W h => Ky.out W (hb.trans h))
  replace Kz := Lib.hid (fun W h => Kz.out W (hb.trans h))
  replace Kp := Lib.hid (fun W h => Kp.out W (hb.trans h))
  replace Kq := Lib.hid (fun W h => Kq.out W (hb.trans h))
  replace Kone := Lib.hid (fun W h => Kone.out W (hb.trans h))
  replace Kno := Lib.hid (fun W h => Kno.out W (hb.trans h))
  replace Ku1 := Lib.hid (fun W h => Ku1.out W (hb.trans h))
  replace Kl := Lib.hid (fun W h => Kl.out W (hb.trans h))
  replace Kxz := Lib.hid (fun W h => Kxz.out W (hb.trans h))
  replace Kyz := Lib.hid (fun W h => Kyz.out W (hb.trans h))
  replace Ko1 := Lib.hid (fun W h => Ko1.out W (hb.trans h))
  replace Ku2 := Lib.hid (fun W h => Ku2.out W (hb.trans h))
  replace Ku3 := Lib.hid (fun W h => Ku3.out W (hb.trans h))
  replace Ku4 := Lib.hid (fun W h => Ku4.out W (hb.trans h))
  replace Ku5 := Lib.hid (fun W h => Ku5.out W (hb.trans h))
  replace HB := HB.trans hb
  clear hb
  have Q := semRight_c _ Al cl l w23 (Kl.out _ (Bel.refl _)) _ rfl
  rw [R2.out] at Q
  have HQ := Lib.hid Q
  clear Q
  go_wp2_with fail
  refine HQ.out.mono ?_
  rintro e w24 ⟨rfl, hb⟩
  clear HQ
  replace Kx := Lib.hid (fun W h => Kx.out W (hb.trans h))
  replace Ky := Lib.hid (fun W h => Ky.out W (hb.trans h))
  replace Kz := Lib.hid (fun W h => Kz.out W (hb.trans h))
  replace Kp := Lib.hid (fun W h => Kp.out W (hb.trans h))
  replace Kq := Lib.hid (fun W h => Kq.out W (hb.trans h))
  replace Kone := Lib.hid (fun W h => Kone.out W (hb.trans h))
  replace Kno := Lib.hid (fun W h => Kno.out W (hb.trans h))
  replace Ku1 := Lib.hid (fun W h => Ku1.out W (hb.trans h))
  replace Kl := Lib.hid (fun W h => Kl.out W (hb.trans h))
  replace Kxz := Lib.hid (fun W h => Kxz.out W (hb.trans h))
  replace Kyz := Lib.hid (fun W h => Kyz.out W (hb.trans h))
  replace Ko1 := Lib.hid (fun W h => Ko1.out W (hb.trans h))
  replace Ku2 := Lib.hid (fun W h => Ku2.out W (hb.trans h))
  replace Ku3 := Lib.hid (fun W h => Ku3.out W (hb.trans h))
  replace Ku4 := Lib.hid (fun W h => Ku4.out W (hb.trans h))
  replace Ku5 := Lib.hid (fun W h => Ku5.out W (hb.trans h))
  replace HB := HB.trans hb
  clear hb
  have Q := wakes07 w24
  have HQ := Lib.hid Q
  clear Q
  go_wp2_with fail
  refine HQ.out.mono ?_
  rintro e w25 ⟨rfl, hb⟩
  clear HQ
  replace Kx := Lib.hid (fun W h => Kx.out W (hb.trans h))
  replace Ky := Lib.hid (fun W h => Ky.out W (hb.trans h))
  replace Kz := Lib.hid (fun W h => Kz.out W (hb.trans h))
  replace Kp := Lib.hid (fun W h => Kp.out W (hb.trans h))
  replace Kq := Lib.hid (fun W h => Kq.out W (hb.trans h))
  replace Kone := Lib.hid (fun W h => Kone.out W (hb.trans h))
  replace Kno := Lib.hid (fun W h => Kno.out W (hb.trans h))
  replace Ku1 := Lib.hid (fun W h => Ku1.out W (hb.trans h))
  replace Kl := Lib.hid (fun W h => Kl.out W (hb.trans h))
  replace Kxz := Lib.hid (fun W h => Kxz.out W (hb.trans h))
  replace Kyz := Lib.hid (fun W h => Kyz.out W (hb.trans h))
  replace Ko1 := Lib.hid (fun W h => Ko1.out W (hb.trans h))
  replace Ku2 := Lib.hid (fun W h => Ku2.out W (hb.trans h))
  replace Ku3 := Lib.hid (fun W h => Ku3.out W (hb.trans h))
  replace Ku4 := Lib.hid (fun W h => Ku4.out W (hb.trans h))
  replace Ku5 := Lib.hid (fun W h => Ku5.out W (hb.trans h))
  replace HB := HB.trans hb
  clear hb
  go_wp2
  go_ret
  exact ⟨rfl, HB⟩
end Go.Proofs.YtbfbhacdllhddaaGreat
namespace Go.Proofs.YtbfbhacdllhddaaGreat.rowSemiLaws
open Go.ChangeShapes Go.WideShapes Go.ChangeAt Go.RowKit Go.Cb
open Go.ChangeMaps (open_string shut_string)
theorem own : ownKnob Tryz.prog.godebug = none := by kernel_rfl
theorem laidOut : laidOutB Tryz.prog = true := by kernel_rfl
set_option maxRecDepth 100000 in
theorem lifted (os : Os) (started : os.Started) (H : Type) (enc : TypeId × Value → H) :
    ReturnsInHanded {} Tryz.checked os 7 .any (Rows.semiLawsSpec.pre6 enc Tryz.prog Tryz.f7 Rows.semiLawsRow.domain false) (Rows.semiLawsSpec.post enc Tryz.prog Tryz.f7 false true false false) := by
  refine returnsInHanded_of_change_sized (C := Tryz.checked) own started (by kernel_rfl) Tryz.func7
    (ChangeSpec.witness6 (enc := enc) (C := Tryz.checked) false ⟨#[], #[.slice none 0 0, .slice none 0 0, .slice none 0 0], []⟩ 8 (by kernel_rfl) (by kernel_rfl) (by kernel_rfl) (by kernel_rfl)) ?_
  intro W base args ds gs before hval0 hW hcnd hsz0 _
  have hsz : (DataW.weightsEach Tryz.prog (Tryz.f7.params.toList ++ Rows.semiLawsSpec.plain.varTypes Tryz.prog) (ds ++ gs)).all (· ≤ reachBytes) = true := hsz0
  have hval : ∀ (j : Nat) t v, Tryz.f7.params[j]? = some t → args[j]? = some v → Value.okWide Tryz.prog W .any base t v := hval0
  have hW' := hW
  obtain ⟨p, q, hA0, hV, rfl, hfz, hnd⟩ := hW
  have hA : DataW.TrodAll enc Tryz.prog W 0 (fun _ => true) true Tryz.f7.params.toList args.toList ds p := hA0
  rw [Tryz.params7] at hA hval hsz
  obtain ⟨v0, vs0, d0, ds0, p0, q0, hargs, rfl, rfl, h0, r0⟩ := trodAll_cons hA
  obtain ⟨v1, vs1, d1, ds1, p1, q1, rfl, rfl, rfl, h1, r1⟩ := trodAll_cons r0
  obtain ⟨v2, vs2, d2, ds2, p2, q2, rfl, rfl, rfl, h2, r2⟩ := trodAll_cons r1
  obtain ⟨rfl, rfl, rfl⟩ := trodAll_nil r2
  obtain rfl : args = #[v0, v1, v2] := by cases args; simp_all
  obtain ⟨rfl, rfl⟩ := trodVars_none hV
  obtain ⟨a0, len0, cap0, rfl⟩ := okWide_slice Tryz.underlying22 (hval 0 22 v0 rfl rfl)
  have k0 := h0
  have lt0 : ∀ x ∈ p0, x.block < W.heap.size := by obtain ⟨m, hm⟩ := k0; exact DataW.trod_lt m _ _ _ hm
  obtain ⟨l0, rfl, R0, wf0, sz0⟩ := open_rd hsz (j := 0) (t := 22) rfl rfl Tryz.underlying22 Tryz.underlying3 (by kernel_rfl) (by kernel_rfl) h0
  obtain ⟨a1, len1, cap1, rfl⟩ := okWide_slice Tryz.underlying22 (hval 1 22 v1 rfl rfl)
  have k1 := h1
  have lt1 : ∀ x ∈ p1, x.block < W.heap.size := by obtain ⟨m, hm⟩ := k1; exact DataW.trod_lt m _ _ _ hm
  obtain ⟨l1, rfl, R1, wf1, sz1⟩ := open_rd hsz (j := 1) (t := 22) rfl rfl Tryz.underlying22 Tryz.underlying3 (by kernel_rfl) (by kernel_rfl) h1
  obtain ⟨a2, len2, cap2, rfl⟩ := okWide_slice Tryz.underlying22 (hval 2 22 v2 rfl rfl)
  have k2 := h2
  have lt2 : ∀ x ∈ p2, x.block < W.heap.size := by obtain ⟨m, hm⟩ := k2; exact DataW.trod_lt m _ _ _ hm
  obtain ⟨l2, rfl, R2, wf2, sz2⟩ := open_rd hsz (j := 2) (t := 22) rfl rfl Tryz.underlying22 Tryz.underlying3 (by kernel_rfl) (by kernel_rfl) h2
  clear hA0 hval0 hsz0 hsz
  refine (SemiLaws_walk W a0 cap0 l0 R0 (fun x hx => inI64_wf (wf0 x hx)) sz0 a1 cap1 l1 R1 (fun x hx => inI64_wf (wf1 x hx)) sz1 a2 cap2 l2 R2 (fun x hx => inI64_wf (wf2 x hx)) sz2).mono fun e W' ⟨he, bel⟩ => ?_
  subst he
  exact ⟨_, rfl, _, _, _, [], _, [], hW', trodAll_mk1 (shut_bool Tryz.underlying4 _), (trodAll_cons_mk (Below.trod laidOut (by kernel_rfl) (of_decide_eq_true (by kernel_rfl)) k0 bel.out lt0) (trodAll_cons_mk (Below.trod laidOut (by kernel_rfl) (of_decide_eq_true (by kernel_rfl)) k1 bel.out lt1) (trodAll_cons_mk (Below.trod laidOut (by kernel_rfl) (of_decide_eq_true (by kernel_rfl)) k2 bel.out lt2) trodAll_mk0))), rfl, bel.out.frame _, fun h => by cases h⟩
theorem over : Rows.semiLawsRow.holds Tryz.pinned (OpenSpec.ofChange Rows.semiLawsSpec) :=
  OpenClaim.holds_of_wide 7 Tryz.f7 rfl rfl rfl rfl rfl rfl rfl ⟨rfl, rfl, rfl, rfl, rfl⟩ rfl rfl rfl rfl rfl (by kernel_rfl) Tryz.func7 (by kernel_rfl)
    (of_decide_eq_true (by kernel_rfl)) (by unfold Func.isWrapper; first | (rw [if_pos (by decide +kernel)]; kernel_rfl) | (rw [if_neg (by decide +kernel)]; exact ⟨rfl, rfl⟩))
    (fun os started H enc _ => lifted os started H enc)
end Go.Proofs.YtbfbhacdllhddaaGreat.rowSemiLaws
namespace Go.Proofs.YtbfbhacdllhddaaGreat
theorem SemiLaws_holds : Rows.SemiLawsSaid := rowSemiLaws.over
#print axioms SemiLaws_holds
end Go.Proofs.YtbfbhacdllhddaaGreat
