/- LinCat: two sets together, in whatever order, and three. -/
import Derived.Test.YtghdleofbkalbaaCat2
import Derived.Test.YtghdleofbkalbaaLib5
import Derived.Test.YtghdleofbkalbaaRowLib
namespace Go.Proofs.Ytghdleofbkalbaa
open Go.RowKit Go.Cb Go.Sort
set_option maxHeartbeats 16000000 in
set_option maxRecDepth 100000 in
theorem LinCat_walk (w : World) (A : Option Addr) (ca : Nat) (a : List Int) (ha : Rd intT w All A ca a) (ia : ∀ x ∈ a, inI64 x) (_ : a.length * 8 ≤ 140737488351232)
    (B : Option Addr) (cb : Nat) (b : List Int) (hb : Rd intT w All B cb b) (ib : ∀ x ∈ b, inI64 x) (_ : b.length * 8 ≤ 140737488351232)
    (C : Option Addr) (cc : Nat) (c : List Int) (hc : Rd intT w All C cc c) (ic : ∀ x ∈ c, inI64 x) (_ : c.length * 8 ≤ 140737488351232) :
    Calls Try.prog 5 #[.slice A a.length ca, .slice B b.length cb, .slice C c.length cc] w fun e w' => e = .returned (.bool true) ∧ Bel w w' := by
  obtain ⟨xa, xp, hx⟩ : ∃ xa xp, madeL a = (xa, xp) := ⟨_, _, rfl⟩
  obtain ⟨ya, yp, hy⟩ : ∃ ya yp, madeL b = (ya, yp) := ⟨_, _, rfl⟩
  obtain ⟨za, zp, hz⟩ : ∃ za zp, madeL c = (za, zp) := ⟨_, _, rfl⟩
  have rx := hx ▸ madeL_right a
  have ry := hy ▸ madeL_right b
  have rz := hz ▸ madeL_right c
  have lx := hx ▸ madeL_len3 a
  have ly := hy ▸ madeL_len3 b
  have lz := hz ▸ madeL_len3 c
  have bx := hx ▸ madeL_base a
  have by_ := hy ▸ madeL_base b
  have bz := hz ▸ madeL_base c
  obtain ⟨⟨pa, pp⟩, ⟨la, lp⟩, ⟨va, vp⟩, h1, h2, h3, h4, h5, h6, h7, h8, h9, h10⟩ := cat_law rx ry rz bx by_ bz lx ly lz
  dsimp only at *
  have HX := Lib.hid hx
  have HY := Lib.hid hy
  have HZ := Lib.hid hz
  have H1 := Lib.hid h1
  have H2 := Lib.hid h2
  have H3 := Lib.hid h3
  have H4 := Lib.hid h4
  have H5 := Lib.hid h5
  have H6 := Lib.hid h6
  have H7 := Lib.hid h7
  have H9 := Lib.hid h9
  have RX := Lib.hid rx
  have RY := Lib.hid ry
  clear hx hy hz rx ry rz bx by_ bz h1 h2 h3 h4 h5 h6 h7 h9
  go_enter Try.func5, Try.ntmps5
  go_wp2_with fail
  refine (made06_c _ _ _ _ _ ha ia _ rfl).mono ?_
  rw [HX.out]
  rintro e w1 ⟨A0, c0, A1, c1, rfl, x0, x1, hb1⟩
  go_wp2_with fail
  refine (made06_c _ _ _ _ _ (hb.to hb1) ib _ rfl).mono ?_
  rw [HY.out]
  rintro e w2 ⟨B0, d0, B1, d1, rfl, y0, y1, hb2⟩
  go_wp2_with fail
  refine (made06_c _ _ _ _ _ (hc.to (hb1.trans hb2)) ic _ rfl).mono ?_
  rw [HZ.out]
  rintro e w3 ⟨C0, e0, C1, e1, rfl, z0, z1, hb3⟩
  dsimp only at x0 x1 y0 y1 z0 z1 ⊢
  obtain ⟨hba, X, Y, Z⟩ := threeBoxes w3 26 (.slice A0 xa.length c0) (.slice A1 xp.length c1) (.slice B0 ya.length d0) (.slice B1 yp.length d1) (.slice C0 za.length e0) (.slice C1 zp.length e1)
  replace x0 := ((x0.to (hb2.trans hb3)).to hba).all
  replace x1 := ((x1.to (hb2.trans hb3)).to hba).all
  replace y0 := ((y0.to hb3).to hba).all
  replace y1 := ((y1.to hb3).to hba).all
  replace z0 := (z0.to hba).all
  replace z1 := (z1.to hba).all
  have hbb := ((hb1.trans hb2).trans hb3).trans hba
  have x1l := x1.lenMax
  have y1l := y1.lenMax
  clear hb1 hb2 hb3 hba ha hb hc
  replace Z : Box _ 26 (w3.heap.size + 1 + 1) _ _ := Z
  obtain ⟨Xc0, Xc1, _, _⟩ := X.cells
  obtain ⟨Yc0, Yc1, _, _⟩ := Y.cells
  go_wp2_with fail
  clear Xc0 Xc1 Yc0 Yc1
  generalize ((w3.alloc (.cells #[.slice A0 xa.length c0, .slice A1 xp.length c1] 26)).alloc (.cells #[.slice B0 ya.length d0, .slice B1 yp.length d1] 26)).alloc (.cells #[.slice C0 za.length e0, .slice C1 zp.length e1] 26) = W at *
  generalize w3.heap.size = g at *
  refine (catW_c _ _ _ _ _ _ _ _ _ _ _ _ (xa, xp) (ya, yp) _ x0 x1 y0 y1 _ _ _ _ rfl rfl rfl rfl (by dsimp only; omega)).mono ?_
  rw [H1.out]
  rintro e w4 ⟨v4, rfl, ⟨R4, f4, S4, g4, rfl, p0, p1⟩, hb4⟩
  dsimp only at p0 p1 ⊢
  replace p0 := p0.rd.all
  replace p1 := p1.bags.all
  replace hbb := hbb.trans hb4
  replace x0 := x0.to hb4
  replace x1 := x1.to hb4
  replace y0 := y0.to hb4
  replace y1 := y1.to hb4
  replace z0 := z0.to hb4
  replace z1 := z1.to hb4
  replace X := X.to hb4
  replace Y := Y.to hb4
  replace Z := Z.to hb4
  clear hb4
  have P := Box.new w4 26 (.slice R4 pa.length f4) (.slice S4 pp.length g4)
  have ha4 : Bel w4 (w4.alloc (.cells #[.slice R4 pa.length f4, .slice S4 pp.length g4] 26)) := (Bel.refl _).alloc _
  replace hbb := hbb.trans ha4
  replace x0 := x0.to ha4
  replace x1 := x1.to ha4
  replace y0 := y0.to ha4
  replace y1 := y1.to ha4
  replace z0 := z0.to ha4
  replace z1 := z1.to ha4
  replace X := X.to ha4
  replace Y := Y.to ha4
  replace Z := Z.to ha4
  replace p0 := p0.to ha4
  replace p1 := p1.to ha4
  clear ha4
  obtain ⟨Yc0, Yc1, _, _⟩ := Y.cells
  obtain ⟨Xc0, Xc1, _, _⟩ := X.cells
  go_wp2_with fail
  clear Yc0 Yc1 Xc0 Xc1
  generalize w4.alloc (.cells #[.slice R4 pa.length f4, .slice S4 pp.length g4] 26) = W4 at *
  generalize w4.heap.size = h4g at *
  refine (catW_c _ _ _ _ _ _ _ _ _ _ _ _ (ya, yp) (xa, xp) _ y0 y1 x0 x1 _ _ _ _ rfl rfl rfl rfl (by dsimp only; omega)).mono ?_
  rw [H2.out]
  rintro e w5 ⟨v5, rfl, ⟨R5, f5, S5, g5, rfl, q0, q1⟩, hb5⟩
  dsimp only at q0 q1 ⊢
  replace q0 := q0.rd.all
  replace q1 := q1.bags.all
  replace hbb := hbb.trans hb5
  replace x0 := x0.to hb5
  replace x1 := x1.to hb5
  replace y0 := y0.to hb5
  replace y1 := y1.to hb5
  replace z0 := z0.to hb5
  replace z1 := z1.to hb5
  replace X := X.to hb5
  replace Y := Y.to hb5
  replace Z := Z.to hb5
  replace p0 := p0.to hb5
  replace p1 := p1.to hb5
  replace P := P.to hb5
  clear hb5
  have Q := Box.new w5 26 (.slice R5 pa.length f5) (.slice S5 pp.length g5)
  have ha5 : Bel w5 (w5.alloc (.cells #[.slice R5 pa.length f5, .slice S5 pp.length g5] 26)) := (Bel.refl _).alloc _
  replace hbb := hbb.trans ha5
  replace x0 := x0.to ha5
  replace x1 := x1.to ha5
  replace y0 := y0.to ha5
  replace y1 := y1.to ha5
  replace z0 := z0.to ha5
  replace z1 := z1.to ha5
  replace X := X.to ha5
  replace Y := Y.to ha5
  replace Z := Z.to ha5
  replace p0 := p0.to ha5
  replace p1 := p1.to ha5
  replace P := P.to ha5
  replace q0 := q0.to ha5
  replace q1 := q1.to ha5
  clear ha5
  obtain ⟨Pc0, Pc1, _, _⟩ := P.cells
  obtain ⟨Zc0, Zc1, _, _⟩ := Z.cells
  go_wp2_with fail
  clear Pc0 Pc1 Zc0 Zc1
  generalize w5.alloc (.cells #[.slice R5 pa.length f5, .slice S5 pp.length g5] 26) = W5 at *
  generalize w5.heap.size = h5g at *
  refine (catW_c _ _ _ _ _ _ _ _ _ _ _ _ (pa, pp) (za, zp) _ p0 p1 z0 z1 _ _ _ _ rfl rfl rfl rfl (by dsimp only; omega)).mono ?_
  rw [H3.out]
  rintro e w6 ⟨v6, rfl, ⟨R6, f6, S6, g6, rfl, l0, l1⟩, hb6⟩
  dsimp only at l0 l1 ⊢
  replace l0 := l0.rd.all
  replace l1 := l1.bags.all
  replace hbb := hbb.trans hb6
  replace x0 := x0.to hb6
  replace x1 := x1.to hb6
  replace y0 := y0.to hb6
  replace y1 := y1.to hb6
  replace z0 := z0.to hb6
  replace z1 := z1.to hb6
  replace X := X.to hb6
  replace Y := Y.to hb6
  replace Z := Z.to hb6
  replace p0 := p0.to hb6
  replace p1 := p1.to hb6
  replace P := P.to hb6
  replace q0 := q0.to hb6
  replace q1 := q1.to hb6
  replace Q := Q.to hb6
  clear hb6
  have L := Box.new w6 26 (.slice R6 la.length f6) (.slice S6 lp.length g6)
  have ha6 : Bel w6 (w6.alloc (.cells #[.slice R6 la.length f6, .slice S6 lp.length g6] 26)) := (Bel.refl _).alloc _
  replace hbb := hbb.trans ha6
  replace x0 := x0.to ha6
  replace x1 := x1.to ha6
  replace y0 := y0.to ha6
  replace y1 := y1.to ha6
  replace z0 := z0.to ha6
  replace z1 := z1.to ha6
  replace X := X.to ha6
  replace Y := Y.to ha6
  replace Z := Z.to ha6
  replace p0 := p0.to ha6
  replace p1 := p1.to ha6
  replace P := P.to ha6
  replace q0 := q0.to ha6
  replace q1 := q1.to ha6
  replace Q := Q.to ha6
  replace l0 := l0.to ha6
  replace l1 := l1.to ha6
  clear ha6
  obtain ⟨Yc0, Yc1, _, _⟩ := Y.cells
  obtain ⟨Zc0, Zc1, _, _⟩ := Z.cells
  go_wp2_with fail
  clear Yc0 Yc1 Zc0 Zc1
  generalize w6.alloc (.cells #[.slice R6 la.length f6, .slice S6 lp.length g6] 26) = W6 at *
  generalize w6.heap.size = h6g at *
  refine (catW_c _ _ _ _ _ _ _ _ _ _ _ _ (ya, yp) (za, zp) _ y0 y1 z0 z1 _ _ _ _ rfl rfl rfl rfl (by dsimp only; omega)).mono ?_
  rw [H4.out]
  rintro e w7 ⟨v7, rfl, ⟨R7, f7, S7, g7, rfl, v0, v1⟩, hb7⟩
  dsimp only at v0 v1 ⊢
  replace v0 := v0.rd.all
  replace v1 := v1.bags.all
  replace hbb := hbb.trans hb7
  replace x0 := x0.to hb7
  replace x1 := x1.to hb7
  replace y0 := y0.to hb7
  replace y1 := y1.to hb7
  replace z0 := z0.to hb7
  replace z1 := z1.to hb7
  replace X := X.to hb7
  replace Y := Y.to hb7
  replace Z := Z.to hb7
  replace p0 := p0.to hb7
  replace p1 := p1.to hb7
  replace P := P.to hb7
  replace q0 := q0.to hb7
  replace q1 := q1.to hb7
  replace Q := Q.to hb7
  replace l0 := l0.to hb7
  replace l1 := l1.to hb7
  replace L := L.to hb7
  clear hb7
  have V := Box.new w7 26 (.slice R7 va.length f7) (.slice S7 vp.length g7)
  have ha7 : Bel w7 (w7.alloc (.cells #[.slice R7 va.length f7, .slice S7 vp.length g7] 26)) := (Bel.refl _).alloc _
  replace hbb := hbb.trans ha7
  replace x0 := x0.to ha7
  replace x1 := x1.to ha7
  replace y0 := y0.to ha7
  replace y1 := y1.to ha7
  replace z0 := z0.to ha7
  replace z1 := z1.to ha7
  replace X := X.to ha7
  replace Y := Y.to ha7
  replace Z := Z.to ha7
  replace p0 := p0.to ha7
  replace p1 := p1.to ha7
  replace P := P.to ha7
  replace q0 := q0.to ha7
  replace q1 := q1.to ha7
  replace Q := Q.to ha7
  replace l0 := l0.to ha7
  replace l1 := l1.to ha7
  replace L := L.to ha7
  replace v0 := v0.to ha7
  replace v1 := v1.to ha7
  clear ha7
  obtain ⟨Xc0, Xc1, _, _⟩ := X.cells
  obtain ⟨Vc0, Vc1, _, _⟩ := V.cells
  go_wp2_with fail
  clear Xc0 Xc1 Vc0 Vc1
  generalize w7.alloc (.cells #[.slice R7 va.length f7, .slice S7 vp.length g7] 26) = W7 at *
  generalize w7.heap.size = h7g at *
  refine (catW_c _ _ _ _ _ _ _ _ _ _ _ _ (xa, xp) (va, vp) _ x0 x1 v0 v1 _ _ _ _ rfl rfl rfl rfl (by dsimp only; omega)).mono ?_
  rw [H5.out]
  rintro e w8 ⟨v8, rfl, ⟨R8, f8, S8, g8, rfl, r0, r1⟩, hb8⟩
  dsimp only at r0 r1 ⊢
  replace r0 := r0.rd.all
  replace r1 := r1.bags.all
  replace hbb := hbb.trans hb8
  replace x0 := x0.to hb8
  replace x1 := x1.to hb8
  replace y0 := y0.to hb8
  replace y1 := y1.to hb8
  replace z0 := z0.to hb8
  replace z1 := z1.to hb8
  replace X := X.to hb8
  replace Y := Y.to hb8
  replace Z := Z.to hb8
  replace p0 := p0.to hb8
  replace p1 := p1.to hb8
  replace P := P.to hb8
  replace q0 := q0.to hb8
  replace q1 := q1.to hb8
  replace Q := Q.to hb8
  replace l0 := l0.to hb8
  replace l1 := l1.to hb8
  replace L := L.to hb8
  replace v0 := v0.to hb8
  replace v1 := v1.to hb8
  replace V := V.to hb8
  clear hb8
  have R := Box.new w8 26 (.slice R8 la.length f8) (.slice S8 lp.length g8)
  have ha8 : Bel w8 (w8.alloc (.cells #[.slice R8 la.length f8, .slice S8 lp.length g8] 26)) := (Bel.refl _).alloc _
  replace hbb := hbb.trans ha8
  replace x0 := x0.to ha8
  replace x1 := x1.to ha8
  replace y0 := y0.to ha8
  replace y1 := y1.to ha8
  replace z0 := z0.to ha8
  replace z1 := z1.to ha8
  replace X := X.to ha8
  replace Y := Y.to ha8
  replace Z := Z.to ha8
  replace p0 := p0.to ha8
  replace p1 := p1.to ha8
  replace P := P.to ha8
  replace q0 := q0.to ha8
  replace q1 := q1.to ha8
  replace Q := Q.to ha8
  replace l0 := l0.to ha8
  replace l1 := l1.to ha8
  replace L := L.to ha8
  replace v0 := v0.to ha8
  replace v1 := v1.to ha8
  replace V := V.to ha8
  replace r0 := r0.to ha8
  replace r1 := r1.to ha8
  clear ha8
  obtain ⟨Xc0, Xc1, _, _⟩ := X.cells
  obtain ⟨Yc0, Yc1, _, _⟩ := Y.cells
  go_wp2_with fail
  clear Xc0 Xc1 Yc0 Yc1
  generalize w8.alloc (.cells #[.slice R8 la.length f8, .slice S8 lp.length g8] 26) = W8 at *
  generalize w8.heap.size = h8g at *
  refine (bagAdd_c _ _ _ _ _ _ _ _ x0 y0 _ _ rfl rfl).mono ?_
  rw [H6.out]
  rintro e w9 ⟨v9, rfl, ho9, hb9⟩
  obtain ⟨R9, f9, rfl, s0⟩ := ho9.rdOne
  replace s0 := s0.all
  replace hbb := hbb.trans hb9
  replace x0 := x0.to hb9
  replace x1 := x1.to hb9
  replace y0 := y0.to hb9
  replace y1 := y1.to hb9
  replace z0 := z0.to hb9
  replace z1 := z1.to hb9
  replace X := X.to hb9
  replace Y := Y.to hb9
  replace Z := Z.to hb9
  replace p0 := p0.to hb9
  replace p1 := p1.to hb9
  replace P := P.to hb9
  replace q0 := q0.to hb9
  replace q1 := q1.to hb9
  replace Q := Q.to hb9
  replace l0 := l0.to hb9
  replace l1 := l1.to hb9
  replace L := L.to hb9
  replace v0 := v0.to hb9
  replace v1 := v1.to hb9
  replace V := V.to hb9
  replace r0 := r0.to hb9
  replace r1 := r1.to hb9
  replace R := R.to hb9
  clear hb9 ho9
  dsimp only at s0 ⊢
  have K1 := Lib.hid (show ∀ W', Bel w9 W' → Calls Try.prog 10 #[.agg #[.slice R4 pa.length f4, .slice S4 pp.length g4], .agg #[.slice R5 pa.length f5, .slice S5 pp.length g5]] W' fun e w' => e = .returned (.bool true) ∧ Bel W' w' from fun W' h => by
    have := sameLin_c _ _ _ _ _ _ _ _ _ _ _ _ (pa, pp) (pa, pp) W' (p0.to h) (p1.to h) (q0.to h) (q1.to h) _ _ _ _ rfl rfl rfl rfl
    rwa [decide_eq_true rfl] at this)
  have K2 := Lib.hid (show ∀ W', Bel w9 W' → Calls Try.prog 10 #[.agg #[.slice R6 la.length f6, .slice S6 lp.length g6], .agg #[.slice R8 la.length f8, .slice S8 lp.length g8]] W' fun e w' => e = .returned (.bool true) ∧ Bel W' w' from fun W' h => by
    have := sameLin_c _ _ _ _ _ _ _ _ _ _ _ _ (la, lp) (la, lp) W' (l0.to h) (l1.to h) (r0.to h) (r1.to h) _ _ _ _ rfl rfl rfl rfl
    rwa [decide_eq_true rfl] at this)
  have K3 := Lib.hid (show ∀ W', Bel w9 W' → Calls Try.prog 19 #[.slice R4 pa.length f4, .slice R9 pa.length f9] W' fun e w' => e = .returned (.bool true) ∧ Bel W' w' from fun W' h => by
    have := sameInt_c _ _ _ _ _ _ pa pa W' (p0.to h) (s0.to h) _ _ rfl rfl
    rwa [decide_eq_true rfl] at this)
  have K4 := Lib.hid (show ∀ W', Bel w9 W' → Calls Try.prog 16 #[.agg #[.slice R4 pa.length f4, .slice S4 pp.length g4]] W' fun e w' => e = .returned (.bool true) ∧ Bel W' w' from fun W' h => by
    have := linRight_c _ _ _ _ _ _ pa pp W' (p0.to h) (p1.to h) _ _ rfl rfl
    rwa [H7.out] at this)
  have K5 := Lib.hid (show ∀ W', Bel w9 W' → Calls Try.prog 20 #[.agg #[.slice R4 pa.length f4, .slice S4 pp.length g4]] W' fun e w' => e = .returned (.bool (xp.isEmpty && yp.isEmpty)) ∧ Bel W' w' from fun W' h => by
    have := point_c _ _ _ _ _ _ pa pp W' (p0.to h) (p1.to h) _ _ rfl rfl
    rwa [H7.out, Bool.true_and, H9.out] at this)
  have K6 := Lib.hid (show ∀ W', Bel w9 W' → Calls Try.prog 20 #[.agg #[.slice A0 xa.length c0, .slice A1 xp.length c1]] W' fun e w' => e = .returned (.bool xp.isEmpty) ∧ Bel W' w' from fun W' h => by
    have := point_c _ _ _ _ _ _ xa xp W' (x0.to h) (x1.to h) _ _ rfl rfl
    rwa [RX.out, Bool.true_and] at this)
  have K7 := Lib.hid (show ∀ W', Bel w9 W' → Calls Try.prog 20 #[.agg #[.slice B0 ya.length d0, .slice B1 yp.length d1]] W' fun e w' => e = .returned (.bool yp.isEmpty) ∧ Bel W' w' from fun W' h => by
    have := point_c _ _ _ _ _ _ ya yp W' (y0.to h) (y1.to h) _ _ rfl rfl
    rwa [RY.out, Bool.true_and] at this)
  have K8 := Lib.hid (show ∀ W', Bel w9 W' → Calls Try.prog 11 #[] W' fun e w' => e = .returned (.bool true) ∧ Bel W' w' from fun W' h => wakes06 W')
  obtain ⟨Xc0, Xc1, _, _⟩ := X.cells
  obtain ⟨Yc0, Yc1, _, _⟩ := Y.cells
  obtain ⟨Pc0, Pc1, _, _⟩ := P.cells
  obtain ⟨Qc0, Qc1, _, _⟩ := Q.cells
  obtain ⟨Lc0, Lc1, _, _⟩ := L.cells
  obtain ⟨Rc0, Rc1, _, _⟩ := R.cells
  have Xk0 := cellReg Xc0
  have Xk1 := cellReg Xc1
  have Yk0 := cellReg Yc0
  have Yk1 := cellReg Yc1
  have Pk0 := cellReg Pc0
  have Pk1 := cellReg Pc1
  have Qk0 := cellReg Qc0
  have Qk1 := cellReg Qc1
  have Lk0 := cellReg Lc0
  have Lk1 := cellReg Lc1
  have Rk0 := cellReg Rc0
  have Rk1 := cellReg Rc1
  clear Xc0 Xc1 Yc0 Yc1 Pc0 Pc1 Qc0 Qc1 Lc0 Lc1 Rc0 Rc1
  have hle : ∀ d : Nat, decide ((pp.length : Int) ≤ (xp.length : Int) + (yp.length : Int)) = true := fun _ => decide_eq_true (by omega)
  have hle2 := hle 0
  clear hle x0 x1 y0 y1 z0 z1 p0 p1 q0 q1 l0 l1 v0 v1 r0 r1 s0 X Y Z P Q L V R
  generalize xp.isEmpty = ex at *
  generalize yp.isEmpty = ey at *
  go_wp2_with fail
  cases ex <;> cases ey
  all_goals
    refine wp_region_quiet_below (by kernel_rfl) (by kernel_rfl) ?_
    repeat (go_big_quiet_step (first | with_reducible exact callsReg K1.out | with_reducible exact callsReg K2.out | with_reducible exact callsReg K3.out | with_reducible exact callsReg K4.out | with_reducible exact callsReg K5.out | with_reducible exact callsReg K6.out | with_reducible exact callsReg K7.out | with_reducible exact callsReg K8.out))
    refine wpQuiet_nil ?_
    intro _ hw'
    obtain ⟨⟨dq, oq⟩, hw''⟩ := hw'
    subst hw''
    go_wp2_with fail
    go_ret
    exact ⟨rfl, hbb.trans (bel_regrown _ _ _)⟩
end Go.Proofs.Ytghdleofbkalbaa
namespace Go.Proofs.Ytghdleofbkalbaa.rowLinCat
open Go.ChangeShapes Go.WideShapes Go.ChangeAt Go.RowKit Go.Cb
open Go.ChangeMaps (open_string shut_string)
theorem own : ownKnob Try.prog.godebug = none := by kernel_rfl
theorem laidOut : laidOutB Try.prog = true := by kernel_rfl
set_option maxRecDepth 100000 in
theorem lifted (os : Os) (started : os.Started) (H : Type) (enc : TypeId × Value → H) :
    ReturnsInHanded {} Try.checked os 5 .any (Rows.linCatSpec.pre6 enc Try.prog Try.f5 Rows.linCatRow.domain false) (Rows.linCatSpec.post enc Try.prog Try.f5 false true false false) := by
  refine returnsInHanded_of_change_sized (C := Try.checked) own started (by kernel_rfl) Try.func5
    (ChangeSpec.witness6 (enc := enc) (C := Try.checked) false ⟨#[], #[.slice none 0 0, .slice none 0 0, .slice none 0 0], []⟩ 8 (by kernel_rfl) (by kernel_rfl) (by kernel_rfl) (by kernel_rfl)) ?_
  intro W base args ds gs before hval0 hW hcnd hsz0 _
  have hsz : (DataW.weightsEach Try.prog (Try.f5.params.toList ++ Rows.linCatSpec.plain.varTypes Try.prog) (ds ++ gs)).all (· ≤ reachBytes) = true := hsz0
  have hval : ∀ (j : Nat) t v, Try.f5.params[j]? = some t → args[j]? = some v → Value.okWide Try.prog W .any base t v := hval0
  have hW' := hW
  obtain ⟨p, q, hA0, hV, rfl, hfz, hnd⟩ := hW
  have hA : DataW.TrodAll enc Try.prog W 0 (fun _ => true) true Try.f5.params.toList args.toList ds p := hA0
  rw [Try.params5] at hA hval hsz
  obtain ⟨v0, vs0, d0, ds0, p0, q0, hargs, rfl, rfl, h0, r0⟩ := trodAll_cons hA
  obtain ⟨v1, vs1, d1, ds1, p1, q1, rfl, rfl, rfl, h1, r1⟩ := trodAll_cons r0
  obtain ⟨v2, vs2, d2, ds2, p2, q2, rfl, rfl, rfl, h2, r2⟩ := trodAll_cons r1
  obtain ⟨rfl, rfl, rfl⟩ := trodAll_nil r2
  obtain rfl : args = #[v0, v1, v2] := by cases args; simp_all
  obtain ⟨rfl, rfl⟩ := trodVars_none hV
  obtain ⟨a0, len0, cap0, rfl⟩ := okWide_slice Try.underlying22 (hval 0 22 v0 rfl rfl)
  have k0 := h0
  have lt0 : ∀ x ∈ p0, x.block < W.heap.size := by obtain ⟨m, hm⟩ := k0; exact DataW.trod_lt m _ _ _ hm
  obtain ⟨l0, rfl, R0, wf0, sz0⟩ := open_rd hsz (j := 0) (t := 22) rfl rfl Try.underlying22 Try.underlying3 (by kernel_rfl) (by kernel_rfl) h0
  obtain ⟨a1, len1, cap1, rfl⟩ := okWide_slice Try.underlying22 (hval 1 22 v1 rfl rfl)
  have k1 := h1
  have lt1 : ∀ x ∈ p1, x.block < W.heap.size := by obtain ⟨m, hm⟩ := k1; exact DataW.trod_lt m _ _ _ hm
  obtain ⟨l1, rfl, R1, wf1, sz1⟩ := open_rd hsz (j := 1) (t := 22) rfl rfl Try.underlying22 Try.underlying3 (by kernel_rfl) (by kernel_rfl) h1
  obtain ⟨a2, len2, cap2, rfl⟩ := okWide_slice Try.underlying22 (hval 2 22 v2 rfl rfl)
  have k2 := h2
  have lt2 : ∀ x ∈ p2, x.block < W.heap.size := by obtain ⟨m, hm⟩ := k2; exact DataW.trod_lt m _ _ _ hm
  obtain ⟨l2, rfl, R2, wf2, sz2⟩ := open_rd hsz (j := 2) (t := 22) rfl rfl Try.underlying22 Try.underlying3 (by kernel_rfl) (by kernel_rfl) h2
  clear hA0 hval0 hsz0 hsz
  refine (LinCat_walk W a0 cap0 l0 R0 (fun x hx => inI64_wf (wf0 x hx)) sz0 a1 cap1 l1 R1 (fun x hx => inI64_wf (wf1 x hx)) sz1 a2 cap2 l2 R2 (fun x hx => inI64_wf (wf2 x hx)) sz2).mono fun e W' ⟨he, bel⟩ => ?_
  subst he
  exact ⟨_, rfl, _, _, _, [], _, [], hW', trodAll_mk1 (shut_bool Try.underlying4 _), (trodAll_cons_mk (Below.trod laidOut (by kernel_rfl) (of_decide_eq_true (by kernel_rfl)) k0 bel.out lt0) (trodAll_cons_mk (Below.trod laidOut (by kernel_rfl) (of_decide_eq_true (by kernel_rfl)) k1 bel.out lt1) (trodAll_cons_mk (Below.trod laidOut (by kernel_rfl) (of_decide_eq_true (by kernel_rfl)) k2 bel.out lt2) trodAll_mk0))), rfl, bel.out.frame _, fun h => by cases h⟩
theorem over : Rows.linCatRow.holds Try.pinned (OpenSpec.ofChange Rows.linCatSpec) :=
  OpenClaim.holds_of_wide 5 Try.f5 rfl rfl rfl rfl rfl rfl rfl ⟨rfl, rfl, rfl, rfl, rfl⟩ rfl rfl rfl rfl rfl (by kernel_rfl) Try.func5 (by kernel_rfl)
    (of_decide_eq_true (by kernel_rfl)) (by unfold Func.isWrapper; first | (rw [if_pos (by decide +kernel)]; kernel_rfl) | (rw [if_neg (by decide +kernel)]; exact ⟨rfl, rfl⟩))
    (fun os started H enc _ => lifted os started H enc)
end Go.Proofs.Ytghdleofbkalbaa.rowLinCat
namespace Go.Proofs.Ytghdleofbkalbaa
theorem LinCat_holds : Rows.LinCatSaid := rowLinCat.over
#print axioms LinCat_holds
end Go.Proofs.Ytghdleofbkalbaa
