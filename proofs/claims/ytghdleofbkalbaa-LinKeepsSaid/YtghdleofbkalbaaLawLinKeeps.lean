/- LinKeeps: what is handed in stays as it was; what is answered is one's own. -/
import Derived.Test.YtghdleofbkalbaaShape
import Derived.Test.YtghdleofbkalbaaCat4
import Derived.Test.YtghdleofbkalbaaRowLib
namespace Go.Proofs.Ytghdleofbkalbaa
open Go.RowKit Go.Cb
set_option maxHeartbeats 16000000 in
set_option maxRecDepth 100000 in
theorem LinKeeps_walk (w : World) (P : Option Addr) (ca : Nat) (a : List Int) (ha : Rd intT w All P ca a) (ia : ∀ x ∈ a, inI64 x) (_ : a.length * 8 ≤ 140737488351232)
    (Q : Option Addr) (cb : Nat) (b : List Int) (hb : Rd intT w All Q cb b) (ib : ∀ x ∈ b, inI64 x) (_ : b.length * 8 ≤ 140737488351232) :
    Calls Try.prog 6 #[.slice P a.length ca, .slice Q b.length cb] w fun e w' => e = .returned (.bool true) ∧ Bel w w' := by
  obtain ⟨xa, xp, hx⟩ : ∃ xa xp, madeL a = (xa, xp) := ⟨_, _, rfl⟩
  obtain ⟨ya, yp, hy⟩ : ∃ ya yp, madeL b = (ya, yp) := ⟨_, _, rfl⟩
  have rx := hx ▸ madeL_right a
  have ry := hy ▸ madeL_right b
  have lx := hx ▸ madeL_len3 a
  have ly := hy ▸ madeL_len3 b
  dsimp only at lx ly
  have lxa := right_len (rightL_iff.1 rx).1
  have lya := right_len (rightL_iff.1 ry).1
  have LX := Lib.hid (show ∀ p ∈ xp, p.length ≤ 1000000 from fun p hp => Nat.le_trans (right_len ((rightL_iff.1 rx).2.each p hp).2) (by omega))
  have LY := Lib.hid (show ∀ p ∈ yp, p.length ≤ 1000000 from fun p hp => Nat.le_trans (right_len ((rightL_iff.1 ry).2.each p hp).2) (by omega))
  obtain ⟨va, vp, gd, hv⟩ : ∃ va vp gd, catL (xa, xp) (ya, yp) = ((va, vp), gd) := ⟨_, _, _, rfl⟩
  obtain ⟨oa, op, ok, ho⟩ : ∃ oa op ok, ofLin xa xp = ((oa, op), ok) := ⟨_, _, _, rfl⟩
  have HX := Lib.hid hx
  have HY := Lib.hid hy
  have HV := Lib.hid hv
  have HO := Lib.hid ho
  clear hx hy rx ry hv ho
  go_enter Try.func6, Try.ntmps6
  go_wp2_with fail
  refine (made06_c _ _ _ _ _ ha ia _ rfl).mono ?_
  rw [HX.out]
  rintro e w1 ⟨A0, c0, A1, c1, rfl, x0, x1, hb1⟩
  go_wp2_with fail
  refine (made06_c _ _ _ _ _ (hb.to hb1) ib _ rfl).mono ?_
  rw [HY.out]
  rintro e w2 ⟨B0, d0, B1, d1, rfl, y0, y1, hb2⟩
  dsimp only at x0 x1 y0 y1 ⊢
  have hba : Bel w2 ((w2.alloc (.cells #[.slice A0 xa.length c0, .slice A1 xp.length c1] 26)).alloc (.cells #[.slice B0 ya.length d0, .slice B1 yp.length d1] 26)) := ((Bel.refl _).alloc _).alloc _
  have X := (Box.new w2 26 (.slice A0 xa.length c0) (.slice A1 xp.length c1)).to ((Bel.refl _).alloc (.cells #[.slice B0 ya.length d0, .slice B1 yp.length d1] 26))
  have Y := Box.new (w2.alloc (.cells #[.slice A0 xa.length c0, .slice A1 xp.length c1] 26)) 26 (.slice B0 ya.length d0) (.slice B1 yp.length d1)
  rw [show (w2.alloc (.cells #[.slice A0 xa.length c0, .slice A1 xp.length c1] 26)).heap.size = w2.heap.size + 1 by simp] at Y
  replace x0 := ((x0.to hb2).to hba).all
  replace x1 := ((x1.to hb2).to hba).all
  replace y0 := (y0.to hba).all
  replace y1 := (y1.to hba).all
  have hbb := (hb1.trans hb2).trans hba
  have x1l := x1.lenMax
  have y1l := y1.lenMax
  clear hb1 hb2 hba ha hb
  go_wp2_with fail
  generalize (w2.alloc (.cells #[.slice A0 xa.length c0, .slice A1 xp.length c1] 26)).alloc (.cells #[.slice B0 ya.length d0, .slice B1 yp.length d1] 26) = W at *
  generalize w2.heap.size = g at *
  refine wp_region_grow2 6 (by kernel_rfl) (by kernel_rfl) (by kernel_rfl) [SPred.val (.agg #[.slice A0 xa.length c0, .slice A1 xp.length c1]), SPred.lin (xa, xp), SPred.val (.agg #[.slice B0 ya.length d0, .slice B1 yp.length d1]), SPred.lin (ya, yp), SPred.box 26 (.slice none 0 0) (.slice none 0 0), SPred.box 26 (.slice none 0 0) (.slice none 0 0)] ?_ ?_
  · refine ⟨fun u ρ w2 hb2 hd => ?_, fun u ρ w2 hb2 hd => ?_, fun u ρ w2 hb2 hd => ?_, fun u ρ w2 hb2 hd => ?_, fun u ρ w2 hb2 hd => ?_, fun u ρ w2 hb2 hd => ?_, trivial⟩
    · obtain ⟨z0, z1, _, _⟩ := (X.to hb2).cells
      simp only [growFr, List.getElem?_cons_succ, List.getElem?_cons_zero, Option.bind_some, Act.put, List.setIfInBounds_toArray, List.set_cons_succ, List.set_cons_zero]
      go_wp2_with fail
      exact ⟨rfl, _, rfl, Bel.refl _, rfl⟩
    · have h1 : u 0 = _ := hd 0 (by kernel_rfl)
      simp only [growFr, List.getElem?_cons_succ, List.getElem?_cons_zero, Option.bind_some, Act.put, List.setIfInBounds_toArray, List.set_cons_succ, List.set_cons_zero, h1]
      have Q := copyLin_c _ _ _ _ _ _ (xa, xp) w2 (x0.to hb2) (x1.to hb2) _ _ rfl rfl (by dsimp only; omega) (by dsimp only; omega) LX.out
      have HQ := Lib.hid Q
      clear Q
      go_wp2_with fail
      refine HQ.out.mono ?_
      rintro e w3 ⟨C0, e0, C1, e1, rfl, r0, r1, hb3⟩
      go_wp2_with fail
      exact ⟨rfl, _, rfl, hb3, C0, e0, C1, e1, rfl, r0.bound, r1.bound⟩
    · obtain ⟨z0, z1, _, _⟩ := (Y.to hb2).cells
      simp only [growFr, List.getElem?_cons_succ, List.getElem?_cons_zero, Option.bind_some, Act.put, List.setIfInBounds_toArray, List.set_cons_succ, List.set_cons_zero]
      go_wp2_with fail
      exact ⟨rfl, _, rfl, Bel.refl _, rfl⟩
    · have h1 : u 2 = _ := hd 2 (by kernel_rfl)
      simp only [growFr, List.getElem?_cons_succ, List.getElem?_cons_zero, Option.bind_some, Act.put, List.setIfInBounds_toArray, List.set_cons_succ, List.set_cons_zero, h1]
      have Q := copyLin_c _ _ _ _ _ _ (ya, yp) w2 (y0.to hb2) (y1.to hb2) _ _ rfl rfl (by dsimp only; omega) (by dsimp only; omega) LY.out
      have HQ := Lib.hid Q
      clear Q
      go_wp2_with fail
      refine HQ.out.mono ?_
      rintro e w3 ⟨C0, e0, C1, e1, rfl, r0, r1, hb3⟩
      go_wp2_with fail
      exact ⟨rfl, _, rfl, hb3, C0, e0, C1, e1, rfl, r0.bound, r1.bound⟩
    · simp only [growFr, List.getElem?_cons_succ, List.getElem?_cons_zero, Option.bind_some, Act.put, List.setIfInBounds_toArray, List.set_cons_succ, List.set_cons_zero]
      go_wp2_with fail
      exact ⟨rfl, _, rfl, (Bel.refl _).alloc _, rfl, by simp, Box.new _ _ _ _⟩
    · simp only [growFr, List.getElem?_cons_succ, List.getElem?_cons_zero, Option.bind_some, Act.put, List.setIfInBounds_toArray, List.set_cons_succ, List.set_cons_zero]
      go_wp2_with fail
      exact ⟨rfl, _, rfl, (Bel.refl _).alloc _, rfl, by simp, Box.new _ _ _ _⟩
  · intro u ρ w2 hb2 hall hdj
    obtain ⟨C0, f0, C1, f1, h1, m0, m1⟩ : (SPred.lin (xa, xp)).φ (u 1) (ρ 1).1 (ρ 1).2 w2 := (hall 1 (by omega)).1
    obtain ⟨D0, i0, D1, i1, h3, n0, n1⟩ : (SPred.lin (ya, yp)).φ (u 3) (ρ 3).1 (ρ 3).2 w2 := (hall 3 (by omega)).1
    obtain ⟨h4, l4, M⟩ : (SPred.box 26 (.slice none 0 0) (.slice none 0 0)).φ (u 4) (ρ 4).1 (ρ 4).2 w2 := (hall 4 (by omega)).1
    obtain ⟨h5, l5, N⟩ : (SPred.box 26 (.slice none 0 0) (.slice none 0 0)).φ (u 5) (ρ 5).1 (ρ 5).2 w2 := (hall 5 (by omega)).1
    have q4 := (hall 4 (by omega)).2
    have q5 := (hall 5 (by omega)).2
    have q1 := (hall 1 (by omega)).2
    have q3 := (hall 3 (by omega)).2
    have j14 := hdj 1 4 (by omega) (by omega) (by omega)
    have j15 := hdj 1 5 (by omega) (by omega) (by omega)
    have j34 := hdj 3 4 (by omega) (by omega) (by omega)
    have j35 := hdj 3 5 (by omega) (by omega) (by omega)
    have j45 := hdj 4 5 (by omega) (by omega) (by omega)
    dsimp only at h1 h3 m0 m1 n0 n1
    simp only [List.drop_succ_cons, List.drop_zero, growFr, List.getElem?_cons_succ, List.getElem?_cons_zero, Option.bind_some, Act.put, List.setIfInBounds_toArray, List.set_cons_succ, List.set_cons_zero, h1, h3, h4, h5]
    replace m0 : Rd intT w2 (fun k => k ≠ (ρ 4).1 ∧ k ≠ (ρ 5).1) C0 f0 xa := m0.mono (fun k hk => ⟨by omega, by omega⟩)
    replace m1 : Rd bagT w2 (fun k => k ≠ (ρ 4).1 ∧ k ≠ (ρ 5).1) C1 f1 xp := m1.mono (fun k hk => ⟨by omega, by omega⟩)
    replace n0 : Rd intT w2 (fun k => k ≠ (ρ 4).1 ∧ k ≠ (ρ 5).1) D0 i0 ya := n0.mono (fun k hk => ⟨by omega, by omega⟩)
    replace n1 : Rd bagT w2 (fun k => k ≠ (ρ 4).1 ∧ k ≠ (ρ 5).1) D1 i1 yp := n1.mono (fun k hk => ⟨by omega, by omega⟩)
    have g4 : W.heap.size ≤ (ρ 4).1 := q4.1
    have g5 : W.heap.size ≤ (ρ 5).1 := q5.1
    have n45 : (ρ 4).1 ≠ (ρ 5).1 := by omega
    have hwW0 := hbb.size
    replace hbb := hbb.trans hb2
    have hws := hbb.size
    clear hall hdj j14 j15 j34 j35 j45 q4 q5 q1 q3 l4 l5 h1 h3 h4 h5
    generalize (ρ 4).1 = Gm at *
    generalize (ρ 5).1 = Gn at *
    have u1 := (Upd.one w2 Gm 0 (.slice C0 xa.length f0)).set (p := ⟨Gm, 1, none⟩) rfl (.slice C1 xp.length f1)
    have YY1 := N.other u1 (Ne.symm n45)
    have XX1 := (M.set0 (.slice C0 xa.length f0)).set1 (.slice C1 xp.length f1)
    obtain ⟨s0, s1, s2, s3⟩ := M.cells
    obtain ⟨t0, t1, t2, t3⟩ := (M.set0 (.slice C0 xa.length f0)).cells
    obtain ⟨vv0, vv1, vv2, vv3⟩ := YY1.cells
    obtain ⟨z0, z1, z2, z3⟩ := (YY1.set0 (.slice D0 ya.length i0)).cells
    have u2 := (Upd.one ((w2.setCell ⟨Gm, 0, none⟩ (.slice C0 xa.length f0)).setCell ⟨Gm, 1, none⟩ (.slice C1 xp.length f1)) Gn 0 (.slice D0 ya.length i0)).set (p := ⟨Gn, 1, none⟩) rfl (.slice D1 yp.length i1)
    have XX2 := XX1.other u2 n45
    have YY2 := (YY1.set0 (.slice D0 ya.length i0)).set1 (.slice D1 yp.length i1)
    have bW2 : Bel W ((((w2.setCell ⟨Gm, 0, none⟩ (.slice C0 xa.length f0)).setCell ⟨Gm, 1, none⟩ (.slice C1 xp.length f1)).setCell ⟨Gn, 0, none⟩ (.slice D0 ya.length i0)).setCell ⟨Gn, 1, none⟩ (.slice D1 yp.length i1)) := (hb2.upd u1 g4).upd u2 g5
    obtain ⟨xxc0, xxc1, _, _⟩ := XX2.cells
    obtain ⟨xk0, xk1, _, _⟩ := (X.to bW2).cells
    obtain ⟨yk0, yk1, _, _⟩ := (Y.to bW2).cells
    go_wp2_with fail
    clear s0 s1 s2 s3 t0 t1 t2 t3 vv0 vv1 vv2 vv3 z0 z1 z2 z3 xxc0 xxc1 M N XX1 YY1
    clear xk0 xk1 yk0 yk1
    replace X := X.to bW2
    replace Y := Y.to bW2
    replace x0 := x0.to bW2
    replace x1 := x1.to bW2
    replace y0 := y0.to bW2
    replace y1 := y1.to bW2
    clear bW2
    replace hbb := (hbb.upd u1 (by omega)).upd u2 (by omega)
    replace m0 := ((m0.upd u1 (fun h => h.1 rfl)).upd u2 (fun h => h.2 rfl)).all
    replace m1 := ((m1.upd u1 (fun h => h.1 rfl)).upd u2 (fun h => h.2 rfl)).all
    replace n0 := ((n0.upd u1 (fun h => h.1 rfl)).upd u2 (fun h => h.2 rfl)).all
    replace n1 := ((n1.upd u1 (fun h => h.1 rfl)).upd u2 (fun h => h.2 rfl)).all
    clear u1 u2
    have M := XX2
    have N := YY2
    clear XX2 YY2
    generalize (((w2.setCell ⟨Gm, 0, none⟩ (.slice C0 xa.length f0)).setCell ⟨Gm, 1, none⟩ (.slice C1 xp.length f1)).setCell ⟨Gn, 0, none⟩ (.slice D0 ya.length i0)).setCell ⟨Gn, 1, none⟩ (.slice D1 yp.length i1) = W3 at *
    obtain ⟨s, hs⟩ : ∃ s, W3.heap.size = s := ⟨_, rfl⟩
    have hws3 : w.heap.size ≤ s := by rw [← hs]; exact hbb.size
    refine (catW_c _ _ _ _ _ _ _ _ _ _ _ _ (xa, xp) (ya, yp) _ x0 x1 y0 y1 _ _ _ _ rfl rfl rfl rfl (by dsimp only; omega)).mono ?_
    rw [HV.out, hs]
    rintro e w4 ⟨v4, rfl, ⟨R4, e4, S4, k4, rfl, r0, r1⟩, hb4⟩
    dsimp only at r0 r1 ⊢
    replace x0 := (x0.bound.mono (S' := fun k => k < s) (fun k hk => by omega))
    replace x1 := (x1.bound.mono (S' := fun k => k < s) (fun k hk => by omega))
    replace y0 := (y0.bound.mono (S' := fun k => k < s) (fun k hk => by omega))
    replace y1 := (y1.bound.mono (S' := fun k => k < s) (fun k hk => by omega))
    replace m0 := (m0.bound.mono (S' := fun k => k < s) (fun k hk => by omega))
    replace m1 := (m1.bound.mono (S' := fun k => k < s) (fun k hk => by omega))
    replace n0 := (n0.bound.mono (S' := fun k => k < s) (fun k hk => by omega))
    replace n1 := (n1.bound.mono (S' := fun k => k < s) (fun k hk => by omega))
    have Xlt := X.lt
    rw [hs] at Xlt
    have Ylt := Y.lt
    rw [hs] at Ylt
    have Mlt := M.lt
    rw [hs] at Mlt
    have Nlt := N.lt
    rw [hs] at Nlt
    have hs4 := hb4.size
    replace X := X.to hb4
    replace Y := Y.to hb4
    replace M := M.to hb4
    replace N := N.to hb4
    replace x0 := x0.to hb4
    replace x1 := x1.to hb4
    replace y0 := y0.to hb4
    replace y1 := y1.to hb4
    replace m0 := m0.to hb4
    replace m1 := m1.to hb4
    replace n0 := n0.to hb4
    replace n1 := n1.to hb4
    have hb3W := hb4
    have ha4 : Bel w4 (w4.alloc (.cells #[.slice R4 va.length e4, .slice S4 vp.length k4] 26)) := (Bel.refl _).alloc _
    have V := Box.new w4 26 (.slice R4 va.length e4) (.slice S4 vp.length k4)
    replace hb3W := hb3W.trans ha4
    replace r0 := r0.to ha4
    replace r1 := r1.to ha4
    replace X := X.to ha4
    replace Y := Y.to ha4
    replace M := M.to ha4
    replace N := N.to ha4
    replace x0 := x0.to ha4
    replace x1 := x1.to ha4
    replace y0 := y0.to ha4
    replace y1 := y1.to ha4
    replace m0 := m0.to ha4
    replace m1 := m1.to ha4
    replace n0 := n0.to ha4
    replace n1 := n1.to ha4
    clear hb4 ha4
    obtain ⟨Xc0, Xc1, _, _⟩ := X.cells
    go_wp2_with fail
    clear Xc0 Xc1
    generalize w4.alloc (.cells #[.slice R4 va.length e4, .slice S4 vp.length k4] 26) = W4 at *
    have hs4' := hb3W.size
    refine (ofW_c _ _ _ _ _ _ xa xp _ x0 x1 _ _ rfl rfl (by omega) (by omega) LX.out).mono ?_
    rw [HO.out]
    rintro e w5 ⟨R5, e5, S5, k5, rfl, o0, o1, hb5⟩
    dsimp only at o0 o1 ⊢
    replace o0 := o0.mono (S' := Ge s) (fun k hk => by unfold Ge at *; omega)
    replace o1 := o1.mono (S' := Ge s) (fun k hk => by unfold Ge at *; omega)
    replace X := X.to hb5
    replace Y := Y.to hb5
    replace M := M.to hb5
    replace N := N.to hb5
    replace x0 := x0.to hb5
    replace x1 := x1.to hb5
    replace y0 := y0.to hb5
    replace y1 := y1.to hb5
    replace m0 := m0.to hb5
    replace m1 := m1.to hb5
    replace n0 := n0.to hb5
    replace n1 := n1.to hb5
    replace V := V.to hb5
    replace r0 := r0.to hb5
    replace r1 := r1.to hb5
    have ha5 : Bel w5 (w5.alloc (.cells #[.slice R5 oa.length e5, .slice S5 op.length k5] 26)) := (Bel.refl _).alloc _
    have O := Box.new w5 26 (.slice R5 oa.length e5) (.slice S5 op.length k5)
    replace hb3W := (hb3W.trans hb5).trans ha5
    replace X := X.to ha5
    replace Y := Y.to ha5
    replace M := M.to ha5
    replace N := N.to ha5
    replace x0 := x0.to ha5
    replace x1 := x1.to ha5
    replace y0 := y0.to ha5
    replace y1 := y1.to ha5
    replace m0 := m0.to ha5
    replace m1 := m1.to ha5
    replace n0 := n0.to ha5
    replace n1 := n1.to ha5
    replace V := V.to ha5
    replace r0 := r0.to ha5
    replace r1 := r1.to ha5
    replace o0 := o0.to ha5
    replace o1 := o1.to ha5
    clear hb5 ha5
    have ha6 : Bel (w5.alloc (.cells #[.slice R5 oa.length e5, .slice S5 op.length k5] 26)) ((w5.alloc (.cells #[.slice R5 oa.length e5, .slice S5 op.length k5] 26)).alloc (.cells #[.slice R4 va.length e4, .slice S4 vp.length k4, .slice R5 oa.length e5, .slice S5 op.length k5] 26)) := (Bel.refl _).alloc _
    have hL : ∀ i, ((w5.alloc (.cells #[.slice R5 oa.length e5, .slice S5 op.length k5] 26)).alloc (.cells #[.slice R4 va.length e4, .slice S4 vp.length k4, .slice R5 oa.length e5, .slice S5 op.length k5] 26)).cell? ⟨(w5.alloc (.cells #[.slice R5 oa.length e5, .slice S5 op.length k5] 26)).heap.size, i, none⟩ = (#[.slice R4 va.length e4, .slice S4 vp.length k4, .slice R5 oa.length e5, .slice S5 op.length k5] : Array Value)[i]? := fun i => cellAt (heap_alloc_new (w5.alloc (.cells #[.slice R5 oa.length e5, .slice S5 op.length k5] 26)) _) i
    rw [show (w5.alloc (.cells #[.slice R5 oa.length e5, .slice S5 op.length k5] 26)).heap.size = w5.heap.size + 1 by simp] at hL
    obtain ⟨Vc0, Vc1, _, _⟩ := V.cells
    obtain ⟨Oc0, Oc1, _, _⟩ := O.cells
    go_wp2_with fail
    clear Vc0 Vc1 Oc0 Oc1
    replace X := X.to ha6
    replace Y := Y.to ha6
    replace M := M.to ha6
    replace N := N.to ha6
    replace x0 := x0.to ha6
    replace x1 := x1.to ha6
    replace y0 := y0.to ha6
    replace y1 := y1.to ha6
    replace m0 := m0.to ha6
    replace m1 := m1.to ha6
    replace n0 := n0.to ha6
    replace n1 := n1.to ha6
    replace r0 := r0.to ha6
    replace r1 := r1.to ha6
    replace o0 := o0.to ha6
    replace o1 := o1.to ha6
    replace hb3W := hb3W.trans ha6
    clear ha6 V O
    generalize (w5.alloc (.cells #[.slice R5 oa.length e5, .slice S5 op.length k5] 26)).alloc (.cells #[.slice R4 va.length e4, .slice S4 vp.length k4, .slice R5 oa.length e5, .slice S5 op.length k5] 26) = W9 at *
    generalize w5.heap.size + 1 = L at *
    have key : ∀ k, k < 2 → ∃ A0 c0 A1 c1 lb lps, W9.cell? ⟨L, k * 2, none⟩ = some (.slice A0 (lb : List Int).length c0) ∧ W9.cell? ⟨L, k * 2 + 1, none⟩ = some (.slice A1 (lps : List (List Int)).length c1) ∧ RdW W9 (Ge s) A0 c0 lb ∧ Rd wbT W9 (Ge s) A1 c1 lps := fun k hk => by
      obtain rfl | rfl : k = 0 ∨ k = 1 := by omega
      · exact ⟨_, _, _, _, va, vp, hL 0, hL 1, r0, r1⟩
      · exact ⟨_, _, _, _, oa, op, hL 2, hL 3, o0, o1⟩
    have KEY := Lib.hid key
    clear key hL r0 r1 o0 o1
    have b9 := hbb.trans hb3W
    have hs9 : s ≤ W9.heap.size := by have := hb3W.size; omega
    go_loopw [45] (fun v wr => ∃ (k : Nat) (W : World), W = wr ∧ k ≤ 2 ∧ v = .int .i64 k ∧ Shp s W9 W) (fun v _ => 2 - (intOf v).toNat)
    case atStart => exact ⟨0, _, rfl, by omega, rfl, Shp.refl _ _⟩
    case round =>
      obtain ⟨k, W, rfl, hk, rfl, hS⟩ := hrel
      by_cases hlt : k < 2
      · obtain ⟨E0, t0, E1, t1, lb, lps, g0, g1, rb, rps⟩ := KEY.out k hlt
        have j0 := hS.cells _ _ g0 (fun i => by simp)
        have j1 := hS.cells _ _ g1 (fun i => by simp)
        have lbm := rb.rd.lenMax
        have lpm := rps.lenMax
        have hal : Bel W (W.alloc (.cells #[.slice E0 lb.length t0, .slice E1 lps.length t1] 26)) := (Bel.refl _).alloc _
        have T := Box.new W 26 (.slice E0 lb.length t0) (.slice E1 lps.length t1)
        have hsW : s ≤ W.heap.size := Nat.le_trans hs9 hS.size
        have hS2 := hS.trans (Shp.of hal hsW)
        clear g0 g1 hal
        go_wp2_with fail
        clear j0 j1
        generalize W.alloc (.cells #[.slice E0 lb.length t0, .slice E1 lps.length t1] 26) = Wb at *
        have hsWb : s ≤ Wb.heap.size := Nat.le_trans hs9 hS2.size
        obtain ⟨T0, T1, _, _⟩ := T.cells
        generalize W.heap.size = TG at *
        go_loopw [52] (fun v wr => ∃ (i : Nat) (W' : World), W' = wr ∧ i ≤ lb.length ∧ v = .int .i64 i ∧ Shp s Wb W') (fun v _ => lb.length - (intOf v).toNat)
        case atStart => exact ⟨0, _, rfl, Nat.zero_le _, rfl, Shp.refl _ _⟩
        case round =>
          obtain ⟨i, W', rfl, hi, rfl, hS3⟩ := hrel
          have j0 := hS3.cells _ _ T0 (fun i => by simp)
          have j1 := hS3.cells _ _ T1 (fun i => by simp)
          by_cases hil : i < lb.length
          · obtain ⟨gg, n, rfl, hgs, hc, hf⟩ := (hS2.trans hS3).slot rb hil
            go_wp2
            go_roundw
            case rel => exact ⟨i + 1, _, rfl, by omega, by go_num, hS3.trans (Shp.set hgs hc)⟩
            case measure => simp [intOf]; omega
          · obtain rfl : i = lb.length := by omega
            clear j0 hil
            go_wp2
            clear j1
            go_loopw [66] (fun v wr => ∃ (i : Nat) (W'' : World), W'' = wr ∧ i ≤ lps.length ∧ v = .int .i64 i ∧ Shp s Wb W'') (fun v _ => lps.length - (intOf v).toNat)
            case atStart => exact ⟨0, _, rfl, Nat.zero_le _, rfl, hS3⟩
            case round =>
              clear hS3
              obtain ⟨i, W3', rfl, hi, rfl, hS3⟩ := hrel
              by_cases hil : i < lps.length
              · obtain ⟨ad, Bp, cbp, rfl, hpc, hpr⟩ := rps.rowW hil
                obtain ⟨p, hpe⟩ : ∃ p, lps[i] = p := ⟨_, rfl⟩
                rw [hpe] at hpc hpr
                clear hpe
                have lp := hpr.rd.lenMax
                have j0 := (hS2.trans hS3).cells _ _ hpc (fun i => by simp)
                clear hpc
                go_wp2
                clear j0
                go_loopw [72] (fun v wr => ∃ (m : Nat) (W4' : World), W4' = wr ∧ m ≤ p.length ∧ v = .int .i64 m ∧ Shp s Wb W4') (fun v _ => p.length - (intOf v).toNat)
                case atStart => exact ⟨0, _, rfl, Nat.zero_le _, rfl, hS3⟩
                case round =>
                  clear hS3
                  obtain ⟨m, W4', rfl, hm, rfl, hS3⟩ := hrel
                  by_cases hml : m < p.length
                  · obtain ⟨gg, n, rfl, hgs, hc, hf⟩ := (hS2.trans hS3).slot (hpr.mono (S' := Ge s) (fun k hk => hk)) hml
                    go_wp2
                    go_roundw
                    case rel => exact ⟨m + 1, _, rfl, by omega, by go_num, hS3.trans (Shp.set hgs hc)⟩
                    case measure => simp [intOf]; omega
                  · obtain rfl : m = p.length := by omega
                    go_wp2
                    go_roundw
                    case rel => exact ⟨i + 1, _, rfl, by omega, by go_num, hS3⟩
                    case measure => simp [intOf]; omega
              · obtain rfl : i = lps.length := by omega
                go_wp2
                go_roundw
                case rel => exact ⟨k + 1, _, rfl, by omega, by go_num, hS2.trans hS3⟩
                case measure => simp [intOf]; omega
      · obtain rfl : k = 2 := by omega
        have bw := b9.shp hS hws3
        replace x0 := x0.low hS
        replace x1 := x1.low hS
        replace y0 := y0.low hS
        replace y1 := y1.low hS
        replace m0 := m0.low hS
        replace m1 := m1.low hS
        replace n0 := n0.low hS
        replace n1 := n1.low hS
        obtain ⟨Xc0, Xc1, _, _⟩ := (X.low hS Xlt).cells
        obtain ⟨Mc0, Mc1, _, _⟩ := (M.low hS Mlt).cells
        have Y2 := Y.low hS Ylt
        have N2 := N.low hS Nlt
        go_wp2_with fail
        refine (sameLin_c _ _ _ _ _ _ _ _ _ _ _ _ (xa, xp) (xa, xp) _ x0 x1 m0 m1 _ _ _ _ rfl rfl rfl rfl).mono ?_
        rw [decide_eq_true (rfl : ((xa, xp) : Lin) = (xa, xp))]
        rintro e w10 ⟨rfl, hb10⟩
        clear Xc0 Xc1 Mc0 Mc1
        obtain ⟨Yc0, Yc1, _, _⟩ := (Y2.to hb10).cells
        obtain ⟨Nc0, Nc1, _, _⟩ := (N2.to hb10).cells
        go_wp2_with fail
        refine (sameLin_c _ _ _ _ _ _ _ _ _ _ _ _ (ya, yp) (ya, yp) _ (y0.to hb10) (y1.to hb10) (n0.to hb10) (n1.to hb10) _ _ _ _ rfl rfl rfl rfl).mono ?_
        rw [decide_eq_true (rfl : ((ya, yp) : Lin) = (ya, yp))]
        rintro e w11 ⟨rfl, hb11⟩
        go_wp2_with fail
        refine (wakes06 _).mono ?_
        rintro e w12 ⟨rfl, hb12⟩
        go_wp2
        go_ret
        exact ⟨rfl, ((bw.trans hb10).trans hb11).trans hb12⟩
end Go.Proofs.Ytghdleofbkalbaa
namespace Go.Proofs.Ytghdleofbkalbaa.rowLinKeeps
open Go.ChangeShapes Go.WideShapes Go.ChangeAt Go.RowKit Go.Cb
open Go.ChangeMaps (open_string shut_string)
theorem own : ownKnob Try.prog.godebug = none := by kernel_rfl
theorem laidOut : laidOutB Try.prog = true := by kernel_rfl
set_option maxRecDepth 100000 in
theorem lifted (os : Os) (started : os.Started) (H : Type) (enc : TypeId × Value → H) :
    ReturnsInHanded {} Try.checked os 6 .any (Rows.linKeepsSpec.pre6 enc Try.prog Try.f6 Rows.linKeepsRow.domain false) (Rows.linKeepsSpec.post enc Try.prog Try.f6 false true false false) := by
  refine returnsInHanded_of_change_sized (C := Try.checked) own started (by kernel_rfl) Try.func6
    (ChangeSpec.witness6 (enc := enc) (C := Try.checked) false ⟨#[], #[.slice none 0 0, .slice none 0 0], []⟩ 8 (by kernel_rfl) (by kernel_rfl) (by kernel_rfl) (by kernel_rfl)) ?_
  intro W base args ds gs before hval0 hW hcnd hsz0 _
  have hsz : (DataW.weightsEach Try.prog (Try.f6.params.toList ++ Rows.linKeepsSpec.plain.varTypes Try.prog) (ds ++ gs)).all (· ≤ reachBytes) = true := hsz0
  have hval : ∀ (j : Nat) t v, Try.f6.params[j]? = some t → args[j]? = some v → Value.okWide Try.prog W .any base t v := hval0
  have hW' := hW
  obtain ⟨p, q, hA0, hV, rfl, hfz, hnd⟩ := hW
  have hA : DataW.TrodAll enc Try.prog W 0 (fun _ => true) true Try.f6.params.toList args.toList ds p := hA0
  rw [Try.params6] at hA hval hsz
  obtain ⟨v0, vs0, d0, ds0, p0, q0, hargs, rfl, rfl, h0, r0⟩ := trodAll_cons hA
  obtain ⟨v1, vs1, d1, ds1, p1, q1, rfl, rfl, rfl, h1, r1⟩ := trodAll_cons r0
  obtain ⟨rfl, rfl, rfl⟩ := trodAll_nil r1
  obtain rfl : args = #[v0, v1] := by cases args; simp_all
  obtain ⟨rfl, rfl⟩ := trodVars_none hV
  obtain ⟨a0, len0, cap0, rfl⟩ := okWide_slice Try.underlying22 (hval 0 22 v0 rfl rfl)
  have k0 := h0
  have lt0 : ∀ x ∈ p0, x.block < W.heap.size := by obtain ⟨m, hm⟩ := k0; exact DataW.trod_lt m _ _ _ hm
  obtain ⟨l0, rfl, R0, wf0, sz0⟩ := open_rd hsz (j := 0) (t := 22) rfl rfl Try.underlying22 Try.underlying3 (by kernel_rfl) (by kernel_rfl) h0
  obtain ⟨a1, len1, cap1, rfl⟩ := okWide_slice Try.underlying22 (hval 1 22 v1 rfl rfl)
  have k1 := h1
  have lt1 : ∀ x ∈ p1, x.block < W.heap.size := by obtain ⟨m, hm⟩ := k1; exact DataW.trod_lt m _ _ _ hm
  obtain ⟨l1, rfl, R1, wf1, sz1⟩ := open_rd hsz (j := 1) (t := 22) rfl rfl Try.underlying22 Try.underlying3 (by kernel_rfl) (by kernel_rfl) h1
  clear hA0 hval0 hsz0 hsz
  refine (LinKeeps_walk W a0 cap0 l0 R0 (fun x hx => inI64_wf (wf0 x hx)) sz0 a1 cap1 l1 R1 (fun x hx => inI64_wf (wf1 x hx)) sz1).mono fun e W' ⟨he, bel⟩ => ?_
  subst he
  exact ⟨_, rfl, _, _, _, [], _, [], hW', trodAll_mk1 (shut_bool Try.underlying4 _), (trodAll_cons_mk (Below.trod laidOut (by kernel_rfl) (of_decide_eq_true (by kernel_rfl)) k0 bel.out lt0) (trodAll_cons_mk (Below.trod laidOut (by kernel_rfl) (of_decide_eq_true (by kernel_rfl)) k1 bel.out lt1) trodAll_mk0)), rfl, bel.out.frame _, fun h => by cases h⟩
theorem over : Rows.linKeepsRow.holds Try.pinned (OpenSpec.ofChange Rows.linKeepsSpec) :=
  OpenClaim.holds_of_wide 6 Try.f6 rfl rfl rfl rfl rfl rfl rfl ⟨rfl, rfl, rfl, rfl, rfl⟩ rfl rfl rfl rfl rfl (by kernel_rfl) Try.func6 (by kernel_rfl)
    (of_decide_eq_true (by kernel_rfl)) (by unfold Func.isWrapper; first | (rw [if_pos (by decide +kernel)]; kernel_rfl) | (rw [if_neg (by decide +kernel)]; exact ⟨rfl, rfl⟩))
    (fun os started H enc _ => lifted os started H enc)
end Go.Proofs.Ytghdleofbkalbaa.rowLinKeeps
namespace Go.Proofs.Ytghdleofbkalbaa
theorem LinKeeps_holds : Rows.LinKeepsSaid := rowLinKeeps.over
#print axioms LinKeeps_holds
end Go.Proofs.Ytghdleofbkalbaa
