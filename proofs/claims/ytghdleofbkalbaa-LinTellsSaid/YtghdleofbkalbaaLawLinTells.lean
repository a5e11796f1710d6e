/- LinTells: any base, any periods: are they right, the right one of them, the order of two. -/
import Derived.Test.YtghdleofbkalbaaCat2
import Derived.Test.YtghdleofbkalbaaCat3
import Derived.Test.YtghdleofbkalbaaCat4
import Derived.Test.YtghdleofbkalbaaLib5
import Derived.Test.YtghdleofbkalbaaRowLibO
namespace Go.Proofs.Ytghdleofbkalbaa
open Go.RowKit Go.Cb Go.Sort
theorem rawL_len (x : List Int × List (List Int)) : (rawL x 14 6).1.length ≤ 14 ∧ (rawL x 14 6).2.length ≤ 6 ∧ ∀ p ∈ (rawL x 14 6).2, p.length ≤ 14 := by
  refine ⟨?_, ?_, fun p hp => ?_⟩
  · unfold rawL; simp only [List.length_take]; omega
  · unfold rawL; simp only [List.length_map, List.length_take]; omega
  · unfold rawL at hp
    obtain ⟨q, _, rfl⟩ := List.mem_map.1 hp
    rw [List.length_take]; omega
theorem opensRaw6 : Opens Try.prog linT (fun x => (∀ n ∈ x.1, inI64 n) ∧ ∀ l ∈ x.2, ∀ n ∈ l, inI64 n) 47 :=
  opens_struct2 Try.underlying47 (by kernel_rfl) (by kernel_rfl) (by kernel_rfl) (by kernel_rfl) (by kernel_rfl) (opens_slice Try.underlying22 (by kernel_rfl) (opens_int Try.underlying3)) (opens_slice Try.underlying45 (by kernel_rfl) (opens_slice Try.underlying22 (by kernel_rfl) (opens_int Try.underlying3)))
set_option maxHeartbeats 16000000 in
set_option maxRecDepth 100000 in
theorem LinTells_walk (w : World) (P0 : Option Addr) (c0 : Nat) (P1 : Option Addr) (c1 : Nat) (ra : Lin) (a0 : Rd intT w All P0 c0 ra.1) (a1 : Rd bagT w All P1 c1 ra.2) (_ : (∀ n ∈ ra.1, inI64 n) ∧ ∀ l ∈ ra.2, ∀ n ∈ l, inI64 n)
    (Q0 : Option Addr) (d0 : Nat) (Q1 : Option Addr) (d1 : Nat) (rb : Lin) (b0 : Rd intT w All Q0 d0 rb.1) (b1 : Rd bagT w All Q1 d1 rb.2) (_ : (∀ n ∈ rb.1, inI64 n) ∧ ∀ l ∈ rb.2, ∀ n ∈ l, inI64 n) :
    Calls Try.prog 7 #[.agg #[.slice P0 ra.1.length c0, .slice P1 ra.2.length c1], .agg #[.slice Q0 rb.1.length d0, .slice Q1 rb.2.length d1]] w fun e w' => e = .returned (.bool true) ∧ Bel w w' := by
  obtain ⟨xa, xp, hx⟩ : ∃ xa xp, rawL ra 14 6 = (xa, xp) := ⟨_, _, rfl⟩
  obtain ⟨ya, yp, hy⟩ : ∃ ya yp, rawL rb 14 6 = (ya, yp) := ⟨_, _, rfl⟩
  obtain ⟨lx1, lx2, lx3⟩ := hx ▸ rawL_len ra
  obtain ⟨ly1, ly2, ly3⟩ := hy ▸ rawL_len rb
  dsimp only at lx1 lx2 lx3 ly1 ly2 ly3
  obtain ⟨oa, op, ok, ho⟩ : ∃ oa op ok, ofLin xa xp = ((oa, op), ok) := ⟨_, _, _, rfl⟩
  obtain ⟨va, vp, gd, hv⟩ : ∃ va vp gd, catL (xa, xp) (ya, yp) = ((va, vp), gd) := ⟨_, _, _, rfl⟩
  have HX := Lib.hid hx
  have HY := Lib.hid hy
  have HO := Lib.hid ho
  have HV := Lib.hid hv
  have LX3 := Lib.hid (show ∀ p ∈ xp, p.length ≤ 1000000 from fun p hp => Nat.le_trans (lx3 p hp) (by omega))
  obtain ⟨na, hna⟩ : ∃ na, ra.1.length = na := ⟨_, rfl⟩
  obtain ⟨nb, hnb⟩ : ∃ nb, ra.2.length = nb := ⟨_, rfl⟩
  obtain ⟨nc, hnc⟩ : ∃ nc, rb.1.length = nc := ⟨_, rfl⟩
  obtain ⟨nd, hnd⟩ : ∃ nd, rb.2.length = nd := ⟨_, rfl⟩
  rw [hna, hnb, hnc, hnd]
  have HNA := Lib.hid hna
  have HNB := Lib.hid hnb
  have HNC := Lib.hid hnc
  have HND := Lib.hid hnd
  have hba : Bel w ((w.alloc (.cells #[.slice P0 na c0, .slice P1 nb c1] 47)).alloc (.cells #[.slice Q0 nc d0, .slice Q1 nd d1] 47)) := ((Bel.refl _).alloc _).alloc _
  have A := (Box.new w 47 (.slice P0 na c0) (.slice P1 nb c1)).to ((Bel.refl _).alloc (.cells #[.slice Q0 nc d0, .slice Q1 nd d1] 47))
  have B := Box.new (w.alloc (.cells #[.slice P0 na c0, .slice P1 nb c1] 47)) 47 (.slice Q0 nc d0) (.slice Q1 nd d1)
  rw [show (w.alloc (.cells #[.slice P0 na c0, .slice P1 nb c1] 47)).heap.size = w.heap.size + 1 by simp] at B
  have hbb := hba
  clear hx hy ho hv lx3 ly3 hna hnb hnc hnd
  go_enter Try.func7, Try.ntmps7
  go_wp2_with fail
  generalize (w.alloc (.cells #[.slice P0 na c0, .slice P1 nb c1] 47)).alloc (.cells #[.slice Q0 nc d0, .slice Q1 nd d1] 47) = W at *
  refine wp_region_grow2 6 (by kernel_rfl) (by kernel_rfl) (by kernel_rfl) [SPred.val (.agg #[.slice P0 na c0, .slice P1 nb c1]), SPred.lin (xa, xp), SPred.val (.agg #[.slice Q0 nc d0, .slice Q1 nd d1]), SPred.lin (ya, yp), SPred.box 26 (.slice none 0 0) (.slice none 0 0), SPred.box 26 (.slice none 0 0) (.slice none 0 0)] ?_ ?_
  · refine ⟨fun u ρ w2 hb2 hd => ?_, fun u ρ w2 hb2 hd => ?_, fun u ρ w2 hb2 hd => ?_, fun u ρ w2 hb2 hd => ?_, fun u ρ w2 hb2 hd => ?_, fun u ρ w2 hb2 hd => ?_, trivial⟩
    · obtain ⟨z0, z1, _, _⟩ := (A.to hb2).cells
      simp only [growFr, List.getElem?_cons_succ, List.getElem?_cons_zero, Option.bind_some, Act.put, List.setIfInBounds_toArray, List.set_cons_succ, List.set_cons_zero]
      go_wp2_with fail
      exact ⟨rfl, _, rfl, Bel.refl _, rfl⟩
    · have h1 : u 0 = _ := hd 0 (by kernel_rfl)
      simp only [growFr, List.getElem?_cons_succ, List.getElem?_cons_zero, Option.bind_some, Act.put, List.setIfInBounds_toArray, List.set_cons_succ, List.set_cons_zero, h1]
      have Q := of06_c _ _ _ _ _ _ ra w2 (a0.to (hbb.trans hb2)) (a1.to (hbb.trans hb2)) na nb HNA.out.symm HNB.out.symm
      rw [HX.out] at Q
      have HQ := Lib.hid Q
      clear Q
      go_wp2_with fail
      refine HQ.out.mono ?_
      rintro e w3 ⟨C0, e0, C1, e1, rfl, r0, r1, hb3⟩
      go_wp2_with fail
      exact ⟨rfl, _, rfl, hb3, C0, e0, C1, e1, rfl, r0.bound, r1.bound⟩
    · obtain ⟨z0, z1, _, _⟩ := (B.to hb2).cells
      simp only [growFr, List.getElem?_cons_succ, List.getElem?_cons_zero, Option.bind_some, Act.put, List.setIfInBounds_toArray, List.set_cons_succ, List.set_cons_zero]
      go_wp2_with fail
      exact ⟨rfl, _, rfl, Bel.refl _, rfl⟩
    · have h1 : u 2 = _ := hd 2 (by kernel_rfl)
      simp only [growFr, List.getElem?_cons_succ, List.getElem?_cons_zero, Option.bind_some, Act.put, List.setIfInBounds_toArray, List.set_cons_succ, List.set_cons_zero, h1]
      have Q := of06_c _ _ _ _ _ _ rb w2 (b0.to (hbb.trans hb2)) (b1.to (hbb.trans hb2)) nc nd HNC.out.symm HND.out.symm
      rw [HY.out] at Q
      have HQ := Lib.hid Q
      clear Q
      go_wp2_with fail
      refine HQ.out.mono ?_
      rintro e w3 ⟨C0, e0, C1, e1, rfl, r0, r1, hb3⟩
      go_wp2_with fail
      exact ⟨rfl, _, rfl, hb3, C0, e0, C1, e1, rfl, r0.bound, r1.bound⟩
    · simp only [growFr, List.getElem?_cons_succ, List.getElem?_cons_zero, Option.bind_some, Act.put, List.setIfInBounds_toArray, List.set_cons_succ, List.set_cons_zero]
      go_wp2_with fail
      exact ⟨rfl, _, rfl, (Bel.refl _).alloc _, rfl, by simp, Box.new _ _ _ _⟩
    · simp only [growFr, List.getElem?_cons_succ, List.getElem?_cons_zero, Option.bind_some, Act.put, List.setIfInBounds_toArray, List.set_cons_succ, List.set_cons_zero]
      go_wp2_with fail
      exact ⟨rfl, _, rfl, (Bel.refl _).alloc _, rfl, by simp, Box.new _ _ _ _⟩
  · intro u ρ w2 hb2 hall hdj
    obtain ⟨A0, f0, A1, f1, h1, x0, x1⟩ : (SPred.lin (xa, xp)).φ (u 1) (ρ 1).1 (ρ 1).2 w2 := (hall 1 (by omega)).1
    obtain ⟨B0, g0, B1, g1, h3, y0, y1⟩ : (SPred.lin (ya, yp)).φ (u 3) (ρ 3).1 (ρ 3).2 w2 := (hall 3 (by omega)).1
    obtain ⟨h4, l4, X⟩ : (SPred.box 26 (.slice none 0 0) (.slice none 0 0)).φ (u 4) (ρ 4).1 (ρ 4).2 w2 := (hall 4 (by omega)).1
    obtain ⟨h5, l5, Y⟩ : (SPred.box 26 (.slice none 0 0) (.slice none 0 0)).φ (u 5) (ρ 5).1 (ρ 5).2 w2 := (hall 5 (by omega)).1
    have q4 := (hall 4 (by omega)).2
    have q5 := (hall 5 (by omega)).2
    have q1 := (hall 1 (by omega)).2
    have q3 := (hall 3 (by omega)).2
    have j14 := hdj 1 4 (by omega) (by omega) (by omega)
    have j15 := hdj 1 5 (by omega) (by omega) (by omega)
    have j34 := hdj 3 4 (by omega) (by omega) (by omega)
    have j35 := hdj 3 5 (by omega) (by omega) (by omega)
    have j45 := hdj 4 5 (by omega) (by omega) (by omega)
    dsimp only at h1 h3 x0 x1 y0 y1
    simp only [List.drop_succ_cons, List.drop_zero, growFr, List.getElem?_cons_succ, List.getElem?_cons_zero, Option.bind_some, Act.put, List.setIfInBounds_toArray, List.set_cons_succ, List.set_cons_zero, h1, h3, h4, h5]
    replace x0 : Rd intT w2 (fun k => k ≠ (ρ 4).1 ∧ k ≠ (ρ 5).1) A0 f0 xa := x0.mono (fun k hk => ⟨by omega, by omega⟩)
    replace x1 : Rd bagT w2 (fun k => k ≠ (ρ 4).1 ∧ k ≠ (ρ 5).1) A1 f1 xp := x1.mono (fun k hk => ⟨by omega, by omega⟩)
    replace y0 : Rd intT w2 (fun k => k ≠ (ρ 4).1 ∧ k ≠ (ρ 5).1) B0 g0 ya := y0.mono (fun k hk => ⟨by omega, by omega⟩)
    replace y1 : Rd bagT w2 (fun k => k ≠ (ρ 4).1 ∧ k ≠ (ρ 5).1) B1 g1 yp := y1.mono (fun k hk => ⟨by omega, by omega⟩)
    have g4 : W.heap.size ≤ (ρ 4).1 := q4.1
    have g5 : W.heap.size ≤ (ρ 5).1 := q5.1
    have n45 : (ρ 4).1 ≠ (ρ 5).1 := by omega
    replace hbb := hbb.trans hb2
    have hws := hbb.size
    have hwW := hba.size
    clear hall hdj j14 j15 j34 j35 j45 q4 q5 q1 q3 l4 l5 h1 h3 h4 h5
    generalize (ρ 4).1 = G at *
    generalize (ρ 5).1 = K at *
    have u1 := (Upd.one w2 G 0 (.slice A0 xa.length f0)).set (p := ⟨G, 1, none⟩) rfl (.slice A1 xp.length f1)
    have Y1 := Y.other u1 (Ne.symm n45)
    have X1 := (X.set0 (.slice A0 xa.length f0)).set1 (.slice A1 xp.length f1)
    obtain ⟨s0, s1, s2, s3⟩ := X.cells
    obtain ⟨t0, t1, t2, t3⟩ := (X.set0 (.slice A0 xa.length f0)).cells
    obtain ⟨v0, v1, v2, v3⟩ := Y1.cells
    obtain ⟨z0, z1, z2, z3⟩ := (Y1.set0 (.slice B0 ya.length g0)).cells
    have u2 := (Upd.one ((w2.setCell ⟨G, 0, none⟩ (.slice A0 xa.length f0)).setCell ⟨G, 1, none⟩ (.slice A1 xp.length f1)) K 0 (.slice B0 ya.length g0)).set (p := ⟨K, 1, none⟩) rfl (.slice B1 yp.length g1)
    have X2 := X1.other u2 n45
    have Y2 := (Y1.set0 (.slice B0 ya.length g0)).set1 (.slice B1 yp.length g1)
    obtain ⟨Xc0, Xc1, _, _⟩ := X2.cells
    go_wp2_with fail
    clear s0 s1 s2 s3 t0 t1 t2 t3 v0 v1 v2 v3 z0 z1 z2 z3 Xc0 Xc1 X Y X1 Y1
    replace hbb := (hbb.upd u1 (by omega)).upd u2 (by omega)
    replace x0 := ((x0.upd u1 (fun h => h.1 rfl)).upd u2 (fun h => h.2 rfl)).all
    replace x1 := ((x1.upd u1 (fun h => h.1 rfl)).upd u2 (fun h => h.2 rfl)).all
    replace y0 := ((y0.upd u1 (fun h => h.1 rfl)).upd u2 (fun h => h.2 rfl)).all
    replace y1 := ((y1.upd u1 (fun h => h.1 rfl)).upd u2 (fun h => h.2 rfl)).all
    clear u1 u2
    have X := X2
    have Y := Y2
    clear X2 Y2
    generalize (((w2.setCell ⟨G, 0, none⟩ (.slice A0 xa.length f0)).setCell ⟨G, 1, none⟩ (.slice A1 xp.length f1)).setCell ⟨K, 0, none⟩ (.slice B0 ya.length g0)).setCell ⟨K, 1, none⟩ (.slice B1 yp.length g1) = W3 at *
    clear a0 a1 b0 b1 A B hba
    refine (of_c _ _ _ _ _ _ xa xp _ x0 x1 _ _ rfl rfl (by omega) (by omega) LX3.out).mono ?_
    rw [HO.out]
    rintro e w4 ⟨R4, e4, S4, k4, rfl, o0, o1, hb4⟩
    dsimp only at o0 o1 ⊢
    replace o0 := o0.all
    replace o1 := o1.all
    replace hbb := hbb.trans hb4
    replace x0 := x0.to hb4
    replace x1 := x1.to hb4
    replace y0 := y0.to hb4
    replace y1 := y1.to hb4
    replace X := X.to hb4
    replace Y := Y.to hb4
    clear hb4
    have O := Box.new w4 26 (.slice R4 oa.length e4) (.slice S4 op.length k4)
    have haw4 : Bel w4 (w4.alloc (.cells #[.slice R4 oa.length e4, .slice S4 op.length k4] 26)) := (Bel.refl _).alloc _
    replace hbb := hbb.trans haw4
    replace x0 := x0.to haw4
    replace x1 := x1.to haw4
    replace y0 := y0.to haw4
    replace y1 := y1.to haw4
    replace X := X.to haw4
    replace Y := Y.to haw4
    replace o0 := o0.to haw4
    replace o1 := o1.to haw4
    clear haw4
    obtain ⟨Xc0, Xc1, _, _⟩ := X.cells
    go_wp2_with fail
    clear Xc0 Xc1
    generalize w4.alloc (.cells #[.slice R4 oa.length e4, .slice S4 op.length k4] 26) = w4 at *
    generalize w4.heap.size = b4g at *
    refine (refOfLin_c _ _ _ _ _ _ xa xp _ x0 x1 _ _ rfl rfl (by omega) (by omega) LX3.out).mono ?_
    rw [HO.out]
    rintro e w5 ⟨R5, e5, S5, k5, rfl, r0, r1, hb5⟩
    dsimp only at r0 r1 ⊢
    replace r0 := r0.all
    replace r1 := r1.all
    replace hbb := hbb.trans hb5
    replace x0 := x0.to hb5
    replace x1 := x1.to hb5
    replace y0 := y0.to hb5
    replace y1 := y1.to hb5
    replace X := X.to hb5
    replace Y := Y.to hb5
    replace o0 := o0.to hb5
    replace o1 := o1.to hb5
    replace O := O.to hb5
    clear hb5
    have R := Box.new w5 26 (.slice R5 oa.length e5) (.slice S5 op.length k5)
    have haw5 : Bel w5 (w5.alloc (.cells #[.slice R5 oa.length e5, .slice S5 op.length k5] 26)) := (Bel.refl _).alloc _
    replace hbb := hbb.trans haw5
    replace x0 := x0.to haw5
    replace x1 := x1.to haw5
    replace y0 := y0.to haw5
    replace y1 := y1.to haw5
    replace X := X.to haw5
    replace Y := Y.to haw5
    replace o0 := o0.to haw5
    replace o1 := o1.to haw5
    replace O := O.to haw5
    replace r0 := r0.to haw5
    replace r1 := r1.to haw5
    clear haw5
    obtain ⟨Xc0, Xc1, _, _⟩ := X.cells
    obtain ⟨Yc0, Yc1, _, _⟩ := Y.cells
    go_wp2_with fail
    clear Xc0 Xc1 Yc0 Yc1
    generalize w5.alloc (.cells #[.slice R5 oa.length e5, .slice S5 op.length k5] 26) = w5 at *
    generalize w5.heap.size = b5g at *
    refine (catW_c _ _ _ _ _ _ _ _ _ _ _ _ (xa, xp) (ya, yp) _ x0 x1 y0 y1 _ _ _ _ rfl rfl rfl rfl (by dsimp only; omega)).mono ?_
    rw [HV.out]
    rintro e w6 ⟨v6, rfl, ⟨R6, e6, S6, k6, rfl, v0, v1⟩, hb6⟩
    dsimp only at v0 v1 ⊢
    replace v0 := v0.rd.all
    replace v1 := v1.bags.all
    replace hbb := hbb.trans hb6
    replace x0 := x0.to hb6
    replace x1 := x1.to hb6
    replace y0 := y0.to hb6
    replace y1 := y1.to hb6
    replace X := X.to hb6
    replace Y := Y.to hb6
    replace o0 := o0.to hb6
    replace o1 := o1.to hb6
    replace O := O.to hb6
    replace r0 := r0.to hb6
    replace r1 := r1.to hb6
    replace R := R.to hb6
    clear hb6
    have V := Box.new w6 26 (.slice R6 va.length e6) (.slice S6 vp.length k6)
    have haw6 : Bel w6 (w6.alloc (.cells #[.slice R6 va.length e6, .slice S6 vp.length k6] 26)) := (Bel.refl _).alloc _
    replace hbb := hbb.trans haw6
    replace x0 := x0.to haw6
    replace x1 := x1.to haw6
    replace y0 := y0.to haw6
    replace y1 := y1.to haw6
    replace X := X.to haw6
    replace Y := Y.to haw6
    replace o0 := o0.to haw6
    replace o1 := o1.to haw6
    replace O := O.to haw6
    replace r0 := r0.to haw6
    replace r1 := r1.to haw6
    replace R := R.to haw6
    replace v0 := v0.to haw6
    replace v1 := v1.to haw6
    clear haw6
    obtain ⟨Xc0, Xc1, _, _⟩ := X.cells
    obtain ⟨Yc0, Yc1, _, _⟩ := Y.cells
    go_wp2_with fail
    clear Xc0 Xc1 Yc0 Yc1
    generalize w6.alloc (.cells #[.slice R6 va.length e6, .slice S6 vp.length k6] 26) = w6 at *
    generalize w6.heap.size = b6g at *
    refine (refCat_c _ _ _ _ _ _ _ _ _ _ _ _ (xa, xp) (ya, yp) _ x0 x1 y0 y1 _ _ _ _ rfl rfl rfl rfl (by dsimp only; omega)).mono ?_
    rw [HV.out]
    rintro e w7 ⟨R7, e7, S7, k7, rfl, d0, d1, hb7⟩
    dsimp only at d0 d1 ⊢
    replace d0 := d0.all
    replace d1 := d1.all
    replace hbb := hbb.trans hb7
    replace x0 := x0.to hb7
    replace x1 := x1.to hb7
    replace y0 := y0.to hb7
    replace y1 := y1.to hb7
    replace X := X.to hb7
    replace Y := Y.to hb7
    replace o0 := o0.to hb7
    replace o1 := o1.to hb7
    replace O := O.to hb7
    replace r0 := r0.to hb7
    replace r1 := r1.to hb7
    replace R := R.to hb7
    replace v0 := v0.to hb7
    replace v1 := v1.to hb7
    replace V := V.to hb7
    clear hb7
    have D := Box.new w7 26 (.slice R7 va.length e7) (.slice S7 vp.length k7)
    have haw7 : Bel w7 (w7.alloc (.cells #[.slice R7 va.length e7, .slice S7 vp.length k7] 26)) := (Bel.refl _).alloc _
    replace hbb := hbb.trans haw7
    replace x0 := x0.to haw7
    replace x1 := x1.to haw7
    replace y0 := y0.to haw7
    replace y1 := y1.to haw7
    replace X := X.to haw7
    replace Y := Y.to haw7
    replace o0 := o0.to haw7
    replace o1 := o1.to haw7
    replace O := O.to haw7
    replace r0 := r0.to haw7
    replace r1 := r1.to haw7
    replace R := R.to haw7
    replace v0 := v0.to haw7
    replace v1 := v1.to haw7
    replace V := V.to haw7
    replace d0 := d0.to haw7
    replace d1 := d1.to haw7
    clear haw7
    go_wp2_with fail
    generalize w7.alloc (.cells #[.slice R7 va.length e7, .slice S7 vp.length k7] 26) = w7 at *
    generalize w7.heap.size = b7g at *
    obtain ⟨rx, hrx⟩ : ∃ rx, rightL (xa, xp) = rx := ⟨_, rfl⟩
    obtain ⟨px, hpx⟩ : ∃ px, (rightL (xa, xp) && xp.isEmpty) = px := ⟨_, rfl⟩
    obtain ⟨cz, hcz⟩ : ∃ cz, cmpLin (xa, xp) (ya, yp) = cz := ⟨_, rfl⟩
    have K1 := Lib.hid (show ∀ W', Bel w7 W' → Calls Try.prog 16 #[.agg #[.slice A0 xa.length f0, .slice A1 xp.length f1]] W' fun e w' => e = .returned (.bool rx) ∧ Bel W' w' from fun W' h => by
      have := linRight_c _ _ _ _ _ _ xa xp W' (x0.to h) (x1.to h) _ _ rfl rfl
      rw [hrx] at this; exact this)
    have K2 := Lib.hid (show ∀ W', Bel w7 W' → Calls Try.prog 25 #[.agg #[.slice A0 xa.length f0, .slice A1 xp.length f1]] W' fun e w' => e = .returned (.bool rx) ∧ Bel W' w' from fun W' h => by
      have := refRightLin_c _ _ _ _ _ _ xa xp W' (x0.to h) (x1.to h) _ _ rfl rfl
      rw [hrx] at this; exact this)
    have K3 := Lib.hid (show ∀ W', Bel w7 W' → Calls Try.prog 20 #[.agg #[.slice A0 xa.length f0, .slice A1 xp.length f1]] W' fun e w' => e = .returned (.bool px) ∧ Bel W' w' from fun W' h => by
      have := point_c _ _ _ _ _ _ xa xp W' (x0.to h) (x1.to h) _ _ rfl rfl
      rw [hpx] at this; exact this)
    have K4 := Lib.hid (show ∀ W', Bel w7 W' → Calls Try.prog 26 #[.agg #[.slice A0 xa.length f0, .slice A1 xp.length f1]] W' fun e w' => e = .returned (.bool px) ∧ Bel W' w' from fun W' h => by
      have := refPoint_c _ _ _ _ _ _ xa xp W' (x0.to h) (x1.to h) _ _ rfl rfl
      rw [hpx] at this; exact this)
    have K5 := Lib.hid (show ∀ W', Bel w7 W' → Calls Try.prog 10 #[.agg #[.slice R4 oa.length e4, .slice S4 op.length k4], .agg #[.slice R5 oa.length e5, .slice S5 op.length k5]] W' fun e w' => e = .returned (.bool true) ∧ Bel W' w' from fun W' h => by
      have := sameLin_c _ _ _ _ _ _ _ _ _ _ _ _ (oa, op) (oa, op) W' (o0.to h) (o1.to h) (r0.to h) (r1.to h) _ _ _ _ rfl rfl rfl rfl
      rw [decide_eq_true rfl] at this; exact this)
    have K6 := Lib.hid (show ∀ W', Bel w7 W' → Calls Try.prog 10 #[.agg #[.slice R6 va.length e6, .slice S6 vp.length k6], .agg #[.slice R7 va.length e7, .slice S7 vp.length k7]] W' fun e w' => e = .returned (.bool true) ∧ Bel W' w' from fun W' h => by
      have := sameLin_c _ _ _ _ _ _ _ _ _ _ _ _ (va, vp) (va, vp) W' (v0.to h) (v1.to h) (d0.to h) (d1.to h) _ _ _ _ rfl rfl rfl rfl
      rw [decide_eq_true rfl] at this; exact this)
    have K7 := Lib.hid (show ∀ W', Bel w7 W' → Calls Try.prog 9 #[.agg #[.slice A0 xa.length f0, .slice A1 xp.length f1], .agg #[.slice B0 ya.length g0, .slice B1 yp.length g1]] W' fun e w' => e = .returned (.int .i64 cz) ∧ Bel W' w' from fun W' h => by
      have := linCompare_c _ _ _ _ _ _ _ _ _ _ _ _ (xa, xp) (ya, yp) W' (x0.to h) (x1.to h) (y0.to h) (y1.to h) _ _ _ _ rfl rfl rfl rfl
      rw [hcz] at this; exact this)
    have K8 := Lib.hid (show ∀ W', Bel w7 W' → Calls Try.prog 27 #[.agg #[.slice A0 xa.length f0, .slice A1 xp.length f1], .agg #[.slice B0 ya.length g0, .slice B1 yp.length g1]] W' fun e w' => e = .returned (.int .i64 cz) ∧ Bel W' w' from fun W' h => by
      have := refCompareLin_c _ _ _ _ _ _ _ _ _ _ _ _ (xa, xp) (ya, yp) W' (x0.to h) (x1.to h) (y0.to h) (y1.to h) _ _ _ _ rfl rfl rfl rfl
      rw [hcz] at this; exact this)
    have K9 := Lib.hid (show ∀ W', Bel w7 W' → Calls Try.prog 11 #[] W' fun e w' => e = .returned (.bool true) ∧ Bel W' w' from fun W' h => by
      have := wakes06 W'
      exact this)
    obtain ⟨Xc0, Xc1, _, _⟩ := X.cells
    obtain ⟨Yc0, Yc1, _, _⟩ := Y.cells
    obtain ⟨Oc0, Oc1, _, _⟩ := O.cells
    obtain ⟨Rc0, Rc1, _, _⟩ := R.cells
    obtain ⟨Vc0, Vc1, _, _⟩ := V.cells
    obtain ⟨Dc0, Dc1, _, _⟩ := D.cells
    have Xk0 := cellReg Xc0
    have Xk1 := cellReg Xc1
    have Yk0 := cellReg Yc0
    have Yk1 := cellReg Yc1
    have Ok0 := cellReg Oc0
    have Ok1 := cellReg Oc1
    have Rk0 := cellReg Rc0
    have Rk1 := cellReg Rc1
    have Vk0 := cellReg Vc0
    have Vk1 := cellReg Vc1
    have Dk0 := cellReg Dc0
    have Dk1 := cellReg Dc1
    clear Xc0 Xc1 Yc0 Yc1 Oc0 Oc1 Rc0 Rc1 Vc0 Vc1 Dc0 Dc1
    clear x0 x1 y0 y1 o0 o1 r0 r1 v0 v1 d0 d1 X Y O R V D hrx hpx hcz
    go_wp2_with fail
    refine wp_region_quiet_below (by kernel_rfl) (by kernel_rfl) ?_
    repeat (go_big_quiet_step (first | with_reducible exact callsReg K1.out | with_reducible exact callsReg K2.out | with_reducible exact callsReg K3.out | with_reducible exact callsReg K4.out | with_reducible exact callsReg K5.out | with_reducible exact callsReg K6.out | with_reducible exact callsReg K7.out | with_reducible exact callsReg K8.out | with_reducible exact callsReg K9.out))
    refine wpQuiet_nil ?_
    intro _ hw'
    obtain ⟨⟨dq, oq⟩, hw''⟩ := hw'
    subst hw''
    go_wp2_with fail
    go_ret
    exact ⟨rfl, hbb.trans (bel_regrown _ _ _)⟩
end Go.Proofs.Ytghdleofbkalbaa
namespace Go.Proofs.Ytghdleofbkalbaa.rowLinTells
open Go.ChangeShapes Go.WideShapes Go.ChangeAt Go.RowKit Go.Cb
open Go.ChangeMaps (open_string shut_string)
theorem own : ownKnob Try.prog.godebug = none := by kernel_rfl
theorem laidOut : laidOutB Try.prog = true := by kernel_rfl
set_option maxRecDepth 100000 in
theorem lifted (os : Os) (started : os.Started) (H : Type) (enc : TypeId × Value → H) :
    ReturnsInHanded {} Try.checked os 7 .any (Rows.linTellsSpec.pre6 enc Try.prog Try.f7 Rows.linTellsRow.domain false) (Rows.linTellsSpec.post enc Try.prog Try.f7 false true false false) := by
  refine returnsInHanded_of_change_sized (C := Try.checked) own started (by kernel_rfl) Try.func7
    (ChangeSpec.witness6 (enc := enc) (C := Try.checked) false ⟨#[], #[.agg #[.slice none 0 0, .slice none 0 0], .agg #[.slice none 0 0, .slice none 0 0]], []⟩ 8 (by kernel_rfl) (by kernel_rfl) (by kernel_rfl) (by kernel_rfl)) ?_
  intro W base args ds gs before hval0 hW hcnd hsz0 _
  have hsz : (DataW.weightsEach Try.prog (Try.f7.params.toList ++ Rows.linTellsSpec.plain.varTypes Try.prog) (ds ++ gs)).all (· ≤ reachBytes) = true := hsz0
  have hval : ∀ (j : Nat) t v, Try.f7.params[j]? = some t → args[j]? = some v → Value.okWide Try.prog W .any base t v := hval0
  have hW' := hW
  obtain ⟨p, q, hA0, hV, rfl, hfz, hnd⟩ := hW
  have hA : DataW.TrodAll enc Try.prog W 0 (fun _ => true) true Try.f7.params.toList args.toList ds p := hA0
  rw [Try.params7] at hA hval hsz
  obtain ⟨v0, vs0, d0, ds0, p0, q0, hargs, rfl, rfl, h0, r0⟩ := trodAll_cons hA
  obtain ⟨v1, vs1, d1, ds1, p1, q1, rfl, rfl, rfl, h1, r1⟩ := trodAll_cons r0
  obtain ⟨rfl, rfl, rfl⟩ := trodAll_nil r1
  obtain rfl : args = #[v0, v1] := by cases args; simp_all
  obtain ⟨rfl, rfl⟩ := trodVars_none hV
  obtain ⟨cs0, rfl, hsz0⟩ := okWide_struct Try.underlying47 (hval 0 47 v0 rfl rfl)
  have k0 := h0
  have lt0 : ∀ x ∈ p0, x.block < W.heap.size := by obtain ⟨m, hm⟩ := k0; exact DataW.trod_lt m _ _ _ hm
  obtain ⟨m0, hm0⟩ := h0
  obtain ⟨x0, R0, ok0⟩ := opensRaw6 _ _ _ _ _ _ _ _ _ hm0
  replace R0 : linT.rd W All x0 cs0.toList := R0
  obtain ⟨A00, c00, A10, c10, eq0, q00, q10⟩ := lin_rd R0
  obtain rfl : cs0 = #[.slice A00 x0.1.length c00, .slice A10 x0.2.length c10] := by cases cs0; simp_all
  obtain ⟨cs1, rfl, hsz1⟩ := okWide_struct Try.underlying47 (hval 1 47 v1 rfl rfl)
  have k1 := h1
  have lt1 : ∀ x ∈ p1, x.block < W.heap.size := by obtain ⟨m, hm⟩ := k1; exact DataW.trod_lt m _ _ _ hm
  obtain ⟨m1, hm1⟩ := h1
  obtain ⟨x1, R1, ok1⟩ := opensRaw6 _ _ _ _ _ _ _ _ _ hm1
  replace R1 : linT.rd W All x1 cs1.toList := R1
  obtain ⟨A01, c01, A11, c11, eq1, q01, q11⟩ := lin_rd R1
  obtain rfl : cs1 = #[.slice A01 x1.1.length c01, .slice A11 x1.2.length c11] := by cases cs1; simp_all
  clear hA0 hval0 hsz0 hsz
  refine (LinTells_walk W A00 c00 A10 c10 x0 q00 q10 ok0 A01 c01 A11 c11 x1 q01 q11 ok1).mono fun e W' ⟨he, bel⟩ => ?_
  subst he
  exact ⟨_, rfl, _, _, _, [], _, [], hW', trodAll_mk1 (shut_bool Try.underlying4 _), (trodAll_cons_mk (Below.trod laidOut (by kernel_rfl) (of_decide_eq_true (by kernel_rfl)) k0 bel.out lt0) (trodAll_cons_mk (Below.trod laidOut (by kernel_rfl) (of_decide_eq_true (by kernel_rfl)) k1 bel.out lt1) trodAll_mk0)), rfl, bel.out.frame _, fun h => by cases h⟩
theorem over : Rows.linTellsRow.holds Try.pinned (OpenSpec.ofChange Rows.linTellsSpec) :=
  OpenClaim.holds_of_wide 7 Try.f7 rfl rfl rfl rfl rfl rfl rfl ⟨rfl, rfl, rfl, rfl, rfl⟩ rfl rfl rfl rfl rfl (by kernel_rfl) Try.func7 (by kernel_rfl)
    (of_decide_eq_true (by kernel_rfl)) (by unfold Func.isWrapper; first | (rw [if_pos (by decide +kernel)]; kernel_rfl) | (rw [if_neg (by decide +kernel)]; exact ⟨rfl, rfl⟩))
    (fun os started H enc _ => lifted os started H enc)
end Go.Proofs.Ytghdleofbkalbaa.rowLinTells
namespace Go.Proofs.Ytghdleofbkalbaa
theorem LinTells_holds : Rows.LinTellsSaid := rowLinTells.over
#print axioms LinTells_holds
end Go.Proofs.Ytghdleofbkalbaa
