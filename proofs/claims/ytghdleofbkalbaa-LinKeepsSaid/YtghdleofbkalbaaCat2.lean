/- Walks: lin.Cat. -/
import Derived.Test.YtghdleofbkalbaaCat1
import Derived.Test.YtghdleofbkalbaaLin8
import Derived.Test.YtghdleofbkalbaaPure12
namespace Go.Cb
open Go.RowKit
/-- A linear set that was made: in blocks from b on, its words may be written to. -/
def LinRes (b : Nat) (w : World) (v : Value) (l : Lin) : Prop := ∃ A0 c0 A1 c1, v = .agg #[.slice A0 l.1.length c0, .slice A1 l.2.length c1] ∧ RdW w (Ge b) A0 c0 l.1 ∧ Rd wbT w (Ge b) A1 c1 l.2
theorem LinRes.to {b : Nat} {w w' : World} {v : Value} {l : Lin} (h : LinRes b w v l) (hb : Bel w w') : LinRes b w' v l := by
  obtain ⟨A0, c0, A1, c1, e, r0, r1⟩ := h
  exact ⟨A0, c0, A1, c1, e, r0.to hb, r1.to hb⟩
theorem LinRes.lower {b b' : Nat} {w : World} {v : Value} {l : Lin} (h : LinRes b w v l) (hb : b' ≤ b) : LinRes b' w v l := by
  obtain ⟨A0, c0, A1, c1, e, r0, r1⟩ := h
  exact ⟨A0, c0, A1, c1, e, r0.mono (fun k hk => by unfold Ge at *; omega), r1.mono (fun k hk => by unfold Ge at *; omega)⟩
theorem LinRes.none_ (b : Nat) (w : World) : LinRes b w (.agg #[.slice none 0 0, .slice none 0 0]) ([], []) :=
  ⟨none, 0, none, 0, rfl, RdW.nil _ _ _ _ (by decide), Rd.nil _ _ _ _ _ (by decide)⟩
theorem Rd.pair {α : Type} {d : Ty α} {W : World} {S : Nat → Prop} {A B : Option Addr} {ca cb : Nat} {xs ys : List α} (hx : Rd d W S A ca xs) (hy : Rd d W S B cb ys) (e : TypeId) :
    Rd (sl d) (W.alloc (.cells #[.slice A xs.length ca, .slice B ys.length cb] e)) All (some ⟨W.heap.size, 0, none⟩) 2 [xs, ys] := by
  have hb : Bel W (W.alloc (.cells #[.slice A xs.length ca, .slice B ys.length cb] e)) := (Bel.refl W).alloc _
  have hc := heap_alloc_new W (.cells #[.slice A xs.length ca, .slice B ys.length cb] e)
  refine ⟨by simp, by decide, fun j x hj => ?_⟩
  rcases j with _ | _ | j
  · obtain rfl : xs = x := by simpa using hj
    refine ⟨_, [.slice A xs.length ca], rfl, trivial, ⟨A, ca, rfl, (hx.to hb).all⟩, fun i u hu => ?_⟩
    rcases i with _ | i
    · rw [add_plain, cellAt hc]; exact hu
    · simp at hu
  · obtain rfl : ys = x := by simpa using hj
    refine ⟨_, [.slice B ys.length cb], rfl, trivial, ⟨B, cb, rfl, (hy.to hb).all⟩, fun i u hu => ?_⟩
    rcases i with _ | i
    · rw [add_plain, cellAt hc]; exact hu
    · simp at hu
  · simp at hj
end Go.Cb
namespace Go.Proofs.Ytghdleofbkalbaa
open Go.RowKit Go.Cb
set_option maxRecDepth 100000 in
set_option maxHeartbeats 8000000 in
theorem catW_c (S0 S1 S2 S3 : Nat → Prop) (A0 A1 B0 B1 : Option Addr) (c0 c1 d0 d1 : Nat) (x y : Lin) (w : World) (h0 : Rd intT w S0 A0 c0 x.1) (h1 : Rd bagT w S1 A1 c1 x.2) (g0 : Rd intT w S2 B0 d0 y.1) (g1 : Rd bagT w S3 B1 d1 y.2)
    (n0 n1 m0 m1 : Nat) (hn0 : n0 = x.1.length) (hn1 : n1 = x.2.length) (hm0 : m0 = y.1.length) (hm1 : m1 = y.2.length) (hlen : x.2.length + y.2.length ≤ 999999) :
    Calls Try.prog 17 #[.agg #[.slice A0 n0 c0, .slice A1 n1 c1], .agg #[.slice B0 m0 d0, .slice B1 m1 d1]] w fun e w' => ∃ v, e = .returned (.tuple #[v, .bool (catL x y).2]) ∧ LinRes w.heap.size w' v (catL x y).1 ∧ Bel w w' := by
  obtain ⟨a, ps⟩ := x
  obtain ⟨b, qs⟩ := y
  dsimp only at *
  subst hn0 hn1 hm0 hm1
  obtain ⟨hB1, X, Y, R⟩ := threeBoxes w 26 (.slice A0 a.length c0) (.slice A1 ps.length c1) (.slice B0 b.length d0) (.slice B1 qs.length d1) (.slice none 0 0) (.slice none 0 0)
  have p0 := (h0.to hB1).all
  have p1 := (h1.to hB1).all
  have q0 := (g0.to hB1).all
  have q1 := (g1.to hB1).all
  have l1 := p1.lenMax
  have l2 := q1.lenMax
  have Q1 := linRight_c _ _ _ _ _ _ _ _ _ p0 p1 _ _ rfl rfl
  clear h0 h1 g0 g1
  go_enter Try.func17, Try.ntmps17
  go_wp2_with fail
  generalize ((w.alloc (.cells #[.slice A0 a.length c0, .slice A1 ps.length c1] 26)).alloc (.cells #[.slice B0 b.length d0, .slice B1 qs.length d1] 26)).alloc (.cells #[.slice none 0 0, .slice none 0 0] 26) = W1 at *
  replace R : Box W1 26 (w.heap.size + 1 + 1) (.slice none 0 0) (.slice none 0 0) := R
  cases hA : rightL (a, ps) with
  | false =>
    have He := Lib.hid (catL_no1 (y := (b, qs)) hA)
    rw [hA] at Q1
    clear hA
    refine Q1.mono ?_
    rintro e w2 ⟨rfl, hb2⟩
    have R2 := R.to hb2
    obtain ⟨x0, x1, f0, f1⟩ := R2.cells
    obtain ⟨y0, y1, k0, k1⟩ := (R2.set0 (.slice none 0 0)).cells
    obtain ⟨z0, z1, m0, m1⟩ := ((R2.set0 (.slice none 0 0)).set1 (.slice none 0 0)).cells
    go_wp2_with fail
    (try simp only [Exit.inBlock, Exit.then])
    refine bodyPost_ret (v := .tuple #[.agg #[.slice none 0 0, .slice none 0 0], .bool false]) ?_ rfl ?_
    · rw [results_cell_tmp rfl]
      go_simp
    · rw [He.out]
      exact ⟨_, rfl, LinRes.none_ _ _, ((hB1.trans hb2).set (by simp only; omega) _).set (by simp only; omega) _⟩
  | true =>
    rw [hA] at Q1
    refine Q1.mono ?_
    rintro e w2 ⟨rfl, hb2⟩
    have Q2 := linRight_c _ _ _ _ _ _ _ _ _ (q0.to hb2) (q1.to hb2) _ _ rfl rfl
    obtain ⟨y0, y1, _, _⟩ := (Y.to hb2).cells
    cases hB : rightL (b, qs) with
    | false =>
      have He := Lib.hid (catL_no2 (x := (a, ps)) hB)
      rw [hB] at Q2
      clear hA hB
      go_wp2_with fail
      refine Q2.mono ?_
      rintro e w3 ⟨rfl, hb3⟩
      have hb23 := hb2.trans hb3
      clear y0 y1
      have R2 := R.to hb23
      obtain ⟨x0, x1, f0, f1⟩ := R2.cells
      obtain ⟨y0, y1, k0, k1⟩ := (R2.set0 (.slice none 0 0)).cells
      obtain ⟨z0, z1, m0, m1⟩ := ((R2.set0 (.slice none 0 0)).set1 (.slice none 0 0)).cells
      go_wp2_with fail
      (try simp only [Exit.inBlock, Exit.then])
      refine bodyPost_ret (v := .tuple #[.agg #[.slice none 0 0, .slice none 0 0], .bool false]) ?_ rfl ?_
      · rw [results_cell_tmp rfl]
        go_simp
      · rw [He.out]
        exact ⟨_, rfl, LinRes.none_ _ _, ((hB1.trans hb23).set (by simp only; omega) _).set (by simp only; omega) _⟩
    | true =>
      rw [hB] at Q2
      have HA := Lib.hid hA
      have HB := Lib.hid hB
      clear hA hB
      go_wp2_with fail
      refine Q2.mono ?_
      rintro e w3 ⟨rfl, hb3⟩
      have hb23 := hb2.trans hb3
      clear y0 y1
      obtain ⟨x0, x1, _, _⟩ := (X.to hb23).cells
      obtain ⟨y0, y1, _, _⟩ := (Y.to hb23).cells
      have Q3 := bagAdd_c _ _ _ _ _ _ _ _ (p0.to hb23) (q0.to hb23) _ _ rfl rfl
      cases hS : (addB a b).2 with
      | false =>
        have He := Lib.hid (catL_no3 (x := (a, ps)) (y := (b, qs)) hS)
        rw [hS] at Q3
        have HQ3 := Lib.hid Q3
        clear hS Q1 Q2 Q3
        go_wp2_with fail
        refine HQ3.out.mono ?_
        rintro e w4 ⟨v4, rfl, ho4, hb4⟩
        have hb24 := hb23.trans hb4
        obtain ⟨A4, c4, rfl⟩ := ho4.form
        clear x0 x1 y0 y1 ho4
        have R2 := R.to hb24
        obtain ⟨x0, x1, f0, f1⟩ := R2.cells
        obtain ⟨y0, y1, k0, k1⟩ := (R2.set0 (.slice none 0 0)).cells
        obtain ⟨z0, z1, m0, m1⟩ := ((R2.set0 (.slice none 0 0)).set1 (.slice none 0 0)).cells
        go_wp2_with fail
        (try simp only [Exit.inBlock, Exit.then])
        refine bodyPost_ret (v := .tuple #[.agg #[.slice none 0 0, .slice none 0 0], .bool false]) ?_ rfl ?_
        · rw [results_cell_tmp rfl]
          go_simp
        · rw [He.out]
          exact ⟨_, rfl, LinRes.none_ _ _, ((hB1.trans hb24).set (by simp only; omega) _).set (by simp only; omega) _⟩
      | true =>
        have hcl := catL_of HA.out HB.out hS
        have He := Lib.hid hcl
        have hR4 := addB_right hS
        rw [hS] at Q3
        obtain ⟨s, hs⟩ : ∃ s, (addB a b).1 = s := ⟨_, rfl⟩
        dsimp only at hcl
        rw [hs] at Q3 hR4
        have hlc := catL_len (a, ps) (b, qs)
        have ls := right_len hR4
        have HS := Lib.hid hs
        have hl3 : ∀ p ∈ ps ++ qs, p.length ≤ 1000000 := fun p hp => by
          have := right_len (lin_each HA.out HB.out p hp).2
          omega
        have HL3 := Lib.hid hl3
        have HQ3 := Lib.hid Q3
        clear hS hs Q1 Q2 Q3 hcl hl3 hR4
        go_wp2_with fail
        refine HQ3.out.mono ?_
        rintro e w4 ⟨v4, rfl, ho4, hb4⟩
        have hb24 := hb23.trans hb4
        obtain ⟨A4, c4, rfl, hr4⟩ := ho4.rdOne
        clear x0 x1 y0 y1 ho4
        obtain ⟨x0, x1, _, _⟩ := (X.to hb24).cells
        obtain ⟨y0, y1, _, _⟩ := (Y.to hb24).cells
        have hP := (p1.to hb24).pair (q1.to hb24) 24
        have hal : Bel w4 (w4.alloc (.cells #[.slice A1 ps.length c1, .slice B1 qs.length d1] 24)) := (Bel.refl _).alloc _
        have hfl : ([ps, qs] : List (List (List Int))).flatten = ps ++ qs := by simp
        have HFL := Lib.hid hfl
        have HC := Lib.hid (concatBags_c bagT rfl _ _ _ _ _ hP 2 rfl (by rw [hfl, List.length_append]; omega))
        clear hfl
        go_wp2_with fail
        refine HC.out.mono ?_
        rw [HFL.out]
        rintro e w5 ⟨v5, rfl, ho5, hb5⟩
        have hb25 := (hb24.trans hal).trans hb5
        obtain ⟨A5, c5, he5, hr5⟩ := ho5.rdAll
        rw [List.length_append] at he5
        subst he5
        have hr4' := (hr4.to hal).to hb5
        clear ho5 x0 x1 y0 y1 HC hP
        have HO := Lib.hid (ofW_c _ _ _ _ _ _ _ _ _ hr4' hr5 _ (ps.length + qs.length) rfl (by rw [List.length_append]) (by omega) (by rw [List.length_append]; omega) HL3.out)
        go_wp2_with fail
        refine HO.out.mono ?_
        rintro e w6 ⟨A6, c6, A7, c7, rfl, r6, r7, hb6⟩
        have hcx : ofLin s (ps ++ qs) = catL (a, ps) (b, qs) := by rw [He.out, HS.out]
        obtain ⟨xa, xb, ok, hcy⟩ : ∃ xa xb ok, catL (a, ps) (b, qs) = ((xa, xb), ok) := ⟨_, _, _, rfl⟩
        rw [hcx, hcy] at r6 r7 ⊢
        have HR6 := Lib.hid r6
        have HR7 := Lib.hid r7
        have HCY := Lib.hid hcy
        clear hcy
        dsimp only at HR6 HR7 ⊢
        have hb26 := hb25.trans hb6
        have R6 := R.to hb26
        have hsw := hB1.size
        have hs6 := hb25.size
        have h2w : w.heap.size + 1 + 1 < W1.heap.size := R.lt
        clear r6 r7 HO He HFL HS hcx
        obtain ⟨x0, x1, f0, f1⟩ := R6.cells
        obtain ⟨y0, y1, k0, k1⟩ := (R6.set0 (.slice A6 xa.length c6)).cells
        obtain ⟨z0, z1, m0, m1⟩ := ((R6.set0 (.slice A6 xa.length c6)).set1 (.slice A7 xb.length c7)).cells
        have hu := (Upd.one w6 (w.heap.size + 1 + 1) 0 (.slice A6 xa.length c6)).set (p := ⟨w.heap.size + 1 + 1, 1, none⟩) rfl (.slice A7 xb.length c7)
        go_wp2_with fail
        (try simp only [Exit.inBlock, Exit.then])
        refine bodyPost_ret (v := .tuple #[.agg #[.slice A6 xa.length c6, .slice A7 xb.length c7], .bool ok]) ?_ rfl ?_
        · rw [results_cell_tmp rfl]
          go_simp
        · rw [HCY.out]
          exact ⟨_, rfl, ⟨A6, c6, A7, c7, rfl, (HR6.out.upd hu (fun h => by unfold Ge at h; omega)).mono (fun k hk => by unfold Ge at *; omega), (HR7.out.upd hu (fun h => by unfold Ge at h; omega)).mono (fun k hk => by unfold Ge at *; omega)⟩, (hB1.trans hb26).upd hu (by omega)⟩
end Go.Proofs.Ytghdleofbkalbaa
