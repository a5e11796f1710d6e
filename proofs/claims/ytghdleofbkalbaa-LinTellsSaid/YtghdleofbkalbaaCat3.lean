/- Walks: the document's linear sets together, and their order. -/
import Derived.Test.YtghdleofbkalbaaLin4
import Derived.Test.YtghdleofbkalbaaPure12
namespace Go.Cb
theorem putF_at {ps acc : List (List Int)} {k : Nat} {p : List Int} (h : ps[k]? = some p) : (ps.drop k).foldl putB acc = (ps.drop (k + 1)).foldl putB (putB acc p) := by
  obtain ⟨hk, he⟩ := List.getElem?_eq_some_iff.1 h
  rw [List.drop_eq_getElem_cons hk, he]; rfl
end Go.Cb
namespace Go.Proofs.Ytghdleofbkalbaa
open Go.RowKit Go.Cb
set_option maxRecDepth 100000 in
set_option maxHeartbeats 8000000 in
theorem refCat_c (S0 S1 S2 S3 : Nat → Prop) (A0 A1 B0 B1 : Option Addr) (c0 c1 d0 d1 : Nat) (x y : Lin) (w : World) (h0 : Rd intT w S0 A0 c0 x.1) (h1 : Rd bagT w S1 A1 c1 x.2) (g0 : Rd intT w S2 B0 d0 y.1) (g1 : Rd bagT w S3 B1 d1 y.2)
    (n0 n1 m0 m1 : Nat) (hn0 : n0 = x.1.length) (hn1 : n1 = x.2.length) (hm0 : m0 = y.1.length) (hm1 : m1 = y.2.length) (hlen : x.2.length + y.2.length ≤ 999999) :
    Calls Try.prog 24 #[.agg #[.slice A0 n0 c0, .slice A1 n1 c1], .agg #[.slice B0 m0 d0, .slice B1 m1 d1]] w fun e w' => ∃ C0 e0 C1 e1, e = .returned (.tuple #[.agg #[.slice C0 (catL x y).1.1.length e0, .slice C1 (catL x y).1.2.length e1], .bool (catL x y).2]) ∧ Rd intT w' (Ge w.heap.size) C0 e0 (catL x y).1.1 ∧ Rd bagT w' (Ge w.heap.size) C1 e1 (catL x y).1.2 ∧ Bel w w' := by
  obtain ⟨a, ps⟩ := x
  obtain ⟨b, qs⟩ := y
  dsimp only at *
  subst hn0 hn1 hm0 hm1
  obtain ⟨hB1, X, Y, R⟩ := threeBoxes w 26 (.slice A0 a.length c0) (.slice A1 ps.length c1) (.slice B0 b.length d0) (.slice B1 qs.length d1) (.slice none 0 0) (.slice none 0 0)
  have p0 := (h0.to hB1).all
  have p1 := (h1.to hB1).all
  have q0 := (g0.to hB1).all
  have q1 := (g1.to hB1).all
  have l1 := p1.lenMax
  have l2 := q1.lenMax
  have Q1 := refRightLin_c _ _ _ _ _ _ _ _ _ p0 p1 _ _ rfl rfl
  clear h0 h1 g0 g1
  go_enter Try.func24, Try.ntmps24
  go_wp2_with fail
  generalize ((w.alloc (.cells #[.slice A0 a.length c0, .slice A1 ps.length c1] 26)).alloc (.cells #[.slice B0 b.length d0, .slice B1 qs.length d1] 26)).alloc (.cells #[.slice none 0 0, .slice none 0 0] 26) = W1 at *
  replace R : Box W1 26 (w.heap.size + 1 + 1) (.slice none 0 0) (.slice none 0 0) := R
  cases hA : rightL (a, ps) with
  | false =>
    have He := Lib.hid (catL_no1 (y := (b, qs)) hA)
    rw [hA] at Q1
    clear hA
    refine Q1.mono ?_
    rintro e w2 ⟨rfl, hb2⟩
    have R2 := R.to hb2
    obtain ⟨x0, x1, f0, f1⟩ := R2.cells
    obtain ⟨y0, y1, k0, k1⟩ := (R2.set0 (.slice none 0 0)).cells
    obtain ⟨z0, z1, m0, m1⟩ := ((R2.set0 (.slice none 0 0)).set1 (.slice none 0 0)).cells
    go_wp2_with fail
    (try simp only [Exit.inBlock, Exit.then])
    refine bodyPost_ret (v := .tuple #[.agg #[.slice none 0 0, .slice none 0 0], .bool false]) ?_ rfl ?_
    · rw [results_cell_tmp rfl]
      go_simp
    · rw [He.out]
      exact ⟨none, 0, none, 0, rfl, Rd.nil _ _ _ _ _ (by simp [maxLen]), Rd.nil _ _ _ _ _ (by simp [maxLen]), ((hB1.trans hb2).set (by simp only; omega) _).set (by simp only; omega) _⟩
  | true =>
    rw [hA] at Q1
    refine Q1.mono ?_
    rintro e w2 ⟨rfl, hb2⟩
    have Q2 := refRightLin_c _ _ _ _ _ _ _ _ _ (q0.to hb2) (q1.to hb2) _ _ rfl rfl
    obtain ⟨y0, y1, _, _⟩ := (Y.to hb2).cells
    cases hB : rightL (b, qs) with
    | false =>
      have He := Lib.hid (catL_no2 (x := (a, ps)) hB)
      rw [hB] at Q2
      clear hA hB
      go_wp2_with fail
      refine Q2.mono ?_
      rintro e w3 ⟨rfl, hb3⟩
      have hb23 := hb2.trans hb3
      clear y0 y1
      have R2 := R.to hb23
      obtain ⟨x0, x1, f0, f1⟩ := R2.cells
      obtain ⟨y0, y1, k0, k1⟩ := (R2.set0 (.slice none 0 0)).cells
      obtain ⟨z0, z1, m0, m1⟩ := ((R2.set0 (.slice none 0 0)).set1 (.slice none 0 0)).cells
      go_wp2_with fail
      (try simp only [Exit.inBlock, Exit.then])
      refine bodyPost_ret (v := .tuple #[.agg #[.slice none 0 0, .slice none 0 0], .bool false]) ?_ rfl ?_
      · rw [results_cell_tmp rfl]
        go_simp
      · rw [He.out]
        exact ⟨none, 0, none, 0, rfl, Rd.nil _ _ _ _ _ (by simp [maxLen]), Rd.nil _ _ _ _ _ (by simp [maxLen]), ((hB1.trans hb23).set (by simp only; omega) _).set (by simp only; omega) _⟩
    | true =>
      rw [hB] at Q2
      have HA := Lib.hid hA
      have HB := Lib.hid hB
      clear hA hB
      go_wp2_with fail
      refine Q2.mono ?_
      rintro e w3 ⟨rfl, hb3⟩
      have hb23 := hb2.trans hb3
      clear y0 y1
      obtain ⟨x0, x1, _, _⟩ := (X.to hb23).cells
      obtain ⟨y0, y1, _, _⟩ := (Y.to hb23).cells
      have Q3 := refAddBag_c _ _ _ _ _ _ _ _ _ (p0.to hb23) (q0.to hb23) _ _ rfl rfl
      cases hS : (addB a b).2 with
      | false =>
        have He := Lib.hid (catL_no3 (x := (a, ps)) (y := (b, qs)) hS)
        rw [hS] at Q3
        have HQ3 := Lib.hid Q3
        clear hS Q1 Q2 Q3
        go_wp2_with fail
        refine HQ3.out.mono ?_
        rintro e w4 ⟨v4, rfl, ho4, hb4⟩
        have hb24 := hb23.trans hb4
        obtain ⟨A4, c4, rfl⟩ := ho4.form
        clear x0 x1 y0 y1 ho4
        have R2 := R.to hb24
        obtain ⟨x0, x1, f0, f1⟩ := R2.cells
        obtain ⟨y0, y1, k0, k1⟩ := (R2.set0 (.slice none 0 0)).cells
        obtain ⟨z0, z1, m0, m1⟩ := ((R2.set0 (.slice none 0 0)).set1 (.slice none 0 0)).cells
        go_wp2_with fail
        (try simp only [Exit.inBlock, Exit.then])
        refine bodyPost_ret (v := .tuple #[.agg #[.slice none 0 0, .slice none 0 0], .bool false]) ?_ rfl ?_
        · rw [results_cell_tmp rfl]
          go_simp
        · rw [He.out]
          exact ⟨none, 0, none, 0, rfl, Rd.nil _ _ _ _ _ (by simp [maxLen]), Rd.nil _ _ _ _ _ (by simp [maxLen]), ((hB1.trans hb24).set (by simp only; omega) _).set (by simp only; omega) _⟩
      | true =>
        have hcl := catL_put HA.out HB.out hS
        have He := Lib.hid hcl
        have hR4 := addB_right hS
        rw [hS] at Q3
        obtain ⟨s, hs⟩ : ∃ s, (addB a b).1 = s := ⟨_, rfl⟩
        rw [hs] at Q3 hR4
        have ls := right_len hR4
        have HS := Lib.hid hs
        have hl3 : ∀ p ∈ ps ++ qs, p.length ≤ 1000000 := fun p hp => by
          have := right_len (lin_each HA.out HB.out p hp).2
          omega
        have HL3 := Lib.hid hl3
        have HQ3 := Lib.hid Q3
        clear hS hs Q1 Q2 Q3 hcl hl3 hR4
        go_wp2_with fail
        refine HQ3.out.mono ?_
        rintro e w4 ⟨v4, rfl, ho4, hb4⟩
        have hb24 := hb23.trans hb4
        obtain ⟨A4, c4, rfl, hr4⟩ := ho4.rdOne
        clear x0 x1 y0 y1 ho4
        have hal : Bel w4 (w4.alloc (.cells #[.slice A4 s.length c4, .slice none 0 0] 26)) := (Bel.refl _).alloc _
        have L0 := Box.new w4 26 (.slice A4 s.length c4) (.slice none 0 0)
        have hb25 := hb24.trans hal
        obtain ⟨x0, x1, _, _⟩ := (X.to hb25).cells
        have hr4' := hr4.to hal
        have hsw := hB1.size
        have h2w : w.heap.size + 1 + 1 < W1.heap.size := R.lt
        have h4s := hb24.size
        have h3s := hb23.size
        go_wp2_with fail
        generalize w4.alloc (.cells #[.slice A4 s.length c4, .slice none 0 0] 26) = W5 at *
        have hL5 := L0.lt
        replace hr4' : Rd intT W5 (fun k => w.heap.size + 1 + 1 < k ∧ k ≠ w4.heap.size) A4 c4 s := hr4'.mono (fun k hk => ⟨by omega, by omega⟩)
        obtain ⟨L, hLe⟩ : ∃ L, w4.heap.size = L := ⟨_, rfl⟩
        rw [hLe] at L0 hL5 hr4' hr4 h4s ⊢
        have hL2 : w.heap.size + 1 + 1 < L := by omega
        clear hLe hr4 x0 x1
        have hbB := hB1.trans hb25
        have HA5 := Lib.hid (show ∀ p ∈ ps, p.length ≤ 1000000 from fun p hp => HL3.out p (List.mem_append_left _ hp))
        have HB5 := Lib.hid (show ∀ p ∈ qs, p.length ≤ 1000000 from fun p hp => HL3.out p (List.mem_append_right _ hp))
        have hbW : Bel W1 W5 := hb25
        have hW1L : W1.heap.size ≤ L := by omega
        have lps : ps.length ≤ 999999 := by omega
        clear hb2 hb3 hb4 hb23 hb24 hal hb25 hsw h4s h3s hbB
        go_loopw [38] (fun v wr => ∃ (k : Nat) (W : World) (acc : List (List Int)) (AP : Option Addr) (cP : Nat), W = wr ∧ k ≤ ps.length ∧ v = .int .i64 k ∧ Hid ((ps ++ qs).foldl putB [] = (ps.drop k ++ qs).foldl putB acc) ∧ acc.length ≤ k ∧
            Box W 26 L (.slice A4 s.length c4) (.slice AP acc.length cP) ∧
            Rd intT W (fun k => w.heap.size + 1 + 1 < k ∧ k ≠ L) A4 c4 s ∧ Rd bagT W (fun k => w.heap.size + 1 + 1 < k ∧ k ≠ L) AP cP acc ∧ Bel W1 W) (fun v _ => ps.length - (intOf v).toNat)
        case atStart => exact ⟨0, _, [], none, 0, rfl, Nat.zero_le _, rfl, (by rfl : (ps ++ qs).foldl putB [] = (ps.drop 0 ++ qs).foldl putB []), Nat.zero_le _, L0, hr4', Rd.nil _ _ _ _ _ (by simp [maxLen]), hbW⟩
        case round =>
          clear L0 hr4' hbW hL5
          obtain ⟨k, W, acc, AP, cP, rfl, hk, rfl, HF, hacc, L1, hr2, hrP, hbW⟩ := hrel
          have hLW := L1.lt
          by_cases hlt : k < ps.length
          · obtain ⟨ad, P, cp, rfl, hpc, hpr⟩ := (p1.to hbW).row hlt
            have hl3 := HA5.out ps[k] (List.getElem_mem hlt)
            obtain ⟨p, hpe⟩ : ∃ p, ps[k] = p := ⟨_, rfl⟩
            have HF2 := Lib.hid (show (ps ++ qs).foldl putB [] = (ps.drop (k + 1) ++ qs).foldl putB (putB acc p) by rw [HF.out, List.drop_eq_getElem_cons hlt, hpe]; rfl)
            rw [hpe] at hpc hpr hl3
            clear hpe
            obtain ⟨x0, x1, f0, f1⟩ := L1.cells
            have CP := put_c _ _ _ _ _ _ acc p _ hrP hpr _ _ rfl rfl (by omega) hl3
            have HCP := Lib.hid CP
            clear CP
            go_wp2_with fail
            refine HCP.out.mono ?_
            rintro e w6 ⟨A6, c6, rfl, hr6, hb6⟩
            have L3 := L1.to hb6
            obtain ⟨y0, y1, k0, k1⟩ := L3.cells
            have lpl := putB_length acc p
            have hu := Upd.one w6 L 1 (.slice A6 (putB acc p).length c6)
            have hsz := hbW.size
            clear x0 x1 f0 f1
            go_wp2_with fail
            go_roundw
            case rel => exact ⟨k + 1, _, putB acc p, A6, c6, rfl, by omega, by go_num, HF2.out, by omega, L3.set1 _, (hr2.to hb6).upd hu (fun h => h.2 rfl), (hr6.mono (fun j hj => by omega)).upd hu (fun h => h.2 rfl), (hbW.trans hb6).upd hu hW1L⟩
            case measure => simp [intOf]; omega
          · obtain rfl : k = ps.length := by omega
            have HF3 := Lib.hid (show (ps ++ qs).foldl putB [] = qs.foldl putB acc by rw [HF.out, List.drop_eq_nil_of_le (Nat.le_refl _)]; rfl)
            obtain ⟨y0, y1, _, _⟩ := (Y.to hbW).cells
            clear HF hlt
            go_wp2_with fail
            clear y0 y1
            go_loopw [51] (fun v wr => ∃ (k : Nat) (W : World) (acc : List (List Int)) (AP : Option Addr) (cP : Nat), W = wr ∧ k ≤ qs.length ∧ v = .int .i64 k ∧ Hid ((ps ++ qs).foldl putB [] = (qs.drop k).foldl putB acc) ∧ acc.length ≤ ps.length + k ∧
                Box W 26 L (.slice A4 s.length c4) (.slice AP acc.length cP) ∧
                Rd intT W (fun k => w.heap.size + 1 + 1 < k ∧ k ≠ L) A4 c4 s ∧ Rd bagT W (fun k => w.heap.size + 1 + 1 < k ∧ k ≠ L) AP cP acc ∧ Bel W1 W) (fun v _ => qs.length - (intOf v).toNat)
            case atStart => exact ⟨0, _, acc, AP, cP, rfl, Nat.zero_le _, rfl, (HF3.out : (ps ++ qs).foldl putB [] = (qs.drop 0).foldl putB acc), by omega, L1, hr2, hrP, hbW⟩
            case round =>
              clear L1 hr2 hrP hbW HF3 hacc hLW
              obtain ⟨k, W, acc, AP, cP, rfl, hk, rfl, HF, hacc, L1, hr2, hrP, hbW⟩ := hrel
              have hLW := L1.lt
              by_cases hlt : k < qs.length
              · obtain ⟨ad, P, cp, rfl, hpc, hpr⟩ := (q1.to hbW).row hlt
                have hl3 := HB5.out qs[k] (List.getElem_mem hlt)
                obtain ⟨p, hpe⟩ : ∃ p, qs[k] = p := ⟨_, rfl⟩
                have HF2 := Lib.hid (show (ps ++ qs).foldl putB [] = (qs.drop (k + 1)).foldl putB (putB acc p) by rw [HF.out, List.drop_eq_getElem_cons hlt, hpe]; rfl)
                rw [hpe] at hpc hpr hl3
                clear hpe
                obtain ⟨x0, x1, f0, f1⟩ := L1.cells
                have CP := put_c _ _ _ _ _ _ acc p _ hrP hpr _ _ rfl rfl (by omega) hl3
                have HCP := Lib.hid CP
                clear CP
                go_wp2_with fail
                refine HCP.out.mono ?_
                rintro e w6 ⟨A6, c6, rfl, hr6, hb6⟩
                have L3 := L1.to hb6
                obtain ⟨y0, y1, k0, k1⟩ := L3.cells
                have lpl := putB_length acc p
                have hu := Upd.one w6 L 1 (.slice A6 (putB acc p).length c6)
                have hsz := hbW.size
                clear x0 x1 f0 f1
                go_wp2_with fail
                go_roundw
                case rel => exact ⟨k + 1, _, putB acc p, A6, c6, rfl, by omega, by go_num, HF2.out, by omega, L3.set1 _, (hr2.to hb6).upd hu (fun h => h.2 rfl), (hr6.mono (fun j hj => by omega)).upd hu (fun h => h.2 rfl), (hbW.trans hb6).upd hu hW1L⟩
                case measure => simp [intOf]; omega
              · obtain rfl : k = qs.length := by omega
                have HE := Lib.hid (show catL (a, ps) (b, qs) = ((s, acc), true) by rw [He.out, HS.out, HF.out, List.drop_eq_nil_of_le (by omega)]; rfl)
                obtain ⟨x0, x1, f0, f1⟩ := L1.cells
                have R6 := R.to hbW
                obtain ⟨y0, y1, k0, k1⟩ := R6.cells
                obtain ⟨z0, z1, m0, m1⟩ := (R6.set0 (.slice A4 s.length c4)).cells
                obtain ⟨u0, u1, n0, n1⟩ := ((R6.set0 (.slice A4 s.length c4)).set1 (.slice AP acc.length cP)).cells
                have hu := (Upd.one W (w.heap.size + 1 + 1) 0 (.slice A4 s.length c4)).set (p := ⟨w.heap.size + 1 + 1, 1, none⟩) rfl (.slice AP acc.length cP)
                clear HF hlt
                go_wp2_with fail
                (try simp only [Exit.inBlock, Exit.then])
                refine bodyPost_ret (v := .tuple #[.agg #[.slice A4 s.length c4, .slice AP acc.length cP], .bool true]) ?_ rfl ?_
                · rw [results_cell_tmp rfl]
                  go_simp
                · rw [HE.out]
                  exact ⟨_, _, _, _, rfl, (hr2.upd hu (fun h => by omega)).mono (fun _ h => by unfold Ge; omega), (hrP.upd hu (fun h => by omega)).mono (fun _ h => by unfold Ge; omega), (hB1.trans hbW).upd hu (by omega)⟩
set_option maxRecDepth 100000 in
set_option maxHeartbeats 8000000 in
theorem refCompareLin_c (S0 S1 S2 S3 : Nat → Prop) (A0 A1 B0 B1 : Option Addr) (c0 c1 d0 d1 : Nat) (x y : Lin) (w : World) (h0 : Rd intT w S0 A0 c0 x.1) (h1 : Rd bagT w S1 A1 c1 x.2) (g0 : Rd intT w S2 B0 d0 y.1) (g1 : Rd bagT w S3 B1 d1 y.2)
    (n0 n1 m0 m1 : Nat) (hn0 : n0 = x.1.length) (hn1 : n1 = x.2.length) (hm0 : m0 = y.1.length) (hm1 : m1 = y.2.length) :
    Calls Try.prog 27 #[.agg #[.slice A0 n0 c0, .slice A1 n1 c1], .agg #[.slice B0 m0 d0, .slice B1 m1 d1]] w fun e w' => e = .returned (.int .i64 (cmpLin x y)) ∧ Bel w w' := by
  obtain ⟨a, ps⟩ := x
  obtain ⟨b, qs⟩ := y
  dsimp only at *
  subst hn0 hn1 hm0 hm1
  obtain ⟨hB1, hX, hY, hsz⟩ := twoBoxes w #[.slice A0 a.length c0, .slice A1 ps.length c1] #[.slice B0 b.length d0, .slice B1 qs.length d1] 26
  have p0 := (h0.to hB1).all
  have p1 := (h1.to hB1).all
  have q0 := (g0.to hB1).all
  have q1 := (g1.to hB1).all
  have l1 := p1.lenMax
  have l2 := q1.lenMax
  have Q1 := refRightLin_c _ _ _ _ _ _ _ _ _ p0 p1 _ _ rfl rfl
  clear h0 h1 g0 g1
  go_enter Try.func27, Try.ntmps27
  go_wp2_with fail
  generalize (w.alloc (.cells #[.slice A0 a.length c0, .slice A1 ps.length c1] 26)).alloc (.cells #[.slice B0 b.length d0, .slice B1 qs.length d1] 26) = W1 at *
  generalize w.heap.size = g at *
  have x0 : W1.cell? ⟨g, 0, none⟩ = some (.slice A0 a.length c0) := hX 0
  have x1 : W1.cell? ⟨g, 1, none⟩ = some (.slice A1 ps.length c1) := hX 1
  have y0 : W1.cell? ⟨g + 1, 0, none⟩ = some (.slice B0 b.length d0) := hY 0
  have y1 : W1.cell? ⟨g + 1, 1, none⟩ = some (.slice B1 qs.length d1) := hY 1
  clear hX hY
  cases hA : rightL (a, ps) with
  | false =>
    have He := Lib.hid (cmpLin_no1 (y := (b, qs)) hA)
    rw [hA] at Q1
    clear hA
    refine Q1.mono ?_
    rintro e w2 ⟨rfl, hb2⟩
    go_wp2_with fail
    go_ret
    exact ⟨by rw [He.out]; rfl, hB1.trans hb2⟩
  | true =>
    rw [hA] at Q1
    refine Q1.mono ?_
    rintro e w2 ⟨rfl, hb2⟩
    have Q2 := refRightLin_c _ _ _ _ _ _ _ _ _ (q0.to hb2) (q1.to hb2) _ _ rfl rfl
    have y0' := cell_keep y0 (hb2.block (by simp only; omega))
    have y1' := cell_keep y1 (hb2.block (by simp only; omega))
    cases hB : rightL (b, qs) with
    | false =>
      have He := Lib.hid (cmpLin_no2 (x := (a, ps)) hB)
      rw [hB] at Q2
      clear hA hB x0 x1 y0 y1
      go_wp2_with fail
      refine Q2.mono ?_
      rintro e w3 ⟨rfl, hb3⟩
      go_wp2_with fail
      go_ret
      exact ⟨by rw [He.out]; rfl, (hB1.trans hb2).trans hb3⟩
    | true =>
      have He := Lib.hid (cmpLin_yes hA hB)
      rw [hB] at Q2
      have Hx0 := Lib.hid x0
      have Hx1 := Lib.hid x1
      have Hy0 := Lib.hid y0
      have Hy1 := Lib.hid y1
      clear hA hB x0 x1 y0 y1
      go_wp2_with fail
      refine Q2.mono ?_
      rintro e w3 ⟨rfl, hb3⟩
      have hb13 := hb2.trans hb3
      clear y0' y1'
      have x0 := cell_keep Hx0.out (hb13.block (by simp only; omega))
      have y0 := cell_keep Hy0.out (hb13.block (by simp only; omega))
      have Q3 := refCompare_c _ _ _ _ _ _ _ _ _ (p0.to hb13) (q0.to hb13) _ _ rfl rfl
      obtain ⟨z, hz⟩ : ∃ z, cmpB a b = z := ⟨_, rfl⟩
      rw [hz] at Q3
      have HZ := Lib.hid hz
      have HQ3 := Lib.hid Q3
      clear hz Q1 Q2 Q3
      go_wp2_with fail
      refine HQ3.out.mono ?_
      rintro e w4 ⟨rfl, hb4⟩
      have hb14 := hb13.trans hb4
      clear x0 y0 HQ3
      by_cases h0 : z = 0
      · subst h0
        have x1 := cell_keep Hx1.out (hb14.block (by simp only; omega))
        have y1 := cell_keep Hy1.out (hb14.block (by simp only; omega))
        by_cases hl : ps.length = qs.length
        · have hlc : ((ps.length : Int) != (qs.length : Int)) = false := by simp; omega
          have HL := Lib.hid hl
          clear hl
          go_wp2_with fail
          clear x1 y1
          go_loopw [41] (fun v wr => ∃ k : Nat, k ≤ ps.length ∧ v = .int .i64 k ∧ Hid (agreeTo cmpB ps qs k) ∧ Bel W1 wr) (fun v _ => ps.length - (intOf v).toNat)
          case atStart => exact ⟨0, Nat.zero_le _, rfl, agreeTo_zero _ _ _, hb14⟩
          case round =>
            obtain ⟨k, hk, rfl, hp, hbl⟩ := hrel
            by_cases hlt : k < ps.length
            · have hltb : k < qs.length := by rw [← HL.out]; exact hlt
              obtain ⟨ad, P, cp, rfl, hpc, hpr⟩ := (p1.to hbl).row hlt
              obtain ⟨bd, Q, cq, rfl, hqc, hqr⟩ := (q1.to hbl).row hltb
              have x1 := cell_keep Hx1.out (hbl.block (by simp only; omega))
              have y1 := cell_keep Hy1.out (hbl.block (by simp only; omega))
              obtain ⟨p, hpe⟩ : ∃ p, ps[k] = p := ⟨_, rfl⟩
              obtain ⟨q, hqe⟩ : ∃ q, qs[k] = q := ⟨_, rfl⟩
              have HPE := Lib.hid hpe
              have HQE := Lib.hid hqe
              rw [hpe] at hpc hpr
              rw [hqe] at hqc hqr
              clear hpe hqe
              have Q4 := fun n => refCompareQ_c _ _ _ _ _ _ _ _ _ (hpr.to ((Bel.refl _).drewN n)) (hqr.to ((Bel.refl _).drewN n)) _ _ rfl rfl
              have k1 : (k : Int) < (ps.length : Int) := by omega
              have k2 : (k : Int) < (qs.length : Int) := by omega
              obtain ⟨t, ht⟩ : ∃ t, cmpB p q = t := ⟨_, rfl⟩
              simp only [ht] at Q4
              by_cases h0 : t = 0
              · subst h0
                have Hs := Lib.hid (agreeTo_snoc hp.out hlt hltb (by rw [HPE.out, HQE.out]; exact ht))
                clear ht
                go_wp2
                go_quiet ((go_at_call 50; exact Calls.quiet_of (Q4 _)))
                go_wp2
                go_roundw
                case rel => exact ⟨k + 1, by omega, by go_num, Hs.out, hbl.drewN _⟩
                case measure => simp [intOf]; omega
              · have hz0 : (t != 0) = true := by simp [h0]
                have Hc := Lib.hid (show cmpLin (a, ps) (b, qs) = t by
                  rw [He.out]
                  rw [HZ.out, HL.out, cmpI_self, cmpBy_at hlt hltb hp.out (by rw [HPE.out, HQE.out, ht]; exact h0), HPE.out, HQE.out, ht]
                  simp [or3])
                clear ht h0
                go_wp2
                go_quiet ((go_at_call 50; exact Calls.quiet_of (Q4 _)))
                go_wp2
                go_ret
                exact ⟨by rw [Hc.out]; rfl, hB1.trans (hbl.drewN _)⟩
            · obtain rfl : k = ps.length := by omega
              have Hc := Lib.hid (show cmpLin (a, ps) (b, qs) = 0 by
                rw [He.out]
                rw [HZ.out, HL.out, cmpI_self, cmpBy_same HL.out hp.out]
                simp [or3])
              have x1 := cell_keep Hx1.out (hbl.block (by simp only; omega))
              go_wp2
              go_ret
              exact ⟨by rw [Hc.out]; rfl, hB1.trans hbl⟩
        · have hlc : ((ps.length : Int) != (qs.length : Int)) = true := by simp; omega
          by_cases hlt : ps.length < qs.length
          · have Hc := Lib.hid (show cmpLin (a, ps) (b, qs) = -1 by
              rw [He.out]
              rw [HZ.out, cmpI_lt (by omega)]
              simp [or3])
            have hd : decide ((ps.length : Int) < (qs.length : Int)) = true := decide_eq_true (by omega)
            clear hl
            go_wp2_with fail
            go_ret
            exact ⟨by rw [Hc.out]; rfl, hB1.trans hb14⟩
          · have Hc := Lib.hid (show cmpLin (a, ps) (b, qs) = 1 by
              rw [He.out]
              rw [HZ.out, cmpI_gt (by omega)]
              simp [or3])
            have hd : decide ((ps.length : Int) < (qs.length : Int)) = false := decide_eq_false (by omega)
            clear hl
            go_wp2_with fail
            go_ret
            exact ⟨by rw [Hc.out]; rfl, hB1.trans hb14⟩
      · have hz0 : (z != 0) = true := by simp [h0]
        have Hc := Lib.hid (show cmpLin (a, ps) (b, qs) = z by
          rw [He.out]
          rw [HZ.out]
          simp [or3, h0])
        clear h0
        go_wp2_with fail
        go_ret
        exact ⟨by rw [Hc.out]; rfl, hB1.trans hb14⟩
end Go.Proofs.Ytghdleofbkalbaa
