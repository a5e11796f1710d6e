/- Walks: the document's linear sets together, and their order. -/
import Derived.Test.YtmdcgekiiopohaaGreatMC
import Derived.Test.YtmdcgekiiopohaaGreatMA
import Derived.Test.YtmdcgekiiopohaaGreatMD
set_option linter.unusedVariables false
set_option linter.unusedSimpArgs false
set_option linter.all false
namespace Go.Cb
theorem putF_at {ps acc : List (List Int)} {k : Nat} {p : List Int} (h : ps[k]? = some p) : (ps.drop k).foldl putB acc = (ps.drop (k + 1)).foldl putB (putB acc p) := by
  obtain ⟨hk, he⟩ := List.getElem?_eq_some_iff.1 h
  rw [List.drop_eq_getElem_cons hk, he]; rfl
end Go.Cb
namespace Go.Proofs.YtmdcgekiiopohaaGreat
open Go.RowKit Go.Cb
set_option maxRecDepth 100000 in
set_option maxHeartbeats 8000000 in
theorem refCat_c (S0 S1 S2 S3 : Nat → Prop) (A0 A1 B0 B1 : Option Addr) (c0 c1 d0 d1 : Nat) (x y : Lin) (w : World) (h0 : Rd intT w S0 A0 c0 x.1) (h1 : Rd bagT w S1 A1 c1 x.2) (g0 : Rd intT w S2 B0 d0 y.1) (g1 : Rd bagT w S3 B1 d1 y.2)
    (n0 n1 m0 m1 : Nat) (hn0 : n0 = x.1.length) (hn1 : n1 = x.2.length) (hm0 : m0 = y.1.length) (hm1 : m1 = y.2.length) (hlen : x.2.length + y.2.length ≤ 4294967295) :
    Calls Tryz.prog 69 #[.agg #[.slice A0 n0 c0, .slice A1 n1 c1], .agg #[.slice B0 m0 d0, .slice B1 m1 d1]] w fun e w' => ∃ C0 e0 C1 e1, e = .returned (.tuple #[.agg #[.slice C0 (catL x y).1.1.length e0, .slice C1 (catL x y).1.2.length e1], .bool (catL x y).2]) ∧ Rd intT w' (Ge w.heap.size) C0 e0 (catL x y).1.1 ∧ Rd bagT w' (Ge w.heap.size) C1 e1 (catL x y).1.2 ∧ Bel w w' := by
  obtain ⟨a, ps⟩ := x
  obtain ⟨b, qs⟩ := y
  dsimp only at *
  subst hn0 hn1 hm0 hm1
  obtain ⟨hB1, X, Y, R⟩ := threeBoxes w 30 (.slice A0 a.length c0) (.slice A1 ps.length c1) (.slice B0 b.length d0) (.slice B1 qs.length d1) (.slice none 0 0) (.slice none 0 0)
  have p0 := (h0.to hB1).all
  have p1 := (h1.to hB1).all
  have q0 := (g0.to hB1).all
  have q1 := (g1.to hB1).all
  have l1 := p1.lenMax
  have l2 := q1.lenMax
  have Q1 := refRightLin_c _ _ _ _ _ _ _ _ _ p0 p1 _ _ rfl rfl
  clear h0 h1 g0 g1
  go_enter Tryz.func69, Tryz.ntmps69
  go_wp2_with fail
  generalize ((w.alloc (.cells #[.slice A0 a.length c0, .slice A1 ps.length c1] 30)).alloc (.cells #[.slice B0 b.length d0, .slice B1 qs.length d1] 30)).alloc (.cells #[.slice none 0 0, .slice none 0 0] 30) = W1 at *
  replace R : Box W1 30 (w.heap.size + 1 + 1) (.slice none 0 0) (.slice none 0 0) := R
  cases hA : rightL (a, ps) with
  | false =>
    have He := Lib.hid (catL_no1 (y := (b, qs)) hA)
    rw [hA] at Q1
    clear hA
    refine Q1.mono ?_
    rintro e w2 ⟨rfl, hb2⟩
    have R2 := R.to hb2
    obtain ⟨x0, x1, f0, f1⟩ := R2.cells
    obtain ⟨y0, y1, k0, k1⟩ := (R2.set0 (.slice none 0 0)).cells
    obtain ⟨z0, z1, m0, m1⟩ := ((R2.set0 (.slice none 0 0)).set1 (.slice none 0 0)).cells
    go_wp2_with fail
    (try simp only [Exit.inBlock, Exit.then])
    refine bodyPost_ret (v := .tuple #[.agg #[.slice none 0 0, .slice none 0 0], .bool false]) ?_ rfl ?_
    · rw [results_cell_tmp rfl]
      go_simp
    · rw [He.out]
      exact ⟨none, 0, none, 0, rfl, Rd.nil _ _ _ _ _ (by simp [maxLen]), Rd.nil _ _ _ _ _ (by simp [maxLen]), ((hB1.trans hb2).set (by simp only; omega) _).set (by simp only; omega) _⟩
  | true =>
    rw [hA] at Q1
    refine Q1.mono ?_
    rintro e w2 ⟨rfl, hb2⟩
    have Q2 := refRightLin_c _ _ _ _ _ _ _ _ _ (q0.to hb2) (q1.to hb2) _ _ rfl rfl
    obtain ⟨y0, y1, _, _⟩ := (Y.to hb2).cells
    cases hB : rightL (b, qs) with
    | false =>
      have He := Lib.hid (catL_no2 (x := (a, ps)) hB)
      rw [hB] at Q2
      clear hA hB
      go_wp2_with fail
      refine Q2.mono ?_
      rintro e w3 ⟨rfl, hb3⟩
      have hb23 := hb2.trans hb3
      clear y0 y1
      have R2 := R.to hb23
      obtain ⟨x0, x1, f0, f1⟩ := R2.cells
      obtain ⟨y0, y1, k0, k1⟩ := (R2.set0 (.slice none 0 0)).cells
      obtain ⟨z0, z1, m0, m1⟩ := ((R2.set0 (.slice none 0 0)).set1 (.slice none 0 0)).cells
      go_wp2_with fail
      (try simp only [Exit.inBlock, Exit.then])
      refine bodyPost_ret (v := .tuple #[.agg #[.slice none 0 0, .slice none 0 0], .bool false]) ?_ rfl ?_
      · rw [results_cell_tmp rfl]
        go_simp
      · rw [He.out]
        exact ⟨none, 0, none, 0, rfl, Rd.nil _ _ _ _ _ (by simp [maxLen]), Rd.nil _ _ _ _ _ (by simp [maxLen]), ((hB1.trans hb23).set (by simp only; omega) _).set (by simp only; omega) _⟩
    | true =>
      rw [hB] at Q2
      have HA := Lib.hid hA
      have HB := Lib.hid hB
      clear hA hB
      go_wp2_with fail
      refine Q2.mono ?_
      rintro e w3 ⟨rfl, hb3⟩
      have hb23 := hb2.trans hb3
      clear y0 y1
      obtain ⟨x0, x1, _, _⟩ := (X.to hb23).cells
      obtain ⟨y0, y1, _, _⟩ := (Y.to hb23).cells
      have Q3 := refAddBag_c _ _ _ _ _ _ _ _ _ (p0.to hb23) (q0.to hb23) _ _ rfl rfl
      cases hS : (addB a b).2 with
      | false =>
        have He := Lib.hid (catL_no3 (x := (a, ps)) (y := (b, qs)) hS)
        rw [hS] at Q3
        have HQ3 := Lib.hid Q3
        clear hS Q1 Q2 Q3
        go_wp2_with fail
        refine HQ3.out.mono ?_
        rintro e w4 ⟨v4, rfl, ho4, hb4⟩
        have hb24 := hb23.trans hb4
        obtain ⟨A4, c4, rfl⟩ := ho4.form
        clear x0 x1 y0 y1 ho4
        have R2 := R.to hb24
        obtain ⟨x0, x1, f0, f1⟩ := R2.cells
        obtain ⟨y0, y1, k0, k1⟩ := (R2.set0 (.slice none 0 0)).cells
        obtain ⟨z0, z1, m0, m1⟩ := ((R2.set0 (.slice none 0 0)).set1 (.slice none 0 0)).cells
        go_wp2_with fail
        (try simp only [Exit.inBlock, Exit.then])
        refine bodyPost_ret (v := .tuple #[.agg #[.slice none 0 0, .slice none 0 0], .bool false]) ?_ rfl ?_
        · rw [results_cell_tmp rfl]
          go_simp
        · rw [He.out]
          exact ⟨none, 0, none, 0, rfl, Rd.nil _ _ _ _ _ (by simp [maxLen]), Rd.nil _ _ _ _ _ (by simp [maxLen]), ((hB1.trans hb24).set (by simp only; omega) _).set (by simp only; omega) _⟩
      | true =>
        have hcl := catL_put HA.out HB.out hS
        have He := Lib.hid hcl
        have hR4 := addB_right hS
        rw [hS] at Q3
        obtain ⟨s, hs⟩ : ∃ s, (addB a b).1 = s := ⟨_, rfl⟩
        rw [hs] at Q3 hR4
        have ls := right_len hR4
        have HS := Lib.hid hs
        have hl3 : ∀ p ∈ ps ++ qs, p.length ≤ 4294967296 := fun p hp => by
          have := right_len (lin_each HA.out HB.out p hp).2
          omega
        have HL3 := Lib.hid hl3
        have HQ3 := Lib.hid Q3
        clear hS hs Q1 Q2 Q3 hcl hl3 hR4
        go_wp2_with fail
        refine HQ3.out.mono ?_
        rintro e w4 ⟨v4, rfl, ho4, hb4⟩
        have hb24 := hb23.trans hb4
        obtain ⟨A4, c4, rfl, hr4⟩ := ho4.rdOne
        clear x0 x1 y0 y1 ho4
        have hal : Bel w4 (w4.alloc (.cells #[.slice A4 s.length c4, .slice none 0 0] 30)) := (Bel.refl _).alloc _
        have L0 := Box.new w4 30 (.slice A4 s.length c4) (.slice none 0 0)
        have hb25 := hb24.trans hal
        obtain ⟨x0, x1, _, _⟩ := (X.to hb25).cells
        have hr4' := hr4.to hal
        have hsw := hB1.size
        have h2w : w.heap.size + 1 + 1 < W1.heap.size := R.lt
        have h4s := hb24.size
        have h3s := hb23.size
        go_wp2_with fail
        generalize w4.alloc (.cells #[.slice A4 s.length c4, .slice none 0 0] 30) = W5 at *
        have hL5 := L0.lt
        replace hr4' : Rd intT W5 (fun k => w.heap.size + 1 + 1 < k ∧ k ≠ w4.heap.size) A4 c4 s := hr4'.mono (fun k hk => ⟨by omega, by omega⟩)
        obtain ⟨L, hLe⟩ : ∃ L, w4.heap.size = L := ⟨_, rfl⟩
        rw [hLe] at L0 hL5 hr4' hr4 h4s ⊢
        have hL2 : w.heap.size + 1 + 1 < L := by omega
        clear hLe hr4 x0 x1
        have hbB := hB1.trans hb25
        have HA5 := Lib.hid (show ∀ p ∈ ps, p.length ≤ 4294967296 from fun p hp => HL3.out p (List.mem_append_left _ hp))
        have HB5 := Lib.hid (show ∀ p ∈ qs, p.length ≤ 4294967296 from fun p hp => HL3.out p (List.mem_append_right _ hp))
        have hbW : Bel W1 W5 := hb25
        have hW1L : W1.heap.size ≤ L := by omega
        have lps : ps.length ≤ 4294967295 := by omega
        clear hb2 hb3 hb4 hb23 hb24 hal hb25 hsw h4s h3s hbB
        go_loopw [38] (fun v wr => ∃ (k : Nat) (W : World) (acc : List (List Int)) (AP : Option Addr) (cP : Nat), W = wr ∧ k ≤ ps.length ∧ v = .int .i64 k ∧ Hid ((ps ++ qs).foldl putB [] = (ps.drop k ++ qs).foldl putB acc) ∧ acc.length ≤ k ∧
            Box W 30 L (.slice A4 s.length c4) (.slice AP acc.length cP) ∧
            Rd intT W (fun k => w.heap.size + 1 + 1 < k ∧ k ≠ L) A4 c4 s ∧ Rd bagT W (fun k => w.heap.size + 1 + 1 < k ∧ k ≠ L) AP cP acc ∧ Bel W1 W) (fun v _ => ps.length - (intOf v).toNat)
        case atStart => exact ⟨0, _, [], none, 0, rfl, Nat.zero_le _, rfl, (by rfl : (ps ++ qs).foldl putB [] = (ps.drop 0 ++ qs).foldl putB []), Nat.zero_le _, L0, hr4', Rd.nil _ _ _ _ _ (by simp [maxLen]), hbW⟩
        case round =>
          clear L0 hr4' hbW hL5
          obtain ⟨k, W, acc, AP, cP, rfl, hk, rfl, HF, hacc, L1, hr2, hrP, hbW⟩ := hrel
          have hLW := L1.lt
          by_cases hlt : k < ps.length
          · obtain ⟨ad, P, cp, rfl, hpc, hpr⟩ := (p1.to hbW).row hlt
            have hl3 := HA5.out ps[k] (List.getElem_mem hlt)
            obtain ⟨p, hpe⟩ : ∃ p, ps[k] = p := ⟨_, rfl⟩
            have HF2 := Lib.hid (show (ps ++ qs).foldl putB [] = (ps.drop (k + 1) ++ qs).foldl putB (putB acc p) by rw [HF.out, List.drop_eq_getElem_cons hlt, hpe]; rfl)
            rw [hpe] at hpc hpr hl3
            clear hpe
            obtain ⟨x0, x1, f0, f1⟩ := L1.cells
            have CP := put_c _ _ _ _ _ _ acc p _ hrP hpr _ _ rfl rfl (by omega) hl3
            have HCP := Lib.hid CP
            clear CP
            go_wp2_with fail
            refine HCP.out.mono ?_
            rintro e w6 ⟨A6, c6, rfl, hr6, hb6⟩
            have L3 := L1.to hb6
            obtain ⟨y0, y1, k0, k1⟩ := L3.cells
            have lpl := putB_length acc p
            have hu := Upd.one w6 L 1 (.slice A6 (putB acc p).length c6)
            have hsz := hbW.size
            clear x0 x1 f0 f1
            go_wp2_with fail
            go_roundw
            case rel => exact ⟨k + 1, _, putB acc p, A6, c6, rfl, by omega, by go_num, HF2.out, by omega, L3.set1 _, (hr2.to hb6).upd hu (fun h => h.2 rfl), (hr6.mono (fun j hj => by omega)).upd hu (fun h => h.2 rfl), (hbW.trans hb6).upd hu hW1L⟩
            case measure => simp [intOf]; omega
          · obtain rfl : k = ps.length := by omega
            have HF3 := Lib.hid (show (ps ++ qs).foldl putB [] = qs.foldl putB acc by rw [HF.out, List.drop_eq_nil_of_le (Nat.le_refl _)]; rfl)
            obtain ⟨y0, y1, _, _⟩ := (Y.to hbW).cells
            clear HF hlt
            go_wp2_with fail
            clear y0 y1
            go_loopw [51] (fun v wr => ∃ (k : Nat) (W : World) (acc : List (List Int)) (AP : Option Addr) (cP : Nat), W = wr ∧ k ≤ qs.length ∧ v = .int .i64 k ∧ Hid ((ps ++ qs).foldl putB [] = (qs.drop k).foldl putB acc) ∧ acc.length ≤ ps.length + k ∧
                Box W 30 L (.slice A4 s.length c4) (.slice AP acc.length cP) ∧
                Rd intT W (fun k => w.heap.size + 1 + 1 < k ∧ k ≠ L) A4 c4 s ∧ Rd bagT W (fun k => w.heap.size + 1 + 1 < k ∧ k ≠ L) AP cP acc ∧ Bel W1 W) (fun v _ => qs.length - (intOf v).toNat)
            case atStart => exact ⟨0, _, acc, AP, cP, rfl, Nat.zero_le _, rfl, (HF3.out : (ps ++ qs).foldl putB [] = (qs.drop 0).foldl putB acc), by omega, L1, hr2, hrP, hbW⟩
            case round =>
              clear L1 hr2 hrP hbW HF3 hacc hLW
              obtain ⟨k, W, acc, AP, cP, rfl, hk, rfl, HF, hacc, L1, hr2, hrP, hbW⟩ := hrel
              have hLW := L1.lt
              by_cases hlt : k < qs.length
              · obtain ⟨ad, P, cp, rfl, hpc, hpr⟩ := (q1.to hbW).row hlt
                have hl3 := HB5.out qs[k] (List.getElem_mem hlt)
                obtain ⟨p, hpe⟩ : ∃ p, qs[k] = p := ⟨_, rfl⟩
                have HF2 := Lib.hid (show (ps ++ qs).foldl putB [] = (qs.drop (k + 1)).foldl putB (putB acc p) by rw [HF.out, List.drop_eq_getElem_cons hlt, hpe]; rfl)
                rw [hpe] at hpc hpr hl3
                clear hpe
                obtain ⟨x0, x1, f0, f1⟩ := L1.cells
                have CP := put_c _ _ _ _ _ _ acc p _ hrP hpr _ _ rfl rfl (by omega) hl3
                have HCP := Lib.hid CP
                clear CP
                go_wp2_with fail
                refine HCP.out.mono ?_
                rintro e w6 ⟨A6, c6, rfl, hr6, hb6⟩
                have L3 := L1.to hb6
                obtain ⟨y0, y1, k0, k1⟩ := L3.cells
                have lpl := putB_length acc p
                have hu := Upd.one w6 L 1 (.slice A6 (putB acc p).length c6)
                have hsz := hbW.size
                clear x0 x1 f0 f1
                go_wp2_with fail
                go_roundw
                case rel => exact ⟨k + 1, _, putB acc p, A6, c6, rfl, by omega, by go_num, HF2.out, by omega, L3.set1 _, (hr2.to hb6).upd hu (fun h => h.2 rfl), (hr6.mono (fun j hj => by omega)).upd hu (fun h => h.2 rfl), (hbW.trans hb6).upd hu hW1L⟩
                case measure => simp [intOf]; omega
              · obtain rfl : k = qs.length := by omega
                have HE := Lib.hid (show catL (a, ps) (b, qs) = ((s, acc), true) by rw [He.out, HS.out, HF.out, List.drop_eq_nil_of_le (by omega)]; rfl)
                obtain ⟨x0, x1, f0, f1⟩ := L1.cells
                have R6 := R.to hbW
                obtain ⟨y0, y1, k0, k1⟩ := R6.cells
                obtain ⟨z0, z1, m0, m1⟩ := (R6.set0 (.slice A4 s.length c4)).cells
                obtain ⟨u0, u1, n0, n1⟩ := ((R6.set0 (.slice A4 s.length c4)).set1 (.slice AP acc.length cP)).cells
                have hu := (Upd.one W (w.heap.size + 1 + 1) 0 (.slice A4 s.length c4)).set (p := ⟨w.heap.size + 1 + 1, 1, none⟩) rfl (.slice AP acc.length cP)
                clear HF hlt
                go_wp2_with fail
                (try simp only [Exit.inBlock, Exit.then])
                refine bodyPost_ret (v := .tuple #[.agg #[.slice A4 s.length c4, .slice AP acc.length cP], .bool true]) ?_ rfl ?_
                · rw [results_cell_tmp rfl]
                  go_simp
                · rw [HE.out]
                  exact ⟨_, _, _, _, rfl, (hr2.upd hu (fun h => by omega)).mono (fun _ h => by unfold Ge; omega), (hrP.upd hu (fun h => by omega)).mono (fun _ h => by unfold Ge; omega), (hB1.trans hbW).upd hu (by omega)⟩
set_option maxRecDepth 100000 in
set_option maxHeartbeats 8000000 in
theorem refCompareLin_c (S0 S1 S2 S3 : Nat → Prop) (A0 A1 B0 B1 : Option Addr) (c0 c1 d0 d1 : Nat) (x y : Lin) (w : World) (h0 : Rd intT w S0 A0 c0 x.1) (h1 : Rd bagT w S1 A1 c1 x.2) (g0 : Rd intT w S2 B0 d0 y.1) (g1 : Rd bagT w S3 B1 d1 y.2)
    (n0 n1 m0 m1 : Nat) (hn0 : n0 = x.1.length) (hn1 : n1 = x.2.length) (hm0 : m0 = y.1.length) (hm1 : m1 = y.2.length) :
    Calls Tryz.prog 87 #[.agg #[.slice A0 n0 c0, .slice A1 n1 c1], .agg #[.slice B0 m0 d0, .slice B1 m1 d1]] w fun e w' => e = .returned (.int .i64 (cmpLin x y)) ∧ Bel w w' := by
  obtain ⟨a, ps⟩ := x
  obtain ⟨b, qs⟩ := y
  dsimp only at *
  subst hn0 hn1 hm0 hm1
  obtain ⟨hB1, hX, hY, hsz⟩ := twoBoxes w #[.slice A0 a.length c0, .slice A1 ps.length c1] #[.slice B0 b.length d0, .slice B1 qs.length d1] 30
  have p0 := (h0.to hB1).all
  have p1 := (h1.to hB1).all
  have q0 := (g0.to hB1).all
  have q1 := (g1.to hB1).all
  have l1 := p1.lenMax
  have l2 := q1.lenMax
  have Q1 := refRightLin_c _ _ _ _ _ _ _ _ _ p0 p1 _ _ rfl rfl
  clear h0 h1 g0 g1
  go_enter Tryz.func87, Tryz.ntmps87
  go_wp2_with fail
  generalize (w.alloc (.cells #[.slice A0 a.length c0, .slice A1 ps.length c1] 30)).alloc (.cells #[.slice B0 b.length d0, .slice B1 qs.length d1] 30) = W1 at *
  generalize w.heap.size = g at *
  have x0 : W1.cell? ⟨g, 0, none⟩ = some (.slice A0 a.length c0) := hX 0
  have x1 : W1.cell? ⟨g, 1, none⟩ = some (.slice A1 ps.length c1) := hX 1
  have y0 : W1.cell? ⟨g + 1, 0, none⟩ = some (.slice B0 b.length d0) := hY 0
  have y1 : W1.cell? ⟨g + 1, 1, none⟩ = some (.slice B1 qs.length d1) := hY 1
  clear hX hY
  cases hA : rightL (a, ps) with
  | false =>
    have He := Lib.hid (cmpLin_no1 (y := (b, qs)) hA)
    rw [hA] at Q1
    clear hA
    refine Q1.mono ?_
    rintro e w2 ⟨rfl, hb2⟩
    go_wp2_with fail
    go_ret
    exact ⟨by rw [He.out]; rfl, hB1.trans hb2⟩
  | true =>
    rw [hA] at Q1
    refine Q1.mono ?_
    rintro e w2 ⟨rfl, hb2⟩
    have Q2 := refRightLin_c _ _ _ _ _ _ _ _ _ (q0.to hb2) (q1.to hb2) _ _ rfl rfl
    have y0' := cell_keep y0 (hb2.block (by simp only; omega))
    have y1' := cell_keep y1 (hb2.block (by simp only; omega))
    cases hB : rightL (b, qs) with
    | false =>
      have He := Lib.hid (cmpLin_no2 (x := (a, ps)) hB)
      rw [hB] at Q2
      clear hA hB x0 x1 y0 y1
      go_wp2_with fail
      refine Q2.mono ?_
      rintro e w3 ⟨rfl, hb3⟩
      go_wp2_with fail
      go_ret
      exact ⟨by rw [He.out]; rfl, (hB1.trans hb2).trans hb3⟩
    | true =>
      have He := Lib.hid (cmpLin_yes hA hB)
      rw [hB] at Q2
      have Hx0 := Lib.hid x0
      have Hx1 := Lib.hid x1
      have Hy0 := Lib.hid y0
      have Hy1 := Lib.hid y1
      clear hA hB x0 x1 y0 y1
      go_wp2_with fail
      refine Q2.mono ?_
      rintro e w3 ⟨rfl, hb3⟩
      have hb13 := hb2.trans hb3
      clear y0' y1'
      have x0 := cell_keep Hx0.out (hb13.block (by simp only; omega))
      have y0 := cell_keep Hy0.out (hb13.block (by simp only; omega))
      have Q3 := refCompare_c _ _ _ _ _ _ _ _ _ (p0.to hb13) (q0.to hb13) _ _ rfl rfl
      obtain ⟨z, hz⟩ : ∃ z, cmpB a b = z := ⟨_, rfl⟩
      rw [hz] at Q3
      have HZ := Lib.hid hz
      have HQ3 := Lib.hid Q3
      clear hz Q1 Q2 Q3
      go_wp2_with fail
      refine HQ3.out.mono ?_
      rintro e w4 ⟨rfl, hb4⟩
      have hb14 := hb13.trans hb4
      clear x0 y0 HQ3
      by_cases h0 : z = 0
      · subst h0
        have x1 := cell_keep Hx1.out (hb14.block (by simp only; omega))
        have y1 := cell_keep Hy1.out (hb14.block (by simp only; omega))
        by_cases hl : ps.length = qs.length
        · have hlc : ((ps.length : Int) != (qs.length : Int)) = false := by simp; omega
          have HL := Lib.hid hl
          clear hl
          go_wp2_with fail
          clear x1 y1
          go_loopw [41] (fun v wr => ∃ k : Nat, k ≤ ps.length ∧ v = .int .i64 k ∧ Hid (agreeTo cmpB ps qs k) ∧ Bel W1 wr) (fun v _ => ps.length - (intOf v).toNat)
          case atStart => exact ⟨0, Nat.zero_le _, rfl, agreeTo_zero _ _ _, hb14⟩
          case round =>
            obtain ⟨k, hk, rfl, hp, hbl⟩ := hrel
            by_cases hlt : k < ps.length
            · have hltb : k < qs.length := by rw [← HL.out]; exact hlt
              obtain ⟨ad, P, cp, rfl, hpc, hpr⟩ := (p1.to hbl).row hlt
              obtain ⟨bd, Q, cq, rfl, hqc, hqr⟩ := (q1.to hbl).row hltb
              have x1 := cell_keep Hx1.out (hbl.block (by simp only; omega))
              have y1 := cell_keep Hy1.out (hbl.block (by simp only; omega))
              obtain ⟨p, hpe⟩ : ∃ p, ps[k] = p := ⟨_, rfl⟩
              obtain ⟨q, hqe⟩ : ∃ q, qs[k] = q := ⟨_, rfl⟩
              have HPE := Lib.hid hpe
              have HQE := Lib.hid hqe
              rw [hpe] at hpc hpr
              rw [hqe] at hqc hqr
              clear hpe hqe
              have Q4 := fun n => refCompareQ_c _ _ _ _ _ _ _ _ _ (hpr.to ((Bel.refl _).drewN n)) (hqr.to ((Bel.refl _).drewN n)) _ _ rfl rfl
              have k1 : (k : Int) < (ps.length : Int) := by omega
              have k2 : (k : Int) < (qs.length : Int) := by omega
              obtain ⟨t, ht⟩ : ∃ t, cmpB p q = t := ⟨_, rfl⟩
              simp only [ht] at Q4
              by_cases h0 : t = 0
              · subst h0
                have Hs := Lib.hid (agreeTo_snoc hp.out hlt hltb (by rw [HPE.out, HQE.out]; exact ht))
                clear ht
                go_wp2
                go_quiet ((go_at_call 110; exact Calls.quiet_of (Q4 _)))
                go_wp2
                go_roundw
                case rel => exact ⟨k + 1, by omega, by go_num, Hs.out, hbl.drewN _⟩
                case measure => simp [intOf]; omega
              · have hz0 : (t != 0) = true := by simp [h0]
                have Hc := Lib.hid (show cmpLin (a, ps) (b, qs) = t by
                  rw [He.out]
                  rw [HZ.out, HL.out, cmpI_self, cmpBy_at hlt hltb hp.out (by rw [HPE.out, HQE.out, ht]; exact h0), HPE.out, HQE.out, ht]
                  simp [or3])
                clear ht h0
                go_wp2
                go_quiet ((go_at_call 110; exact Calls.quiet_of (Q4 _)))
                go_wp2
                go_ret
                exact ⟨by rw [Hc.out]; rfl, hB1.trans (hbl.drewN _)⟩
            · obtain rfl : k = ps.length := by omega
              have Hc := Lib.hid (show cmpLin (a, ps) (b, qs) = 0 by
                rw [He.out]
                rw [HZ.out, HL.out, cmpI_self, cmpBy_same HL.out hp.out]
                simp [or3])
              have x1 := cell_keep Hx1.out (hbl.block (by simp only; omega))
              go_wp2
              go_ret
              exact ⟨by rw [Hc.out]; rfl, hB1.trans hbl⟩
        · have hlc : ((ps.length : Int) != (qs.length : Int)) = true := by simp; omega
          by_cases hlt : ps.length < qs.length
          · have Hc := Lib.hid (show cmpLin (a, ps) (b, qs) = -1 by
              rw [He.out]
              rw [HZ.out, cmpI_lt (by omega)]
              simp [or3])
            have hd : decide ((ps.length : Int) < (qs.length : Int)) = true := decide_eq_true (by omega)
            clear hl
            go_wp2_with fail
            go_ret
            exact ⟨by rw [Hc.out]; rfl, hB1.trans hb14⟩
          · have Hc := Lib.hid (show cmpLin (a, ps) (b, qs) = 1 by
              rw [He.out]
              rw [HZ.out, cmpI_gt (by omega)]
              simp [or3])
            have hd : decide ((ps.length : Int) < (qs.length : Int)) = false := decide_eq_false (by omega)
            clear hl
            go_wp2_with fail
            go_ret
            exact ⟨by rw [Hc.out]; rfl, hB1.trans hb14⟩
      · have hz0 : (z != 0) = true := by simp [h0]
        have Hc := Lib.hid (show cmpLin (a, ps) (b, qs) = z by
          rw [He.out]
          rw [HZ.out]
          simp [or3, h0])
        clear h0
        go_wp2_with fail
        go_ret
        exact ⟨by rw [Hc.out]; rfl, hB1.trans hb14⟩
end Go.Proofs.YtmdcgekiiopohaaGreat

/- Walks: a copy of a linear set; raw ones. -/
namespace Go.Proofs.YtmdcgekiiopohaaGreat
open Go.RowKit Go.Cb
set_option maxRecDepth 100000 in
set_option maxHeartbeats 8000000 in
theorem copyLin_c (S0 S1 : Nat → Prop) (A0 A1 : Option Addr) (c0 c1 : Nat) (x : Lin) (w : World) (h0 : Rd intT w S0 A0 c0 x.1) (h1 : Rd bagT w S1 A1 c1 x.2)
    (n0 n1 : Nat) (hn0 : n0 = x.1.length) (hn1 : n1 = x.2.length) (hl0 : x.1.length ≤ 4294967296) (hl : x.2.length ≤ 4294967296) (hl3 : ∀ p ∈ x.2, p.length ≤ 4294967296) :
    Calls Tryz.prog 88 #[.agg #[.slice A0 n0 c0, .slice A1 n1 c1]] w fun e w' => ∃ C0 e0 C1 e1, e = .returned (.agg #[.slice C0 x.1.length e0, .slice C1 x.2.length e1]) ∧ Rd intT w' (Ge w.heap.size) C0 e0 x.1 ∧ Rd bagT w' (Ge w.heap.size) C1 e1 x.2 ∧ Bel w w' := by
  obtain ⟨a, ps⟩ := x
  dsimp only at *
  subst hn0 hn1
  have Hl3 := Lib.hid hl3
  have lm := h1.lenMax
  obtain ⟨hB1, hX, hY, hsz⟩ := twoBoxes w #[.slice A0 a.length c0, .slice A1 ps.length c1] #[.slice none 0 0, .slice none 0 0] 30
  have X := (Box.new w 30 (.slice A0 a.length c0) (.slice A1 ps.length c1)).to ((Bel.refl _).alloc (.cells #[.slice none 0 0, .slice none 0 0] 30))
  have R := Box.new (w.alloc (.cells #[.slice A0 a.length c0, .slice A1 ps.length c1] 30)) 30 (.slice none 0 0) (.slice none 0 0)
  rw [show (w.alloc (.cells #[.slice A0 a.length c0, .slice A1 ps.length c1] 30)).heap.size = w.heap.size + 1 by simp] at R
  have p0 := (h0.to hB1).all
  have p1 := (h1.to hB1).all
  clear h0 h1 hl3 hX hY
  obtain ⟨x0, x1, _, _⟩ := X.cells
  go_enter Tryz.func88, Tryz.ntmps88
  go_wp2_with (at_builtin; refine wp_append intT (w0 := (w.alloc (.cells #[.slice A0 a.length c0, .slice A1 ps.length c1] 30)).alloc (.cells #[.slice none 0 0, .slice none 0 0] 30)) 27 3 (.int .i64 0) 8 rfl _ _ rfl Tryz.underlying27 info_int rfl (Ge w.heap.size) All _ [] a A0 _ c0 rfl rfl rfl (Own.nil _ _ _ _ _) p0 (fun _ _ h => h) (Bel.refl _) (by simp [maxLen]; omega) (by simp; omega) ?_; rintro v1 w1 ho1 hb1 _ _; rw [List.nil_append] at ho1; obtain ⟨A2, c2, rfl, hr2⟩ := ho1.rdOne; obtain ⟨xx0, xx1, _, _⟩ := (X.to (hb1.trans ((Bel.refl w1).alloc (.cells #[.slice A2 a.length c2, .slice none 0 0] 30)))).cells)
  have L0 := Box.new w1 30 (.slice A2 a.length c2) (.slice none 0 0)
  have hal : Bel w1 (w1.alloc (.cells #[.slice A2 a.length c2, .slice none 0 0] 30)) := (Bel.refl _).alloc _
  have hbW := hb1.trans hal
  have hr2 := hr2.to hal
  generalize hW1 : (w.alloc (.cells #[.slice A0 a.length c0, .slice A1 ps.length c1] 30)).alloc (.cells #[.slice none 0 0, .slice none 0 0] 30) = W1 at *
  clear hW1 x0 x1 xx0 xx1
  have h1s := hb1.size
  generalize w1.alloc (.cells #[.slice A2 a.length c2, .slice none 0 0] 30) = W5 at *
  clear ho1
  replace hr2 : Rd intT W5 (fun k => w.heap.size + 1 < k ∧ k < w1.heap.size) A2 c2 a := hr2.mono (fun k hk => ⟨by omega, by omega⟩)
  obtain ⟨L, hLe⟩ : ∃ L, w1.heap.size = L := ⟨_, rfl⟩
  have hWL : W1.heap.size ≤ L := by omega
  rw [hLe] at L0 hr2 ⊢
  clear hLe h1s hb1 hal
  go_loopw [13] (fun v wr => ∃ (k : Nat) (W : World) (vP : Value), W = wr ∧ k ≤ ps.length ∧ v = .int .i64 k ∧
      Box W 30 L (.slice A2 a.length c2) vP ∧ Rd intT W (fun k => w.heap.size + 1 < k ∧ k < L) A2 c2 a ∧ Own bagT 27 W W1.heap.size (fun k => L < k) vP (ps.take k) ∧ Hid (∀ j, vP.ownBlock = some j → L < j) ∧ Bel W1 W) (fun v _ => ps.length - (intOf v).toNat)
  case atStart => exact ⟨0, _, .slice none 0 0, rfl, Nat.zero_le _, rfl, L0, hr2, Own.nil _ _ _ _ _, ((fun j hj => by cases hj) : ∀ j, (Value.slice none 0 0).ownBlock = some j → L < j), hbW⟩
  case round =>
    clear L0 hr2 hbW
    obtain ⟨k, W, vP, rfl, hk, rfl, L1, hr2, hO, HV, hbW⟩ := hrel
    have hLW := L1.lt
    by_cases hlt : k < ps.length
    · obtain ⟨ad, Pp, cp, rfl, hpc, hpr⟩ := (p1.to hbW).row hlt
      have hl3 := Hl3.out ps[k] (List.getElem_mem hlt)
      obtain ⟨p, hpe⟩ : ∃ p, ps[k] = p := ⟨_, rfl⟩
      have HT := Lib.hid (show ps.take (k + 1) = ps.take k ++ [p] by rw [List.take_add_one, List.getElem?_eq_getElem hlt, hpe]; rfl)
      rw [hpe] at hpc hpr hl3
      clear hpe
      obtain ⟨AP, cP, hvP⟩ := hO.form
      rw [List.length_take, Nat.min_eq_left hk] at hvP
      subst hvP
      go_wp2_with fail
      refine wp_region_grow2 5 (by kernel_rfl) (by kernel_rfl) (by kernel_rfl) [SPred.val (.pointer (some ⟨L, 1, none⟩)), SPred.val (.slice AP k cP), SPred.val (.slice Pp p.length cp), SPred.word W.heap.size p, SPred.lit1 W.heap.size 27 p] ?_ ?_
      · refine ⟨fun u ρ w2 hb2 hd => ?_, fun u ρ w2 hb2 hd => ?_, fun u ρ w2 hb2 hd => ?_, fun u ρ w2 hb2 hd => ?_, fun u ρ w2 hb2 hd => ?_, trivial⟩
        · simp only [growFr, List.getElem?_cons_succ, List.getElem?_cons_zero, Option.bind_some, Act.put, List.setIfInBounds_toArray, List.set_cons_succ, List.set_cons_zero]
          go_wp2_with fail
          exact ⟨rfl, _, rfl, Bel.refl _, rfl⟩
        · have h1 : u 0 = _ := hd 0 (by kernel_rfl)
          obtain ⟨y0, y1, _, _⟩ := (L1.to hb2).cells
          simp only [growFr, List.getElem?_cons_succ, List.getElem?_cons_zero, Option.bind_some, Act.put, List.setIfInBounds_toArray, List.set_cons_succ, List.set_cons_zero, h1]
          go_wp2_with fail
          exact ⟨rfl, _, rfl, Bel.refl _, rfl⟩
        · simp only [growFr, List.getElem?_cons_succ, List.getElem?_cons_zero, Option.bind_some, Act.put, List.setIfInBounds_toArray, List.set_cons_succ, List.set_cons_zero]
          go_wp2_with fail
          exact ⟨rfl, _, rfl, Bel.refl _, rfl⟩
        · have h1 : u 2 = _ := hd 2 (by kernel_rfl)
          simp only [growFr, List.getElem?_cons_succ, List.getElem?_cons_zero, Option.bind_some, Act.put, List.setIfInBounds_toArray, List.set_cons_succ, List.set_cons_zero, h1]
          go_wp2_with (at_builtin; refine wp_append intT (w0 := w2) 27 3 (.int .i64 0) 8 rfl _ _ rfl Tryz.underlying27 info_int rfl All All _ [] p Pp _ cp rfl rfl rfl (Own.nil _ _ _ _ _) ((hpr.to hb2).all) (fun _ _ h => h) (Bel.refl _) (by simp [maxLen]; omega) (by simp; omega) ?_; rintro v3 w3 ho3 hb3 _ _; rw [List.nil_append] at ho3)
          obtain ⟨A3, c3, rfl, r3⟩ := ho3.rdW
          have hs2 := hb2.size
          exact ⟨rfl, _, rfl, hb3, A3, c3, rfl, r3.mono (fun k hk => ⟨by omega, hk.2⟩)⟩
        · obtain ⟨A4, c4, h1, r4⟩ : (SPred.word W.heap.size p).φ (u 3) (ρ 3).1 (ρ 3).2 w2 := hd 3 (by kernel_rfl)
          simp only [growFr, List.getElem?_cons_succ, List.getElem?_cons_zero, Option.bind_some, Act.put, List.setIfInBounds_toArray, List.set_cons_succ, List.set_cons_zero, h1]
          go_wp2_with fail
          have hal : Bel w2 (w2.alloc (.cells #[.slice A4 p.length c4] 27)) := (Bel.refl _).alloc _
          have hs2 := hb2.size
          refine ⟨rfl, _, rfl, hal, rfl, hs2, by simp, A4, c4, heap_alloc_new w2 _, ((r4.bound).to hal).mono (fun k hk => ⟨hk.1.1, hk.2⟩)⟩
      · intro u ρ w2 hb2 hall hdj
        have h0 : u 0 = _ := (hall 0 (by omega)).1
        have h1 : u 1 = _ := (hall 1 (by omega)).1
        have h2 : u 2 = _ := (hall 2 (by omega)).1
        obtain ⟨A4, c4, h3, r4⟩ : (SPred.word W.heap.size p).φ (u 3) (ρ 3).1 (ρ 3).2 w2 := (hall 3 (by omega)).1
        obtain ⟨h4, hlo, hlt4, hR⟩ := SPred.lit1_rd (hall 4 (by omega)).1
        simp only [List.drop_succ_cons, List.drop_zero, growFr, List.getElem?_cons_succ, List.getElem?_cons_zero, Option.bind_some, Act.put, List.setIfInBounds_toArray, List.set_cons_succ, List.set_cons_zero, h0, h1, h2, h3, h4]
        have L2 := L1.to hb2
        have HO := Lib.hid (hO.to hb2)
        have hO' := Lib.hid (fun j hj => hO.lt (k := j) hj)
        have hbW2 := hbW.trans hb2
        have hr22 := hr2.to hb2
        have hL2 := hb2.size
        generalize (ρ 4).1 = q at *
        clear hall hdj r4 h0 h1 h2 h3 h4 L1 hO hbW hr2
        have HR := Lib.hid hR.bags
        clear hR
        go_wp2_with (at_builtin; refine wp_append bagT (w0 := W1) 28 27 (.slice none 0 0) 24 rfl _ _ rfl Tryz.underlying28 info_bag rfl (fun k => L < k) (fun j => W.heap.size ≤ j ∧ j < q + 1) (.slice AP k cP) (ps.take k) [p] (some ⟨q, 0, none⟩) 1 1 rfl rfl rfl HO.out HR.out (bagT.rdS (fun j hj _ => ⟨by omega, fun e => by have := hO'.out j e.symm; omega⟩)) hbW2 (by simp [maxLen]; omega) (by simp; omega) ?_; rintro v6 w6 ho6 hb6 hg6 hf6; rw [← HT.out] at ho6; obtain ⟨A6, c6, hv6⟩ := ho6.form; rw [List.length_take, Nat.min_eq_left (by omega)] at hv6; subst hv6; have L6 : Box w6 30 L (.slice A2 a.length c2) (.slice AP k cP) := (hg6.block L (by omega) (fun e => by have := HV.out L e.symm; omega)).trans L2; obtain ⟨y0, y1, k0, k1⟩ := L6.cells)
        have hu6 := Upd.one w6 L 1 (.slice A6 (k + 1) c6)
        have hv7 : ∀ j, (Value.slice A6 (k + 1) c6).ownBlock = some j → L < j := fun j hj => by
          rcases hf6 with e | e
          · exact HV.out j (e.symm.trans hj)
          · rw [e] at hj; injection hj with hj; omega
        go_roundw
        case rel => exact ⟨k + 1, _, .slice A6 (k + 1) c6, rfl, by omega, by go_num, L6.set1 _, (hr22.step (w' := w6) (fun j hj hlj => hg6.block j hlj (fun e => by have := HV.out j e.symm; omega))).upd hu6 (fun h => by omega),
            ho6.step (fun j hj => hu6.block j (by have := hv7 j hj; omega)) (fun j hj _ _ => hu6.block j (by omega)), hv7, hb6.upd hu6 hWL⟩
        case measure => simp [intOf]; omega
    · obtain rfl : k = ps.length := by omega
      rw [List.take_length] at hO
      obtain ⟨AP, cP, rfl, rP⟩ := hO.rd
      have rP' : Rd bagT W (fun j => w.heap.size + 1 < j) AP cP ps := rP.mono (fun j hj => by
        rcases hj with hj | hj
        · omega
        · have := HV.out j hj.symm; omega)
      obtain ⟨x0, x1, _, _⟩ := L1.cells
      have R6 := R.to hbW
      obtain ⟨y0, y1, k0, k1⟩ := R6.cells
      obtain ⟨z0, z1, m0, m1⟩ := (R6.set0 (.slice A2 a.length c2)).cells
      obtain ⟨u0, u1, n0, n1⟩ := ((R6.set0 (.slice A2 a.length c2)).set1 (.slice AP ps.length cP)).cells
      have hu := (Upd.one W (w.heap.size + 1) 0 (.slice A2 a.length c2)).set (p := ⟨w.heap.size + 1, 1, none⟩) rfl (.slice AP ps.length cP)
      clear hlt hO rP HV
      go_wp2_with fail
      (try simp only [Exit.inBlock, Exit.then])
      refine bodyPost_ret (v := .agg #[.slice A2 a.length c2, .slice AP ps.length cP]) ?_ rfl ?_
      · rw [results_cell1 rfl]
        go_simp
      · exact ⟨_, _, _, _, rfl, (hr2.upd hu (fun h => by omega)).mono (fun _ h => by unfold Ge; omega), (rP'.upd hu (fun h => by omega)).mono (fun _ h => by unfold Ge; omega), (hB1.trans hbW).upd hu (by omega)⟩
end Go.Proofs.YtmdcgekiiopohaaGreat

/- Plain laws: rising lists of linear sets. -/
namespace Go.Cb
/-- An order, as a comparison tells it, of what is right. -/
structure OrdF {α : Type} (f : α → α → Int) (R : α → Prop) : Prop where
  zero : ∀ x y, R x → R y → (f x y = 0 ↔ x = y)
  neg : ∀ x y, f y x = -f x y
  trans : ∀ x y z, R x → R y → R z → f x y ≤ 0 → f y z ≤ 0 → f x z ≤ 0
section
variable {α : Type} {f : α → α → Int} {R : α → Prop}
theorem OrdF.ltt (O : OrdF f R) {a b c : α} (ha : R a) (hb : R b) (hc : R c) (h1 : f a b < 0) (h2 : f b c < 0) : f a c < 0 := by
  have h3 := O.trans a b c ha hb hc (by omega) (by omega)
  rcases Int.lt_or_eq_of_le h3 with h | h
  · exact h
  · have e := (O.zero a c ha hc).1 h
    subst e
    have := O.neg a b
    omega
def putO (f : α → α → Int) : List α → α → List α
  | [], b => [b]
  | p :: ps, b => if f p b < 0 then p :: putO f ps b else if f p b = 0 then p :: ps else b :: p :: ps
structure GoodO (f : α → α → Int) (R : α → Prop) (ps : List α) : Prop where
  each : ∀ p ∈ ps, R p
  up : ps.Pairwise fun a b => f a b < 0
theorem GoodO.nil : GoodO f R [] := ⟨fun _ h => by simp at h, .nil⟩
theorem GoodO.tail {p : α} {ps : List α} (h : GoodO f R (p :: ps)) : GoodO f R ps := ⟨fun q hq => h.each q (by simp [hq]), (List.pairwise_cons.1 h.up).2⟩
theorem mem_putO : ∀ {ps : List α} {b x : α}, x ∈ putO f ps b → x ∈ ps ∨ x = b
  | [], b, x, h => by simp [putO] at h; exact .inr h
  | p :: ps, b, x, h => by
    rw [putO] at h
    split at h
    · rcases List.mem_cons.1 h with rfl | h
      · exact .inl (by simp)
      · rcases mem_putO h with h | h
        · exact .inl (by simp [h])
        · exact .inr h
    · split at h
      · exact .inl h
      · rcases List.mem_cons.1 h with h | h
        · exact .inr h
        · exact .inl h
theorem mem_putO_iff (O : OrdF f R) {ps : List α} {b x : α} (hp : ∀ p ∈ ps, R p) (hb : R b) : x ∈ putO f ps b ↔ x ∈ ps ∨ x = b := by
  refine ⟨mem_putO, ?_⟩
  induction ps with
  | nil =>
    rintro (h | rfl)
    · simp at h
    · simp [putO]
  | cons p ps ih =>
    have ih := ih (fun q hq => hp q (by simp [hq]))
    rw [putO]
    rintro h
    split
    · rcases h with h | h
      · rcases List.mem_cons.1 h with rfl | h
        · simp
        · exact List.mem_cons.2 (.inr (ih (.inl h)))
      · exact List.mem_cons.2 (.inr (ih (.inr h)))
    · split
      · rename_i h2
        have e := (O.zero p b (hp p (by simp)) hb).1 h2
        rcases h with h | h
        · exact h
        · rw [h, ← e]; simp
      · rcases h with h | h
        · exact List.mem_cons.2 (.inr h)
        · rw [h]; simp
theorem GoodO.put (O : OrdF f R) : ∀ {ps : List α} {b : α}, GoodO f R ps → R b → GoodO f R (putO f ps b)
  | [], b, _, h2 => ⟨fun q hq => by simp [putO] at hq; subst hq; exact h2, by simp [putO]⟩
  | p :: ps, b, h, h2 => by
    have hp := h.each p (by simp)
    have hup := List.pairwise_cons.1 h.up
    rw [putO]
    split
    · rename_i hlt
      have ih := GoodO.put O h.tail h2
      refine ⟨fun q hq => ?_, List.pairwise_cons.2 ⟨fun q hq => ?_, ih.up⟩⟩
      · rcases List.mem_cons.1 hq with rfl | hq
        · exact hp
        · exact ih.each q hq
      · rcases mem_putO hq with hq | rfl
        · exact hup.1 q hq
        · exact hlt
    · split
      · exact h
      · rename_i hn hz
        have hbp : f b p < 0 := by have := O.neg p b; omega
        refine ⟨fun q hq => ?_, List.pairwise_cons.2 ⟨fun q hq => ?_, h.up⟩⟩
        · rcases List.mem_cons.1 hq with rfl | hq
          · exact h2
          · exact h.each q hq
        · rcases List.mem_cons.1 hq with rfl | hq
          · exact hbp
          · exact O.ltt h2 hp (h.each q (by simp [hq])) hbp (hup.1 q hq)
theorem ext_riseO (O : OrdF f R) : ∀ {a b : List α}, (a.Pairwise fun x y => f x y < 0) → (b.Pairwise fun x y => f x y < 0) → (∀ x, x ∈ a ↔ x ∈ b) → a = b
  | [], [], _, _, _ => rfl
  | [], y :: b, _, _, h => by have := (h y).2 (by simp); simp at this
  | x :: a, [], _, _, h => by have := (h x).1 (by simp); simp at this
  | x :: a, y :: b, ha, hb, h => by
    have ha' := List.pairwise_cons.1 ha
    have hb' := List.pairwise_cons.1 hb
    have e : x = y := by
      rcases List.mem_cons.1 ((h x).1 (by simp)) with e | hx
      · exact e
      · rcases List.mem_cons.1 ((h y).2 (by simp)) with e | hy
        · exact e.symm
        · have h1 := hb'.1 x hx
          have h2 := ha'.1 y hy
          have := O.neg x y
          omega
    subst e
    have hirr : ∀ z, ¬ f z z < 0 := fun z => by have := O.neg z z; omega
    rw [ext_riseO O ha'.2 hb'.2 (fun z => by
      constructor
      · intro hz
        rcases List.mem_cons.1 ((h z).1 (by simp [hz])) with e | hz2
        · subst e; exact absurd (ha'.1 z hz) (hirr z)
        · exact hz2
      · intro hz
        rcases List.mem_cons.1 ((h z).2 (by simp [hz])) with e | hz2
        · subst e; exact absurd (hb'.1 z hz) (hirr z)
        · exact hz2)]
/-- What stands next to its like is left out. -/
def cmpctO [DecidableEq α] : List α → List α
  | [] => []
  | [x] => [x]
  | x :: y :: r => if x = y then cmpctO (y :: r) else x :: cmpctO (y :: r)
variable [DecidableEq α]
theorem cmpctO_mem : ∀ {l : List α} {x : α}, x ∈ cmpctO l ↔ x ∈ l
  | [], x => by simp [cmpctO]
  | [y], x => by simp [cmpctO]
  | y :: z :: r, x => by
    rw [cmpctO]
    split
    · rename_i e
      rw [cmpctO_mem (l := z :: r), e]
      simp
    · rw [List.mem_cons, cmpctO_mem (l := z :: r), List.mem_cons (l := z :: r)]
theorem cmpctO_rise (O : OrdF f R) : ∀ {l : List α}, (∀ p ∈ l, R p) → (l.Pairwise fun x y => ¬ f y x < 0) → (cmpctO l).Pairwise fun x y => f x y < 0
  | [], _, _ => by simp [cmpctO]
  | [x], _, _ => by simp [cmpctO]
  | x :: y :: r, hr, h => by
    have h' := List.pairwise_cons.1 h
    have ih := cmpctO_rise O (l := y :: r) (fun p hp => hr p (by simp [hp])) h'.2
    rw [cmpctO]
    split
    · exact ih
    · rename_i hne
      have hxy : f x y < 0 := by
        have h1 := h'.1 y (by simp)
        have h2 := O.neg x y
        rcases Int.lt_or_le (f x y) 0 with h3 | h3
        · exact h3
        · exact absurd ((O.zero x y (hr x (by simp)) (hr y (by simp))).1 (by omega)) hne
      refine List.pairwise_cons.2 ⟨fun z hz => ?_, ih⟩
      have hz' := cmpctO_mem.1 hz
      rcases List.mem_cons.1 hz' with rfl | hz2
      · exact hxy
      · have h1 := (List.pairwise_cons.1 h'.2).1 z hz2
        have h2 := O.neg y z
        rcases Int.lt_or_le (f y z) 0 with h3 | h3
        · exact O.ltt (hr x (by simp)) (hr y (by simp)) (hr z (by simp [hz2])) hxy h3
        · have e := (O.zero y z (hr y (by simp)) (hr z (by simp [hz2]))).1 (by omega)
          rw [← e]; exact hxy
theorem cmpctO_snoc : ∀ (l : List α) (x : α), cmpctO (l ++ [x]) = if l.getLast? = some x then cmpctO l else cmpctO l ++ [x]
  | [], x => by simp [cmpctO]
  | [y], x => by
    show cmpctO [y, x] = _
    by_cases e : y = x
    · subst e; simp [cmpctO]
    · simp [cmpctO, e]
  | y :: z :: r, x => by
    have ih := cmpctO_snoc (z :: r) x
    have hl : (y :: z :: r).getLast? = (z :: r).getLast? := by simp [List.getLast?_cons_cons]
    rw [hl]
    show cmpctO (y :: z :: (r ++ [x])) = _
    rw [cmpctO, cmpctO]
    rw [show z :: (r ++ [x]) = (z :: r) ++ [x] from rfl, ih]
    by_cases e : y = z
    · rw [if_pos e, if_pos e]
    · rw [if_neg e, if_neg e]
      split <;> simp
theorem cmpctO_length : ∀ l : List α, (cmpctO l).length ≤ l.length
  | [] => by simp [cmpctO]
  | [x] => by simp [cmpctO]
  | x :: y :: r => by
    have := cmpctO_length (y :: r)
    rw [cmpctO]
    split <;> simp at this ⊢ <;> omega
theorem take_lastO {l : List α} {k : Nat} (h0 : 0 < k) (hk : k ≤ l.length) : (l.take k).getLast? = l[k - 1]? := by
  rw [List.getLast?_eq_getElem?, List.length_take, Nat.min_eq_left hk, List.getElem?_take, if_pos (by omega)]
theorem cmpctO_take {l : List α} {k : Nat} {x y : α} (h0 : 0 < k) (hy : l[k - 1]? = some y) (hx : l[k]? = some x) : cmpctO (l.take (k + 1)) = if y = x then cmpctO (l.take k) else cmpctO (l.take k) ++ [x] := by
  have hk := (List.getElem?_eq_some_iff.1 hx).1
  rw [List.take_add_one, hx]
  show cmpctO (l.take k ++ [x]) = _
  rw [cmpctO_snoc, take_lastO h0 (by omega), hy]
  by_cases e : y = x
  · rw [if_pos e, if_pos (by rw [e])]
  · rw [if_neg e, if_neg (fun h => e (Option.some.inj h))]
end
section
variable {α : Type} {f : α → α → Int} {R : α → Prop}
theorem foldl_putO (O : OrdF f R) : ∀ {ps acc : List α}, GoodO f R acc → (∀ p ∈ ps, R p) → GoodO f R (ps.foldl (putO f) acc) ∧ ∀ x, x ∈ ps.foldl (putO f) acc ↔ x ∈ acc ∨ x ∈ ps
  | [], acc, h, _ => ⟨h, fun x => by simp⟩
  | p :: ps, acc, h, hr => by
    have hp := hr p (by simp)
    obtain ⟨g, m⟩ := foldl_putO (ps := ps) O (h.put O hp) (fun q hq => hr q (by simp [hq]))
    refine ⟨g, fun x => ?_⟩
    show x ∈ ps.foldl (putO f) (putO f acc p) ↔ _
    rw [m x, mem_putO_iff O h.each hp, List.mem_cons, or_assoc]
theorem putO_length : ∀ (ps : List α) (b : α), (putO f ps b).length ≤ ps.length + 1
  | [], b => by simp [putO]
  | p :: ps, b => by
    rw [putO]
    split
    · simp only [List.length_cons]; have := putO_length ps b; omega
    · split <;> simp
theorem foldl_putO_length : ∀ (ps acc : List α), (ps.foldl (putO f) acc).length ≤ acc.length + ps.length
  | [], acc => by simp
  | p :: ps, acc => by
    have := foldl_putO_length ps (putO f acc p)
    have h2 := putO_length (f := f) acc p
    simp only [List.foldl_cons, List.length_cons]
    omega
/-- Sorted, and what comes twice left out: just what putting in one by one makes. -/
theorem sorted_putO [DecidableEq α] (O : OrdF f R) {ps q : List α} (hr : ∀ p ∈ ps, R p) (hp : q.Perm ps) (hs : q.Pairwise fun x y => ¬ f y x < 0) : ps.foldl (putO f) [] = cmpctO q := by
  obtain ⟨g, m⟩ := foldl_putO O GoodO.nil hr
  exact ext_riseO O g.up (cmpctO_rise O (fun p h => hr p (hp.mem_iff.1 h)) hs) (fun x => by rw [m x, cmpctO_mem, hp.mem_iff]; simp)
/-- Those ahead of b, up to k. -/
def belowO (f : α → α → Int) (ps : List α) (b : α) (k : Nat) : Prop := ∀ i, i < k → ∀ h : i < ps.length, f ps[i] b < 0
theorem belowO_zero (ps : List α) (b : α) : belowO f ps b 0 := fun i hi => absurd hi (by omega)
theorem belowO_snoc {ps : List α} {b : α} {k : Nat} (h : belowO f ps b k) (hk : k < ps.length) (hc : f ps[k] b < 0) : belowO f ps b (k + 1) := by
  intro i hi hl
  by_cases e : i = k
  · subst e; exact hc
  · exact h i (by omega) hl
theorem putO_skip : ∀ (k : Nat) (ps : List α) (b : α), k ≤ ps.length → belowO f ps b k → putO f ps b = ps.take k ++ putO f (ps.drop k) b
  | 0, _, _, _, _ => rfl
  | k + 1, p :: ps, b, hk, h => by
    have h0 : f p b < 0 := h 0 (by omega) (by simp)
    rw [putO, if_pos h0, putO_skip k ps b (by simpa using hk) (fun i hi hl => h (i + 1) (by omega) (by simpa using hl))]
    rfl
  | k + 1, [], _, hk, _ => by simp at hk
theorem putO_same {ps : List α} {b : α} {k : Nat} (hk : k < ps.length) (h : belowO f ps b k) (hc : f ps[k] b = 0) : putO f ps b = ps := by
  rw [putO_skip k ps b (by omega) h, List.drop_eq_getElem_cons hk, putO, if_neg (by omega), if_pos hc, ← List.drop_eq_getElem_cons hk, List.take_append_drop]
theorem putO_in {ps : List α} {b : α} {k : Nat} (hk : k ≤ ps.length) (h : belowO f ps b k) (hc : ∀ h : k < ps.length, 0 < f ps[k] b) : putO f ps b = ps.take k ++ [b] ++ ps.drop k := by
  rw [putO_skip k ps b hk h]
  by_cases e : k < ps.length
  · have := hc e
    rw [List.drop_eq_getElem_cons e, putO, if_neg (by omega), if_neg (by omega)]; simp
  · rw [List.drop_eq_nil_of_le (by omega), putO]; simp
end

/-! ### semilinear sets -/
theorem linO : OrdF cmpLin (fun l => rightL l = true) := ⟨fun _ _ hx hy => cmpLin_zero hx hy, cmpLin_neg, fun _ _ _ hx hy hz h1 h2 => cmpLin_trans hx hy hz h1 h2⟩
abbrev SemS := List Lin
def okAtS (s : SemS) (i : Nat) : Bool := rightL (s.getD i ([], [])) && (i == 0 || decide (cmpLin (s.getD (i - 1) ([], [])) (s.getD i ([], [])) < 0))
def okToS (s : SemS) (k : Nat) : Bool := (List.range k).all (okAtS s)
def rightS (s : SemS) : Bool := okToS s s.length
theorem okToS_succ (s : SemS) (k : Nat) : okToS s (k + 1) = (okToS s k && okAtS s k) := by
  unfold okToS
  rw [List.range_succ, List.all_append]; simp
theorem okToS_bad {s : SemS} {k : Nat} (hk : k < s.length) (h : okAtS s k = false) : rightS s = false := by
  unfold rightS okToS
  rw [← Bool.not_eq_true, List.all_eq_true]
  intro h2
  have := h2 k (List.mem_range.2 hk)
  rw [h] at this; cases this
theorem getDs_of {s : SemS} {k : Nat} (h : k < s.length) : s.getD k ([], []) = s[k] := by rw [List.getD_eq_getElem?_getD, List.getElem?_eq_getElem h]; rfl
theorem okAtS_first {s : SemS} {k : Nat} (h : k < s.length) (h0 : ¬ 0 < k) : okAtS s k = rightL s[k] := by
  unfold okAtS
  obtain rfl : k = 0 := by omega
  rw [getDs_of h]; simp
theorem okAtS_next {s : SemS} {k : Nat} (h : k < s.length) (h0 : 0 < k) : okAtS s k = (rightL s[k] && decide (cmpLin s[k - 1] s[k] < 0)) := by
  unfold okAtS
  rw [getDs_of h, getDs_of (by omega), show (k == 0) = false by simp; omega]; simp
theorem rightS_iff {s : SemS} : rightS s = true ↔ GoodO cmpLin (fun l => rightL l = true) s := by
  constructor
  · intro h
    have ho : ∀ k, k < s.length → okAtS s k = true := fun k hk => by
      unfold rightS okToS at h
      exact List.all_eq_true.1 h k (List.mem_range.2 hk)
    have he : ∀ k (hk : k < s.length), rightL s[k] = true := fun k hk => by
      have := ho k hk
      by_cases h0 : 0 < k
      · rw [okAtS_next hk h0] at this; simp only [Bool.and_eq_true] at this; exact this.1
      · rw [okAtS_first hk h0] at this; exact this
    refine ⟨fun p hp => ?_, ?_⟩
    · obtain ⟨k, hk, rfl⟩ := List.getElem_of_mem hp
      exact he k hk
    · refine List.pairwise_iff_getElem.2 fun i j hi hj hij => ?_
      induction j with
      | zero => omega
      | succ j ih =>
        have hs := ho (j + 1) hj
        rw [okAtS_next hj (by omega)] at hs
        simp only [Nat.add_sub_cancel, Bool.and_eq_true, decide_eq_true_eq] at hs
        by_cases e : i = j
        · subst e; exact hs.2
        · exact linO.ltt (he i hi) (he j (by omega)) (he (j + 1) hj) (ih (by omega) (by omega)) hs.2
  · intro h
    unfold rightS okToS
    rw [List.all_eq_true]
    intro k hk
    have hk := List.mem_range.1 hk
    have he := h.each s[k] (List.getElem_mem hk)
    by_cases h0 : 0 < k
    · rw [okAtS_next hk h0, he, decide_eq_true (List.pairwise_iff_getElem.1 h.up (k - 1) k (by omega) hk (by omega))]; rfl
    · rw [okAtS_first hk h0, he]
/-- All words of these. -/
def ofS (l : SemS) : SemS × Bool := if l.all (fun x => rightL x) = true then (l.foldl (putO cmpLin) [], true) else ([], false)
theorem ofS_yes {l : SemS} (h : ∀ x ∈ l, rightL x = true) : ofS l = (l.foldl (putO cmpLin) [], true) := by unfold ofS; rw [if_pos (List.all_eq_true.2 h)]
theorem ofS_no {l : SemS} {x : Lin} (h : x ∈ l) (hx : rightL x = false) : ofS l = ([], false) := by
  unfold ofS
  rw [if_neg (fun h2 => by have := List.all_eq_true.1 h2 x h; rw [hx] at this; cases this)]
theorem ofS_right (l : SemS) : rightS (ofS l).1 = true := by
  unfold ofS
  split
  · rename_i h
    exact rightS_iff.2 (foldl_putO linO GoodO.nil (List.all_eq_true.1 h)).1
  · rfl
theorem ofS_length (l : SemS) : (ofS l).1.length ≤ l.length := by
  unfold ofS
  split
  · have := foldl_putO_length (f := cmpLin) l []
    simpa using this
  · simp
theorem ofS_sorted {l q : SemS} (h : ∀ x ∈ l, rightL x = true) (hp : q.Perm l) (hs : q.Pairwise fun x y => ¬ cmpLin y x < 0) : ofS l = (cmpctO q, true) := by
  rw [ofS_yes h, sorted_putO linO h hp hs]
end Go.Cb

/- Walks: semilinear sets that are right. -/
namespace Go.Cb
open Go.RowKit
def semT : Ty (List (List Int × List (List Int))) := sl linT
theorem next_cell {w : World} {ad : Addr} {n : Nat} {v : Value} (h : w.cell? (ad.add (n + 1)) = some v) : w.cell? ⟨(ad.add n).block, (ad.add n).off + 1, none⟩ = some v := by
  have : (⟨(ad.add n).block, (ad.add n).off + 1, none⟩ : Addr) = ad.add (n + 1) := by
    obtain ⟨b, o, sp⟩ := ad
    unfold Addr.add
    by_cases h1 : n = 0
    · subst h1; simp
    · simp [h1]; omega
  rw [this]
  exact h
theorem Rd.lrow {w : World} {S : Nat → Prop} {A : Option Addr} {c : Nat} {xs : List (List Int × List (List Int))} (h : Rd linT w S A c xs) {k : Nat} (hk : k < xs.length) :
    ∃ ad A0 c0 A1 c1, A = some ad ∧ w.cell? (ad.add (k * 2)) = some (.slice A0 xs[k].1.length c0) ∧ w.cell? ⟨(ad.add (k * 2)).block, (ad.add (k * 2)).off + 1, none⟩ = some (.slice A1 xs[k].2.length c1) ∧ Rd intT w S A0 c0 xs[k].1 ∧ Rd bagT w S A1 c1 xs[k].2 := by
  obtain ⟨ad, cs, e, hS, hr, hc⟩ := h.2.2 k _ (List.getElem?_eq_getElem hk)
  obtain ⟨A0, c0, A1, c1, rfl, h0, h1⟩ := lin_rd hr
  exact ⟨ad, A0, c0, A1, c1, e, hc 0 _ rfl, next_cell (hc 1 _ rfl), h0, h1⟩
end Go.Cb
namespace Go.Proofs.YtmdcgekiiopohaaGreat
open Go.RowKit Go.Cb Go.Sort
set_option maxRecDepth 100000 in
set_option maxHeartbeats 8000000 in
theorem semRight_c (S : Nat → Prop) (A : Option Addr) (c : Nat) (s : SemS) (w : World) (h : Rd linT w S A c s) (n : Nat) (hn : n = s.length) :
    Calls Tryz.prog 23 #[.slice A n c] w fun e w' => e = .returned (.bool (rightS s)) ∧ Bel w w' := by
  subst hn
  have lm := h.lenMax
  go_enter Tryz.func23, Tryz.ntmps23
  go_wp2
  go_loopw [7] (fun v wr => ∃ (k : Nat) (W : World), W = wr ∧ k ≤ s.length ∧ v = .int .i64 k ∧ Hid (okToS s k = true) ∧ Bel w W) (fun v _ => s.length - (intOf v).toNat)
  case atStart => exact ⟨0, _, rfl, Nat.zero_le _, rfl, rfl, Bel.refl _⟩
  case round =>
    obtain ⟨k, W, rfl, hk, rfl, hp, hb⟩ := hrel
    by_cases hlt : k < s.length
    · obtain ⟨ad, A0, c0, A1, c1, rfl, h0, h1, r0, r1⟩ := (h.to hb).lrow hlt
      obtain ⟨x, hx⟩ : ∃ x, s[k] = x := ⟨_, rfl⟩
      rw [hx] at h0 h1 r0 r1
      have HX := Lib.hid hx
      have hal : Bel W (W.alloc (.cells #[.slice A0 x.1.length c0, .slice A1 x.2.length c1] 30)) := (Bel.refl _).alloc _
      have T := Box.new W 30 (.slice A0 x.1.length c0) (.slice A1 x.2.length c1)
      clear hx
      go_wp2_with fail
      clear h0 h1
      have hb1 := hb.trans hal
      replace r0 := r0.to hal
      replace r1 := r1.to hal
      generalize W.alloc (.cells #[.slice A0 x.1.length c0, .slice A1 x.2.length c1] 30) = W1 at *
      generalize W.heap.size = g at *
      obtain ⟨t0, t1, _, _⟩ := T.cells
      have T0 := cellReg t0
      have T1 := cellReg t1
      clear t0 t1
      cases hr : rightL x with
      | false =>
        have Hb := Lib.hid (okToS_bad hlt (by
          by_cases h0 : 0 < k
          · rw [okAtS_next hlt h0, HX.out, hr]; rfl
          · rw [okAtS_first hlt h0, HX.out, hr]))
        have K1 := Lib.hid (show ∀ W', Bel W1 W' → Calls Tryz.prog 48 #[.agg #[.slice A0 x.1.length c0, .slice A1 x.2.length c1]] W' fun e w' => e = .returned (.bool false) ∧ Bel W' w' from fun W' h => by
          have := linRight_c _ _ _ _ _ _ x.1 x.2 W' (r0.to h) (r1.to h) _ _ rfl rfl
          rw [show ((x.1, x.2) : Lin) = x from rfl, hr] at this
          exact this)
        clear hr
        refine wp_region_quiet_below (by kernel_rfl) (by kernel_rfl) ?_
        repeat (go_big_quiet_step (first | with_reducible exact callsReg K1.out))
        refine wpQuiet_nil ?_
        intro _ hw'
        obtain ⟨⟨dq, oq⟩, hw''⟩ := hw'
        subst hw''
        go_wp2_with fail
        go_ret
        exact ⟨by rw [Hb.out]; rfl, hb1.trans (bel_regrown _ _ _)⟩
      | true =>
        have K1 := Lib.hid (show ∀ W', Bel W1 W' → Calls Tryz.prog 48 #[.agg #[.slice A0 x.1.length c0, .slice A1 x.2.length c1]] W' fun e w' => e = .returned (.bool true) ∧ Bel W' w' from fun W' h => by
          have := linRight_c _ _ _ _ _ _ x.1 x.2 W' (r0.to h) (r1.to h) _ _ rfl rfl
          rw [show ((x.1, x.2) : Lin) = x from rfl, hr] at this
          exact this)
        by_cases hk0 : 0 < k
        · obtain ⟨ad', B0, d0, B1, d1, e', g0, g1, q0, q1⟩ := (h.to hb1).lrow (k := k - 1) (by omega)
          injection e' with e'
          subst e'
          obtain ⟨y, hy⟩ : ∃ y, s[k - 1] = y := ⟨_, rfl⟩
          rw [hy] at g0 g1 q0 q1
          have hs := okToS_succ s k
          rw [hp.out, okAtS_next hlt hk0, HX.out, hr, hy] at hs
          have HY := Lib.hid hy
          have G0 := cellReg g0
          have G1 := cellReg g1
          have hd : decide (0 < (k : Int)) = true := decide_eq_true (by omega)
          have hw : IntKind.i64.wrap ((k : Int) - 1) = ((k - 1 : Nat) : Int) := by rw [IntKind.wrap_i64]; omega
          obtain ⟨z, hz⟩ : ∃ z, cmpLin y x = z := ⟨_, rfl⟩
          have K2 := Lib.hid (show ∀ W', Bel W1 W' → Calls Tryz.prog 49 #[.agg #[.slice B0 y.1.length d0, .slice B1 y.2.length d1], .agg #[.slice A0 x.1.length c0, .slice A1 x.2.length c1]] W' fun e w' => e = .returned (.int .i64 z) ∧ Bel W' w' from fun W' h => by
            have := linCompare_c _ _ _ _ _ _ _ _ _ _ _ _ y x W' (q0.to h) (q1.to h) (r0.to h) (r1.to h) _ _ _ _ rfl rfl rfl rfl
            rw [hz] at this
            exact this)
          rw [hz] at hs
          have Hs := Lib.hid hs
          clear hs hy hr hz g0 g1
          by_cases hcm : z < 0
          · have hcd : decide (0 ≤ z) = false := decide_eq_false (by omega)
            have Hs2 := Lib.hid (show okToS s (k + 1) = true from by rw [Hs.out, decide_eq_true hcm]; rfl)
            refine wp_region_quiet_below (by kernel_rfl) (by kernel_rfl) ?_
            repeat (go_big_quiet_step (first | with_reducible exact callsReg K1.out | with_reducible exact callsReg K2.out))
            refine wpQuiet_nil ?_
            intro _ hw'
            obtain ⟨⟨dq, oq⟩, hw''⟩ := hw'
            subst hw''
            go_wp2
            go_roundw
            case rel => exact ⟨k + 1, _, rfl, by omega, by go_num, Hs2.out, hb1.trans (bel_regrown _ _ _)⟩
            case measure => simp [intOf]; omega
          · have hcd : decide (0 ≤ z) = true := decide_eq_true (by omega)
            have Hb := Lib.hid (okToS_bad (s := s) hlt (by
              have := okToS_succ s k
              rw [hp.out, Bool.true_and] at this
              rw [← this, Hs.out, decide_eq_false hcm]; rfl))
            refine wp_region_quiet_below (by kernel_rfl) (by kernel_rfl) ?_
            repeat (go_big_quiet_step (first | with_reducible exact callsReg K1.out | with_reducible exact callsReg K2.out))
            refine wpQuiet_nil ?_
            intro _ hw'
            obtain ⟨⟨dq, oq⟩, hw''⟩ := hw'
            subst hw''
            go_wp2
            go_ret
            exact ⟨by rw [Hb.out]; rfl, hb1.trans (bel_regrown _ _ _)⟩
        · have Hs := Lib.hid (show okToS s (k + 1) = true from by rw [okToS_succ, hp.out, okAtS_first hlt hk0, HX.out, hr]; rfl)
          have hd : decide (0 < (k : Int)) = false := decide_eq_false (by omega)
          clear hr
          refine wp_region_quiet_below (by kernel_rfl) (by kernel_rfl) ?_
          repeat (go_big_quiet_step (first | with_reducible exact callsReg K1.out))
          refine wpQuiet_nil ?_
          intro _ hw'
          obtain ⟨⟨dq, oq⟩, hw''⟩ := hw'
          subst hw''
          go_wp2
          go_roundw
          case rel => exact ⟨k + 1, _, rfl, by omega, by go_num, Hs.out, hb1.trans (bel_regrown _ _ _)⟩
          case measure => simp [intOf]; omega
    · obtain rfl : k = s.length := by omega
      go_wp2
      go_ret
      exact ⟨by rw [show rightS s = true from hp.out]; rfl, hb⟩
set_option maxRecDepth 100000 in
set_option maxHeartbeats 8000000 in
theorem refRightSem_c (S : Nat → Prop) (A : Option Addr) (c : Nat) (s : SemS) (w : World) (h : Rd linT w S A c s) (n : Nat) (hn : n = s.length) :
    Calls Tryz.prog 67 #[.slice A n c] w fun e w' => e = .returned (.bool (rightS s)) ∧ Bel w w' := by
  subst hn
  have lm := h.lenMax
  go_enter Tryz.func67, Tryz.ntmps67
  go_wp2
  go_loopw [7] (fun v wr => ∃ (k : Nat) (W : World), W = wr ∧ k ≤ s.length ∧ v = .int .i64 k ∧ Hid (okToS s k = true) ∧ Bel w W) (fun v _ => s.length - (intOf v).toNat)
  case atStart => exact ⟨0, _, rfl, Nat.zero_le _, rfl, rfl, Bel.refl _⟩
  case round =>
    obtain ⟨k, W, rfl, hk, rfl, hp, hb⟩ := hrel
    by_cases hlt : k < s.length
    · obtain ⟨ad, A0, c0, A1, c1, rfl, h0, h1, r0, r1⟩ := (h.to hb).lrow hlt
      obtain ⟨x, hx⟩ : ∃ x, s[k] = x := ⟨_, rfl⟩
      rw [hx] at h0 h1 r0 r1
      have HX := Lib.hid hx
      have hal : Bel W (W.alloc (.cells #[.slice A0 x.1.length c0, .slice A1 x.2.length c1] 30)) := (Bel.refl _).alloc _
      have T := Box.new W 30 (.slice A0 x.1.length c0) (.slice A1 x.2.length c1)
      clear hx
      go_wp2_with fail
      clear h0 h1
      have hb1 := hb.trans hal
      replace r0 := r0.to hal
      replace r1 := r1.to hal
      generalize W.alloc (.cells #[.slice A0 x.1.length c0, .slice A1 x.2.length c1] 30) = W1 at *
      generalize W.heap.size = g at *
      obtain ⟨t0, t1, _, _⟩ := T.cells
      have T0 := cellReg t0
      have T1 := cellReg t1
      clear t0 t1
      cases hr : rightL x with
      | false =>
        have Hb := Lib.hid (okToS_bad hlt (by
          by_cases h0 : 0 < k
          · rw [okAtS_next hlt h0, HX.out, hr]; rfl
          · rw [okAtS_first hlt h0, HX.out, hr]))
        have K1 := Lib.hid (show ∀ W', Bel W1 W' → Calls Tryz.prog 86 #[.agg #[.slice A0 x.1.length c0, .slice A1 x.2.length c1]] W' fun e w' => e = .returned (.bool false) ∧ Bel W' w' from fun W' h => by
          have := refRightLin_c _ _ _ _ _ _ x.1 x.2 W' (r0.to h) (r1.to h) _ _ rfl rfl
          rw [show ((x.1, x.2) : Lin) = x from rfl, hr] at this
          exact this)
        clear hr
        refine wp_region_quiet_below (by kernel_rfl) (by kernel_rfl) ?_
        repeat (go_big_quiet_step (first | with_reducible exact callsReg K1.out))
        refine wpQuiet_nil ?_
        intro _ hw'
        obtain ⟨⟨dq, oq⟩, hw''⟩ := hw'
        subst hw''
        go_wp2_with fail
        go_ret
        exact ⟨by rw [Hb.out]; rfl, hb1.trans (bel_regrown _ _ _)⟩
      | true =>
        have K1 := Lib.hid (show ∀ W', Bel W1 W' → Calls Tryz.prog 86 #[.agg #[.slice A0 x.1.length c0, .slice A1 x.2.length c1]] W' fun e w' => e = .returned (.bool true) ∧ Bel W' w' from fun W' h => by
          have := refRightLin_c _ _ _ _ _ _ x.1 x.2 W' (r0.to h) (r1.to h) _ _ rfl rfl
          rw [show ((x.1, x.2) : Lin) = x from rfl, hr] at this
          exact this)
        by_cases hk0 : 0 < k
        · obtain ⟨ad', B0, d0, B1, d1, e', g0, g1, q0, q1⟩ := (h.to hb1).lrow (k := k - 1) (by omega)
          injection e' with e'
          subst e'
          obtain ⟨y, hy⟩ : ∃ y, s[k - 1] = y := ⟨_, rfl⟩
          rw [hy] at g0 g1 q0 q1
          have hs := okToS_succ s k
          rw [hp.out, okAtS_next hlt hk0, HX.out, hr, hy] at hs
          have HY := Lib.hid hy
          have G0 := cellReg g0
          have G1 := cellReg g1
          have hd : decide (0 < (k : Int)) = true := decide_eq_true (by omega)
          have hw : IntKind.i64.wrap ((k : Int) - 1) = ((k - 1 : Nat) : Int) := by rw [IntKind.wrap_i64]; omega
          obtain ⟨z, hz⟩ : ∃ z, cmpLin y x = z := ⟨_, rfl⟩
          have K2 := Lib.hid (show ∀ W', Bel W1 W' → Calls Tryz.prog 87 #[.agg #[.slice B0 y.1.length d0, .slice B1 y.2.length d1], .agg #[.slice A0 x.1.length c0, .slice A1 x.2.length c1]] W' fun e w' => e = .returned (.int .i64 z) ∧ Bel W' w' from fun W' h => by
            have := refCompareLin_c _ _ _ _ _ _ _ _ _ _ _ _ y x W' (q0.to h) (q1.to h) (r0.to h) (r1.to h) _ _ _ _ rfl rfl rfl rfl
            rw [hz] at this
            exact this)
          rw [hz] at hs
          have Hs := Lib.hid hs
          clear hs hy hr hz g0 g1
          by_cases hcm : z < 0
          · have hcd : decide (0 ≤ z) = false := decide_eq_false (by omega)
            have Hs2 := Lib.hid (show okToS s (k + 1) = true from by rw [Hs.out, decide_eq_true hcm]; rfl)
            refine wp_region_quiet_below (by kernel_rfl) (by kernel_rfl) ?_
            repeat (go_big_quiet_step (first | with_reducible exact callsReg K1.out | with_reducible exact callsReg K2.out))
            refine wpQuiet_nil ?_
            intro _ hw'
            obtain ⟨⟨dq, oq⟩, hw''⟩ := hw'
            subst hw''
            go_wp2
            go_roundw
            case rel => exact ⟨k + 1, _, rfl, by omega, by go_num, Hs2.out, hb1.trans (bel_regrown _ _ _)⟩
            case measure => simp [intOf]; omega
          · have hcd : decide (0 ≤ z) = true := decide_eq_true (by omega)
            have Hb := Lib.hid (okToS_bad (s := s) hlt (by
              have := okToS_succ s k
              rw [hp.out, Bool.true_and] at this
              rw [← this, Hs.out, decide_eq_false hcm]; rfl))
            refine wp_region_quiet_below (by kernel_rfl) (by kernel_rfl) ?_
            repeat (go_big_quiet_step (first | with_reducible exact callsReg K1.out | with_reducible exact callsReg K2.out))
            refine wpQuiet_nil ?_
            intro _ hw'
            obtain ⟨⟨dq, oq⟩, hw''⟩ := hw'
            subst hw''
            go_wp2
            go_ret
            exact ⟨by rw [Hb.out]; rfl, hb1.trans (bel_regrown _ _ _)⟩
        · have Hs := Lib.hid (show okToS s (k + 1) = true from by rw [okToS_succ, hp.out, okAtS_first hlt hk0, HX.out, hr]; rfl)
          have hd : decide (0 < (k : Int)) = false := decide_eq_false (by omega)
          clear hr
          refine wp_region_quiet_below (by kernel_rfl) (by kernel_rfl) ?_
          repeat (go_big_quiet_step (first | with_reducible exact callsReg K1.out))
          refine wpQuiet_nil ?_
          intro _ hw'
          obtain ⟨⟨dq, oq⟩, hw''⟩ := hw'
          subst hw''
          go_wp2
          go_roundw
          case rel => exact ⟨k + 1, _, rfl, by omega, by go_num, Hs.out, hb1.trans (bel_regrown _ _ _)⟩
          case measure => simp [intOf]; omega
    · obtain rfl : k = s.length := by omega
      go_wp2
      go_ret
      exact ⟨by rw [show rightS s = true from hp.out]; rfl, hb⟩
end Go.Proofs.YtmdcgekiiopohaaGreat

/- The library: as Grow, the first operations being whichever (hd: in an order in which each waits but for such as stand ahead of it), the others (tl) going one by one behind them. -/
namespace Go.Cb
open Go
def cntL (listed : Array Bool) : List Nat → Nat
  | [] => 0
  | i :: r => cntL listed r + (if listed.getD i false = true then 0 else 1)
theorem cntL_zero {listed : Array Bool} : ∀ {r : List Nat}, cntL listed r = 0 → ∀ i ∈ r, listed.getD i false = true
  | i :: r, h, j, hj => by
    unfold cntL at h
    rcases List.mem_cons.1 hj with rfl | hj
    · by_cases hh : listed.getD j false = true
      · exact hh
      · rw [if_neg hh] at h; omega
    · exact cntL_zero (r := r) (by omega) j hj
theorem cntL_pos {listed : Array Bool} : ∀ {r : List Nat}, cntL listed r ≠ 0 → ∃ i ∈ r, listed.getD i false = false
  | [], h => absurd rfl h
  | i :: r, h => by
    unfold cntL at h
    by_cases hh : listed.getD i false = true
    · rw [if_pos hh] at h
      obtain ⟨j, hj, e⟩ := cntL_pos (r := r) (by omega)
      exact ⟨j, List.mem_cons_of_mem _ hj, e⟩
    · exact ⟨i, by simp, by simpa using hh⟩
theorem cntL_other {listed : Array Bool} {i : Nat} : ∀ {r : List Nat}, i ∉ r → cntL (listed.setIfInBounds i true) r = cntL listed r
  | [], _ => rfl
  | j :: r, h => by
    simp only [List.mem_cons, not_or] at h
    unfold cntL
    rw [cntL_other h.2, getD_set_neF h.1]
theorem cntL_set {listed : Array Bool} {i : Nat} (hs : i < listed.size) (hu : listed.getD i false = false) : ∀ {r : List Nat}, r.Nodup → i ∈ r → cntL (listed.setIfInBounds i true) r + 1 = cntL listed r
  | j :: r, hn, hi => by
    have hn' := List.nodup_cons.1 hn
    unfold cntL
    by_cases e : i = j
    · subst e
      rw [cntL_other hn'.1, getD_set_eq hs, hu]
      simp
    · have := cntL_set hs hu hn'.2 (by rcases List.mem_cons.1 hi with h | h; exact absurd h e; exact h)
      rw [getD_set_neF e]
      omega
theorem cntL_none : ∀ (r : List Nat) (m : Nat), cntL (Array.replicate m false) r = r.length
  | [], _ => rfl
  | i :: r, m => by
    unfold cntL
    rw [cntL_none r m, getD_replicate_false]
    simp
def doneL (hd : List Nat) (m : Nat) : Array Bool := ((List.range m).map fun i => hd.contains i).toArray
theorem doneL_eq {listed : Array Bool} {hd : List Nat} {m : Nat} (hs : listed.size = m) (h1 : ∀ i ∈ hd, listed.getD i false = true) (h2 : ∀ t, t ∉ hd → t < m → listed.getD t true = false) : listed = doneL hd m := by
  have : listed.toList = (List.range m).map fun i => hd.contains i := by
    apply List.ext_getElem
    · simp [hs]
    · intro i hi hi2
      have hi' : i < listed.size := by simpa using hi
      rw [List.getElem_map, List.getElem_range]
      by_cases e : i ∈ hd
      · have := h1 i e
        simp [hi'] at this
        simp [this, e]
      · have := h2 i e (by omega)
        simp [hi'] at this
        simp [this, e]
  unfold doneL
  rw [← this]
def depsL (md : Region.Mode) (ops : Array Oper) : List Nat → List Nat → Bool
  | _, [] => true
  | done, i :: r => ((ops[i]?).map fun o => o.after.all fun e => !Region.binds md e || done.contains e.on).getD false && depsL md ops (i :: done) r
def waitsT (md : Region.Mode) (ops : Array Oper) : Nat → Nat → Nat → Bool
  | 0, t, i => Region.waitsFor md ops t i
  | f + 1, t, i => Region.waitsFor md ops t i || (List.range ops.size).any fun j => Region.waitsFor md ops t j && waitsT md ops f j i
def seqL (md : Region.Mode) (ops : Array Oper) : List Nat → Array Bool → Bool
  | [], listed => (Region.ready md ops listed).isEmpty
  | k :: r, listed => decide (Region.ready md ops listed = [k]) && seqL md ops r (listed.setIfInBounds k true)
def growLB (md : Region.Mode) (ops : Array Oper) (pu hd tl : List Nat) : Bool :=
  (hd.all fun i => decide (i < ops.size)) && decide hd.Nodup && depsL md ops pu hd && (hd.all fun i => !pu.contains i) && decide (tl.length + hd.length + pu.length = ops.size) &&
  ((List.range ops.size).all fun t => pu.contains t || hd.contains t || hd.all fun i => waitsT md ops 3 t i) && seqL md ops tl (doneL (pu ++ hd) ops.size)
/-- A move that waits for nothing, and that may be carried out ahead of all that is not yet done. -/
def pureOp (md : Region.Mode) (ops : Array Oper) (listed : Array Bool) (i : Nat) : Bool :=
  (match ops[i]? with | some o => o.after.isEmpty && o.guard.isNone && (match o.op with | .move _ => true | _ => false) | none => false) && !listed.getD i true && Region.free md ops listed i
def pureB (md : Region.Mode) (ops : Array Oper) : List Nat → Array Bool → Bool
  | [], _ => true
  | i :: r, listed => pureOp md ops listed i && pureB md ops r (listed.setIfInBounds i true)
def pureV (o : Oper) (a : Act) : Value := match o.op with | .move x => a.eval x | _ => undef
def pureA (l : List Oper) : List Nat → Act → Act
  | [], a => a
  | i :: r, a => pureA l r (a.put ((l[i]?).bind (·.dst)) (((l[i]?).map fun o => pureV o a).getD undef))
def setAll : List Nat → Array Bool → Array Bool
  | [], x => x
  | i :: r, x => setAll r (x.setIfInBounds i true)
/-- Nothing but the normal end. -/
def Nrm (Q : Exit → Act → World → Prop) : Exit → Act → World → Prop := fun ex a w => ex = .normal ∧ Q .normal a w
structure LInv (md : Region.Mode) (ops : Array Oper) (pu hd : List Nat) (listed : Array Bool) : Prop where
  size : listed.size = ops.size
  pure_ : ∀ i ∈ pu, listed.getD i false = true
  closed : ∀ j oj, ops[j]? = some oj → listed.getD j false = true → ∀ e ∈ oj.after, Region.binds md e = true → listed.getD e.on false = true
  tail : ∀ t, t ∉ pu → t ∉ hd → t < ops.size → listed.getD t true = false
section
variable {P : Program} {ops : Array Oper} {md : Region.Mode}
theorem LInv.set {pu hd : List Nat} {i : Nat} {listed : Array Bool} (inv : LInv md ops pu hd listed) (hi : i ∈ Region.ready md ops listed) (hin : i ∈ hd) : LInv md ops pu hd (listed.setIfInBounds i true) := by
  obtain ⟨_, oi, hoi, hall⟩ := mem_ready.1 hi
  refine ⟨by simp [inv.size], fun p hp => getD_set_true (inv.pure_ p hp), fun j oj hj hl e he hb => ?_, fun t hp ht ht' => by rw [getD_set_ne true (show i ≠ t from fun e => ht (by rw [← e]; exact hin))]; exact inv.tail t hp ht ht'⟩
  by_cases hij : i = j
  · subst hij
    have : oj = oi := Option.some.inj (hj.symm.trans hoi)
    subst this
    exact getD_set_true (hall e he hb)
  · rw [getD_set_ne false hij] at hl
    exact getD_set_true (inv.closed j oj hj hl e he hb)
theorem waitsT_listed {pu hd : List Nat} {listed : Array Bool} (inv : LInv md ops pu hd listed) : ∀ (f t i : Nat), (∀ o, ops[t]? = some o → ∀ e ∈ o.after, Region.binds md e = true → listed.getD e.on false = true) → waitsT md ops f t i = true → listed.getD i false = true
  | 0, t, i, hd, h => by
    obtain ⟨o, ho, e, he, hb, rfl⟩ := Region.waitsFor_spec h
    exact hd o ho e he hb
  | f + 1, t, i, hd, h => by
    unfold waitsT at h
    rcases Bool.or_eq_true _ _ |>.mp h with h | h
    · obtain ⟨o, ho, e, he, hb, rfl⟩ := Region.waitsFor_spec h
      exact hd o ho e he hb
    · obtain ⟨j, _, hj⟩ := List.any_eq_true.1 h
      simp only [Bool.and_eq_true] at hj
      obtain ⟨o, ho, e, he, hb, hon⟩ := Region.waitsFor_spec hj.1
      have hl := hd o ho e he hb
      rw [hon] at hl
      exact waitsT_listed inv f j i (fun oj hoj e he hb => inv.closed j oj hoj hl e he hb) hj.2
theorem depsL_first {listed : Array Bool} : ∀ {r done : List Nat}, depsL md ops done r = true → (∀ d ∈ done, listed.getD d false = true) → (∃ i ∈ r, listed.getD i false = false) →
    ∃ i ∈ r, listed.getD i false = false ∧ ∃ o, ops[i]? = some o ∧ ∀ e ∈ o.after, Region.binds md e = true → listed.getD e.on false = true
  | [], _, _, _, ⟨i, hi, _⟩ => by simp at hi
  | i :: r, done, h, hd, hx => by
    unfold depsL at h
    simp only [Bool.and_eq_true] at h
    cases hl : listed.getD i false with
    | false =>
      refine ⟨i, by simp, hl, ?_⟩
      cases ho : ops[i]? with
      | none => rw [ho] at h; simp at h
      | some o =>
        refine ⟨o, rfl, fun e he hb => ?_⟩
        rw [ho] at h
        simp only [Option.map_some, Option.getD_some] at h
        have h2 := Array.all_eq_true'.1 h.1 e he
        simp only [Bool.or_eq_true, Bool.not_eq_true'] at h2
        rcases h2 with h2 | h2
        · rw [h2] at hb; cases hb
        · exact hd _ (by simpa using h2)
    | true =>
      obtain ⟨j, hj, hjl⟩ := hx
      have hj2 : j ∈ r := by
        rcases List.mem_cons.1 hj with rfl | hj
        · rw [hl] at hjl; cases hjl
        · exact hj
      obtain ⟨k, hk, rest⟩ := depsL_first (r := r) (done := i :: done) h.2 (fun d hd2 => by
        rcases List.mem_cons.1 hd2 with rfl | h3
        · exact hl
        · exact hd d h3) ⟨j, hj2, hjl⟩
      exact ⟨k, List.mem_cons_of_mem _ hk, rest⟩
theorem depsL_mem : ∀ {r done : List Nat}, depsL md ops done r = true → ∀ i ∈ r, ∀ k, Region.waitsFor md ops i k = true → k ∈ done ∨ k ∈ r
  | [], _, _, i, hi, _, _ => by simp at hi
  | i :: r, done, h, j, hj, k, hk => by
    unfold depsL at h
    simp only [Bool.and_eq_true] at h
    rcases List.mem_cons.1 hj with rfl | hj
    · obtain ⟨o, ho, e, he, hb, rfl⟩ := Region.waitsFor_spec hk
      rw [ho] at h
      simp only [Option.map_some, Option.getD_some] at h
      have h2 := Array.all_eq_true'.1 h.1 e he
      simp only [Bool.or_eq_true, Bool.not_eq_true'] at h2
      rcases h2 with h2 | h2
      · rw [h2] at hb; cases hb
      · exact .inl (by simpa using h2)
    · rcases depsL_mem h.2 j hj k hk with h3 | h3
      · rcases List.mem_cons.1 h3 with rfl | h3
        · exact .inr (by simp)
        · exact .inl h3
      · exact .inr (List.mem_cons_of_mem _ h3)
theorem wpAny_of_seqL {Q' : Exit → Act → World → Prop} : ∀ (tl : List Nat) (listed : Array Bool) (a : Act) (w : World), (∀ k ∈ tl, k < ops.size) → seqL md ops tl listed = true →
    wpList P ops Q' (tl.filterMap (ops[·]?)) a w → wpAny P md ops Q' tl.length listed a w
  | [], _, _, _, _, hB, h => ⟨by simpa [seqL] using hB, h⟩
  | k :: r, listed, a, w, hl, hB, h => by
    have hk := hl k (by simp)
    have h0 : ops[k]? = some ops[k] := Array.getElem?_eq_getElem hk
    simp only [seqL, Bool.and_eq_true, decide_eq_true_eq] at hB
    rw [List.filterMap_cons, h0] at h
    refine ⟨fun h1 => (by rw [hB.1] at h1; cases h1), fun i hi => ?_⟩
    rw [hB.1] at hi
    have hik : i = k := by simpa using hi
    subst hik
    have hw : wpOp P ops Q' i (wpList P ops Q' (r.filterMap (ops[·]?))) a w := by unfold wpOp; simp only [h0]; exact h
    exact wpOp_mono (fun a' w' h' => wpAny_of_seqL r _ a' w' (fun x hx => hl x (List.mem_cons_of_mem _ hx)) hB.2 h') hw
end
/-- The first operations' slots, whatever they hold. -/
def frL (l : List Oper) : List Nat → Act → (Nat → Value) → Act
  | [], a, _ => a
  | i :: r, a, u => (frL l r a u).put ((l[i]?).bind (·.dst)) (u i)
theorem frL_other {l : List Oper} : ∀ {r : List Nat} {a : Act} {u : Nat → Value} {i : Nat} {v : Value}, i ∉ r → frL l r a (fun k => if k = i then v else u k) = frL l r a u
  | [], _, _, _, _, _ => rfl
  | j :: r, a, u, i, v, h => by
    simp only [List.mem_cons, not_or] at h
    unfold frL
    rw [frL_other h.2]
    simp only [if_neg (Ne.symm h.1)]
theorem frL_put {l : List Oper} : ∀ {r : List Nat} {a : Act} {u : Nat → Value} {i : Nat} {v : Value}, r.Nodup → (∀ p ∈ r, ∀ q ∈ r, p ≠ q → ((l[p]?).bind (·.dst)) ≠ ((l[q]?).bind (·.dst))) → i ∈ r → (frL l r a u).put ((l[i]?).bind (·.dst)) v = frL l r a (fun k => if k = i then v else u k)
  | j :: r, a, u, i, v, hn, hd, hi => by
    have hn' := List.nodup_cons.1 hn
    unfold frL
    by_cases e : i = j
    · subst e
      rw [put_put, frL_other hn'.1]
      simp only [if_true]
    · have hi2 : i ∈ r := by rcases List.mem_cons.1 hi with h | h; exact absurd h e; exact h
      rw [Act.put_comm _ _ _ (fun d h1 h2 => hd j (by simp) i hi (Ne.symm e) (h1.trans h2.symm)), frL_put hn'.2 (fun p hp q hq => hd p (List.mem_cons_of_mem _ hp) q (List.mem_cons_of_mem _ hq)) hi2]
      simp only [if_neg (show ¬ j = i from fun h => e h.symm)]
theorem frL_self {l : List Oper} : ∀ (r : List Nat), r.Nodup → ∀ (a : Act), ∃ u, a = frL l r a u
  | [], _, a => ⟨fun _ => undef, rfl⟩
  | i :: r, hn, a => by
    have hn' := List.nodup_cons.1 hn
    obtain ⟨u, hu⟩ := frL_self (l := l) r hn'.2 a
    obtain ⟨v, hv⟩ := put_self a ((l[i]?).bind (·.dst))
    refine ⟨fun k => if k = i then v else u k, ?_⟩
    unfold frL
    rw [frL_other hn'.1, ← hu]
    simp only [if_true]
    exact hv.symm
def opL (l : List Oper) (i : Nat) : Oper := l[i]?.getD ⟨none, .move (.const undef), 0, "", #[], none⟩
def stepsL (P : Program) (l : List Oper) (hd : List Nat) (w : World) (a : Act) (Φ : List SPred) : List Nat → Prop
  | [] => True
  | i :: r => (∀ (u : Nat → Value) (ρ : Nat → Nat × Nat) w1, Bel w w1 → (∀ k, (hd.contains k && Region.waitsFor .any l.toArray i k) = true → (Φ.getD k SPred.any).φ (u k) (ρ k).1 (ρ k).2 w1) → wpList P l.toArray (growQ (frL l hd a u) (opL l i) w1 (Φ.getD i SPred.any).φ) [opL l i] (frL l hd a u) w1) ∧ stepsL P l hd w a Φ r
theorem stepsL_at {P : Program} {l : List Oper} {hd : List Nat} {w : World} {a : Act} {Φ : List SPred} : ∀ {r : List Nat}, stepsL P l hd w a Φ r → ∀ i ∈ r, ∀ o, l[i]? = some o →
    ∀ (u : Nat → Value) (ρ : Nat → Nat × Nat) w1, Bel w w1 → (∀ k, (hd.contains k && Region.waitsFor .any l.toArray i k) = true → (Φ.getD k SPred.any).φ (u k) (ρ k).1 (ρ k).2 w1) → wpList P l.toArray (growQ (frL l hd a u) o w1 (Φ.getD i SPred.any).φ) [o] (frL l hd a u) w1
  | [], _, i, hi, _, _ => by simp at hi
  | j :: r, h, i, hi, o, ho => by
    rcases List.mem_cons.1 hi with rfl | hi
    · have := h.1
      unfold opL at this
      rw [ho] at this
      exact this
    · exact stepsL_at h.2 i hi o ho
def dstsL (l : List Oper) (hd : List Nat) : Bool := hd.all fun i => hd.all fun j => decide (i = j) || ((l[i]?).bind (·.dst)) != ((l[j]?).bind (·.dst))
theorem wpAny_nrm {P : Program} {ops : Array Oper} {md : Region.Mode} {Q : Exit → Act → World → Prop} : ∀ (f : Nat) (listed : Array Bool) (a : Act) (w : World), wpAny P md ops (Nrm Q) f listed a w → wpAny P md ops Q f listed a w
  | 0, _, _, _, h => ⟨h.1, h.2.2⟩
  | f + 1, listed, a, w, h => ⟨fun h0 => (h.1 h0).2, fun i hi => by
    have h1 := h.2 i hi
    unfold wpOp at *
    split
    · rename_i ho; simp only [ho] at h1; exact wpAny_nrm f _ _ _ h1
    · rename_i o ho
      simp only [ho] at h1
      split
      · rename_i hw
        simp only [hw, if_true] at h1
        rcases h1 with h1 | ⟨_, x, y, hh⟩
        · exact .inl (wp_only (fun _ _ _ h => h.1) (fun a' w' h' => wpAny_nrm f _ a' w' h') h1)
        · exact absurd hh.1 (by simp)
      · rename_i hw; simp only [hw] at h1; exact wpAny_nrm f _ _ _ h1⟩
theorem wpAny_pure {P : Program} {l : List Oper} {md : Region.Mode} {Q : Exit → Act → World → Prop} (hs : Region.noSelect l.toArray = true) : ∀ (pu : List Nat) (f : Nat) (listed : Array Bool) (a : Act) (w : World), pureB md l.toArray pu listed = true →
    wpAny P md l.toArray (Nrm Q) f (setAll pu listed) (pureA l pu a) w → wpAny P md l.toArray (Nrm Q) (pu.length + f) listed a w
  | [], f, listed, a, w, _, h => by rw [List.length_nil, Nat.zero_add]; exact h
  | i :: r, f, listed, a, w, hp, h => by
    simp only [pureB, Bool.and_eq_true] at hp
    obtain ⟨hp1, hp2⟩ := hp
    unfold pureOp at hp1
    simp only [Bool.and_eq_true, Bool.not_eq_true'] at hp1
    obtain ⟨⟨h1, hun⟩, hf⟩ := hp1
    cases ho : l.toArray[i]? with
    | none => rw [ho] at h1; cases h1
    | some o =>
      rw [ho] at h1
      simp only [Bool.and_eq_true] at h1
      obtain ⟨⟨hae, hg⟩, hm⟩ := h1
      have hlo : l[i]? = some o := by simpa using ho
      rw [List.length_cons, show r.length + 1 + f = (r.length + f) + 1 by omega]
      have hready : i ∈ Region.ready md l.toArray listed := mem_ready.2 ⟨hun, o, ho, fun e he _ => by
        have : o.after = #[] := by simpa using hae
        rw [this] at he; simp at he⟩
      have hyield : Yields P l.toArray o (pureV o a) a := by
        refine .inl ⟨by unfold Region.wanted; rw [show o.guard = none by simpa using hg], fun w' => ?_⟩
        have hx : ∃ x, o.op = .move x := by
          cases hop : o.op <;> rw [hop] at hm <;> first | exact ⟨_, rfl⟩ | (simp at hm)
        obtain ⟨x, hop⟩ := hx
        unfold pureV execOp
        rw [hop]
        rfl
      have := wpAny_first (P := P) (md := md) (Q := Nrm Q) ho (Region.noSelect_spec hs) (fun c a' w' hq => absurd hq.1 (by simp)) (r.length + f) listed a w (Region.free_spec ho hf) hready hyield
      refine this ?_
      have ih := wpAny_pure (P := P) (Q := Q) hs r f (listed.setIfInBounds i true) (a.put o.dst (pureV o a)) w hp2
      refine ih ?_
      have h2 := h
      simp only [setAll, pureA, hlo, Option.bind_some, Option.map_some, Option.getD_some] at h2
      exact h2
theorem setAll_size : ∀ (r : List Nat) (x : Array Bool), (setAll r x).size = x.size
  | [], _ => rfl
  | i :: r, x => by unfold setAll; rw [setAll_size r]; simp
theorem setAll_get : ∀ (r : List Nat) (x : Array Bool) (i : Nat), i < x.size → ((setAll r x).getD i false = true ↔ i ∈ r ∨ x.getD i false = true)
  | [], x, i, _ => by simp [setAll]
  | j :: r, x, i, hi => by
    unfold setAll
    rw [setAll_get r _ i (by simpa using hi)]
    by_cases e : j = i
    · subst e; simp [getD_set_eq hi]
    · rw [getD_set_neF e]; simp [Ne.symm e]
/-- **The region**: see the head of this text. -/
theorem wp_region_grow3 {P : Program} {id : Nat} {Q : Exit → Act → World → Prop} {a : Act} {w : World} {l : List Oper} (pu hd tl : List Nat) (hm : P.follows .mixedOrders = true) (hB : growLB .any l.toArray pu hd tl = true) (hP : pureB .any l.toArray pu (Array.replicate l.toArray.size false) = true) (hN : Region.noSelect l.toArray = true) (hD : dstsL l hd = true) (Φ : List SPred)
    (hstep : stepsL P l hd w (pureA l pu a) Φ hd)
    (htail : ∀ (u : Nat → Value) (ρ : Nat → Nat × Nat) w1, Bel w w1 → (∀ k, k ∈ hd → (Φ.getD k SPred.any).φ (u k) (ρ k).1 (ρ k).2 w1 ∧ w.heap.size ≤ (ρ k).1 ∧ (ρ k).1 ≤ (ρ k).2 ∧ (ρ k).2 ≤ w1.heap.size) →
      (∀ i j, i ∈ hd → j ∈ hd → i ≠ j → (ρ i).2 ≤ (ρ j).1 ∨ (ρ j).2 ≤ (ρ i).1) → wpList P l.toArray (Nrm Q) (tl.filterMap (l[·]?)) (frL l hd (pureA l pu a) u) w1) :
    (Code.region id l.toArray true).wp P Q a w := by
  have hdd : ∀ p ∈ hd, ∀ q ∈ hd, p ≠ q → ((l[p]?).bind (·.dst)) ≠ ((l[q]?).bind (·.dst)) := fun p hp q hq hpq => by
    have h1 := List.all_eq_true.1 hD p hp
    have h2 := List.all_eq_true.1 h1 q hq
    simp only [Bool.or_eq_true, decide_eq_true_eq, bne_iff_ne] at h2
    rcases h2 with h2 | h2
    · exact absurd h2 hpq
    · exact h2
  unfold growLB at hB
  simp only [Bool.and_eq_true, decide_eq_true_eq] at hB
  obtain ⟨⟨⟨⟨⟨⟨hlt, hnd⟩, hdp⟩, hdis0⟩, hlen⟩, hwt⟩, hseq⟩ := hB
  have hdis : ∀ i ∈ hd, i ∉ pu := fun i hi hp => by
    have := List.all_eq_true.1 hdis0 i hi
    simp [hp] at this
  have hlt' : ∀ i ∈ hd, i < l.toArray.size := fun i hi => by simpa using List.all_eq_true.1 hlt i hi
  have htl : ∀ k ∈ tl, k < l.toArray.size := by
    have : ∀ (tl : List Nat) (listed : Array Bool), seqL .any l.toArray tl listed = true → ∀ k ∈ tl, k < l.toArray.size := by
      intro tl
      induction tl with
      | nil => intro _ _ k hk; simp at hk
      | cons j r ih =>
        intro listed h k hk
        simp only [seqL, Bool.and_eq_true, decide_eq_true_eq] at h
        rcases List.mem_cons.1 hk with rfl | hk
        · have h2 : k ∈ Region.ready .any l.toArray listed := by rw [h.1]; simp
          obtain ⟨_, o, ho, _⟩ := mem_ready.1 h2
          exact (Array.getElem?_eq_some_iff.1 ho).1
        · exact ih _ h.2 k hk
    exact this tl _ hseq
  have main : ∀ (f : Nat) (listed : Array Bool) (u : Nat → Value) (ρ : Nat → Nat × Nat) (w1 : World), LInv .any l.toArray pu hd listed → cntL listed hd = f → Bel w w1 →
      (∀ k ∈ hd, listed.getD k false = true → (Φ.getD k SPred.any).φ (u k) (ρ k).1 (ρ k).2 w1 ∧ w.heap.size ≤ (ρ k).1 ∧ (ρ k).1 ≤ (ρ k).2 ∧ (ρ k).2 ≤ w1.heap.size) →
      (∀ i j, i ∈ hd → j ∈ hd → listed.getD i false = true → listed.getD j false = true → i ≠ j → (ρ i).2 ≤ (ρ j).1 ∨ (ρ j).2 ≤ (ρ i).1) →
      wpAny P .any l.toArray (Nrm Q) (f + tl.length) listed (frL l hd (pureA l pu a) u) w1 := by
    intro f
    induction f with
    | zero =>
      intro listed u ρ w1 inv hcnt hb hΦ hdj
      have hall := cntL_zero hcnt
      have hle := doneL_eq (hd := pu ++ hd) inv.size (fun i hi => by
        rcases List.mem_append.1 hi with h | h
        · exact inv.pure_ i h
        · exact hall i h) (fun t ht => inv.tail t (fun h => ht (List.mem_append_left _ h)) (fun h => ht (List.mem_append_right _ h)))
      have := wpAny_of_seqL (P := P) (md := .any) (ops := l.toArray) (Q' := Nrm Q) tl listed (frL l hd (pureA l pu a) u) w1 htl (by rw [hle]; exact hseq)
        (by
          have := htail u ρ w1 hb (fun k hk => hΦ k hk (hall k hk)) (fun i j hi hj hij => hdj i j hi hj (hall i hi) (hall j hj) hij)
          simpa using this)
      rwa [Nat.zero_add]
    | succ f ih =>
      intro listed u ρ w1 inv hcnt hb hΦ hdj
      have hun0 := cntL_pos (listed := listed) (r := hd) (by omega)
      have hsz := inv.size
      rw [show f + 1 + tl.length = (f + tl.length) + 1 by omega]
      refine ⟨fun h => ?_, fun i hi => ?_⟩
      · exfalso
        obtain ⟨i, hi, hl, o, ho, hall⟩ := depsL_first hdp (fun d h => inv.pure_ d h) hun0
        have : i ∈ Region.ready .any l.toArray listed := mem_ready.2 ⟨getD_in (by have := hlt' i hi; omega) hl, o, ho, hall⟩
        rw [h] at this
        cases this
      · obtain ⟨hun, o, ho, hall⟩ := mem_ready.1 hi
        have hin : i ∈ hd := by
          cases hc : hd.contains i with
          | true => simpa using hc
          | false =>
            exfalso
            have h1 := List.all_eq_true.1 hwt i (List.mem_range.2 (Array.getElem?_eq_some_iff.1 ho).1)
            have hnp : pu.contains i = false := by
              cases hpc : pu.contains i with
              | false => rfl
              | true =>
                have h9 := inv.pure_ i (by simpa using hpc)
                rw [getD_both hun] at h9; cases h9
            rw [hc, hnp, Bool.false_or, Bool.false_or] at h1
            obtain ⟨j, hj, hjl⟩ := hun0
            have h2 := List.all_eq_true.1 h1 j hj
            have h3 := waitsT_listed inv 3 i j (fun o' ho' e he hb => by
              have : o' = o := Option.some.inj (ho'.symm.trans ho)
              subst this
              exact hall e he hb) h2
            rw [h3] at hjl; cases hjl
        have hlo : l[i]? = some o := by simpa using ho
        refine wpOp_only ho (fun _ _ _ h => h.1) ?_ (stepsL_at hstep i hin o hlo u ρ w1 hb (fun k hk => ?_))
        · rintro a' w2 ⟨_, v, rfl, hb2, hv⟩
          have hput := frL_put (a := pureA l pu a) (u := u) (v := v) hnd hdd hin
          rw [hlo] at hput
          have hput2 : (frL l hd (pureA l pu a) u).put o.dst v = frL l hd (pureA l pu a) (fun k => if k = i then v else u k) := hput
          rw [hput2]
          have hcs := cntL_set (listed := listed) (i := i) (by have := hlt' i hin; omega) (getD_both hun) hnd hin
          refine ih _ _ (fun k => if k = i then (w1.heap.size, w2.heap.size) else ρ k) w2 (inv.set hi hin) (by omega) (hb.trans hb2) (fun k hk hlk => ?_) (fun p q hp hq hlp hlq hpq => ?_)
          · by_cases e : k = i
            · subst e
              simp only [if_true]
              exact ⟨hv, hb.size, hb2.size, Nat.le_refl _⟩
            · simp only [if_neg e]
              rw [getD_set_neF (Ne.symm e)] at hlk
              obtain ⟨h1, h2, h3, h4⟩ := hΦ k hk hlk
              exact ⟨(Φ.getD k SPred.any).st _ _ _ _ _ h1 hb2, h2, h3, Nat.le_trans h4 hb2.size⟩
          · by_cases e1 : p = i
            · subst e1
              have e2 : q ≠ p := Ne.symm hpq
              simp only [if_true, if_neg e2]
              rw [getD_set_neF (Ne.symm e2)] at hlq
              exact .inr (hΦ q hq hlq).2.2.2
            · by_cases e2 : q = i
              · subst e2
                simp only [if_true, if_neg e1]
                rw [getD_set_neF (Ne.symm e1)] at hlp
                exact .inl (hΦ p hp hlp).2.2.2
              · simp only [if_neg e1, if_neg e2]
                rw [getD_set_neF (Ne.symm e1)] at hlp
                rw [getD_set_neF (Ne.symm e2)] at hlq
                exact hdj p q hp hq hlp hlq hpq
        · simp only [Bool.and_eq_true] at hk
          obtain ⟨hkh0, hk⟩ := hk
          have hkl : listed.getD k false = true := by
            obtain ⟨o', ho', e, he, hb', hon⟩ := Region.waitsFor_spec hk
            have : o' = o := Option.some.inj (ho'.symm.trans ho)
            subst this
            have h1 := hall e he hb'
            rw [hon] at h1
            exact h1
          exact (hΦ k (by simpa using hkh0) hkl).1
  refine wp_region_any hm ?_
  refine wpAny_nrm _ _ _ _ ?_
  obtain ⟨u0, hu0⟩ := frL_self (l := l) hd hnd (pureA l pu a)
  have hbase : ∀ j, (Array.replicate l.toArray.size false).getD j false = false := getD_replicate_false _
  have hafter : ∀ (r : List Nat) (x : Array Bool), pureB .any l.toArray r x = true → ∀ i ∈ r, ∀ o, l.toArray[i]? = some o → o.after = #[] := by
    intro r
    induction r with
    | nil => intro _ _ i hi; simp at hi
    | cons p r ih =>
      intro x hx i hi o ho
      simp only [pureB, Bool.and_eq_true] at hx
      rcases List.mem_cons.1 hi with rfl | hi
      · have h1 := hx.1
        unfold pureOp at h1
        rw [ho] at h1
        simp only [Bool.and_eq_true] at h1
        simpa using h1.1.1.1.1
      · exact ih _ hx.2 i hi o ho
  have hsz1 : (setAll pu (Array.replicate l.toArray.size false)).size = l.toArray.size := by rw [setAll_size]; simp
  have hget : ∀ i, i < l.toArray.size → ((setAll pu (Array.replicate l.toArray.size false)).getD i false = true ↔ i ∈ pu) := fun i hi => by
    rw [setAll_get pu _ i (by simpa using hi), hbase]; simp
  have hpul : ∀ (r : List Nat) (x : Array Bool), pureB .any l.toArray r x = true → ∀ i ∈ r, i < l.toArray.size := by
    intro r
    induction r with
    | nil => intro _ _ i hi; simp at hi
    | cons p r ih =>
      intro x hx i hi
      simp only [pureB, Bool.and_eq_true] at hx
      rcases List.mem_cons.1 hi with rfl | hi
      · have h1 := hx.1
        unfold pureOp at h1
        cases ho : l.toArray[i]? with
        | none => rw [ho] at h1; simp at h1
        | some o => exact (Array.getElem?_eq_some_iff.1 ho).1
      · exact ih _ hx.2 i hi
  have inv0 : LInv .any l.toArray pu hd (setAll pu (Array.replicate l.toArray.size false)) := by
    refine ⟨hsz1, fun i hi => (hget i (hpul pu _ hP i hi)).2 hi, fun j oj hoj hl e he _ => ?_, fun t hp _ ht => ?_⟩
    · have hj := (hget j (Array.getElem?_eq_some_iff.1 hoj).1).1 hl
      rw [hafter pu _ hP j hj oj hoj] at he
      simp at he
    · refine getD_in (by rw [hsz1]; exact ht) ?_
      cases hc : (setAll pu (Array.replicate l.toArray.size false)).getD t false with
      | false => rfl
      | true => exact absurd ((hget t ht).1 hc) hp
  have hun : ∀ i ∈ hd, (setAll pu (Array.replicate l.toArray.size false)).getD i false = false := fun i hi => by
    cases hc : (setAll pu (Array.replicate l.toArray.size false)).getD i false with
    | false => rfl
    | true => exact absurd ((hget i (hlt' i hi)).1 hc) (hdis i hi)
  have hcnt : ∀ r : List Nat, (∀ i ∈ r, i ∈ hd) → cntL (setAll pu (Array.replicate l.toArray.size false)) r = r.length := by
    intro r
    induction r with
    | nil => intro _; rfl
    | cons p r ih =>
      intro h
      unfold cntL
      rw [ih (fun i hi => h i (List.mem_cons_of_mem _ hi)), hun p (h p (by simp))]
      simp
  have := main hd.length (setAll pu (Array.replicate l.toArray.size false)) u0 (fun _ => (0, 0)) { w with drawn := w.drawn + 1 } inv0 (hcnt hd (fun _ h => h)) (Bel.refl w).drew
    (fun k hk h => by rw [hun k hk] at h; cases h) (fun i j hi _ h => by rw [hun i hi] at h; cases h)
  rw [← hu0] at this
  have h3 := wpAny_pure hN pu (hd.length + tl.length) _ a _ hP this
  rwa [show pu.length + (hd.length + tl.length) = l.toArray.size by omega] at h3
end Go.Cb

/- The library: parts of a row of the call's own. -/
namespace Go.Cb
open Go.RowKit
section
variable {α : Type} {d : Ty α} {e : TypeId} {w : World} {base g n c : Nat} {S : Nat → Prop} {xs : List α}
theorem Own.sub (h : Own d e w base S (.slice (some ⟨g, 0, none⟩) n c) xs) (hn : n = xs.length) {j : Nat} (hj : j ≤ n) :
    ∃ news : List Value, news.length = (xs.drop j).length * d.sz ∧ (∀ i u, news[i]? = some u → w.cell? ⟨g, j * d.sz + i, none⟩ = some u) ∧ (∀ u ∈ news, u.oneCell' = true) ∧
      ∀ i x, (xs.drop j)[i]? = some x → d.rd w (fun k => S k ∧ k ≠ g) x ((news.drop (i * d.sz)).take d.sz) := by
  subst hn
  obtain ⟨inner, ho, hr⟩ := h
  have hil : inner.length = xs.length * d.sz := ho.1
  have hrd : ∀ i x, (xs.drop j)[i]? = some x → d.rd w (fun k => S k ∧ k ≠ g) x (((inner.drop (j * d.sz)).drop (i * d.sz)).take d.sz) := fun i x hx => by
    rw [List.getElem?_drop] at hx
    have := hr (j + i) x hx
    rw [List.drop_drop, ← Nat.add_mul]
    exact d.mono (fun k hk => ⟨hk.1, fun e => hk.2 (by rw [e]; rfl)⟩) this
  refine ⟨inner.drop (j * d.sz), by rw [List.length_drop, List.length_drop, hil, Nat.sub_mul], fun i u hu => ?_, fun u hu => ?_, hrd⟩
  · rw [List.getElem?_drop] at hu
    have := ho.cells (g := g) rfl _ _ hu
    rwa [add_plain] at this
  · obtain ⟨i, hi, rfl⟩ := List.getElem_of_mem hu
    have hp := d.pos
    rw [List.length_drop, hil, ← Nat.sub_mul] at hi
    have hq : i / d.sz < (xs.drop j).length := by rw [List.length_drop]; exact Nat.div_lt_of_lt_mul (by rwa [Nat.mul_comm] at hi)
    have h1 := hrd (i / d.sz) _ (List.getElem?_eq_getElem hq)
    refine d.one h1 _ ?_
    have h2 : (((inner.drop (j * d.sz)).drop (i / d.sz * d.sz)).take d.sz)[i % d.sz]? = some ((inner.drop (j * d.sz))[i]) := by
      have e9 : i / d.sz * d.sz + i % d.sz = i := by rw [Nat.mul_comm]; exact Nat.div_add_mod _ _
      rw [List.getElem?_take, if_pos (Nat.mod_lt _ hp), List.getElem?_drop, e9]
      exact List.getElem?_eq_getElem _
    exact List.mem_of_getElem? h2
theorem Own.pre {A : Option Addr} (h : Own d e w base S (.slice A n c) xs) {i : Nat} (hi : i ≤ xs.length) : Own d e w base S (.slice A i c) (xs.take i) := by
  obtain ⟨A', c', he, _⟩ := h.rd
  injection he with e1 e2 e3
  subst e1 e2 e3
  rcases Nat.eq_zero_or_pos xs.length with h0 | h0
  · have : xs = [] := List.eq_nil_of_length_eq_zero h0
    subst this
    obtain rfl : i = 0 := by simpa using hi
    exact h
  · obtain ⟨g, rfl, _, _⟩ := h.addr h0
    exact h.prefix_ rfl hi
end
section
variable {P : Program} {ops : Array Oper} {rest : List Oper} {o : Oper} {a : Act} {Q : Exit → Act → World → Prop}
/-- append(nil, row[j:]...): a row of the call's own, copied from j on: its elements lie outside of the row that they are copied from. -/
theorem wp_append_sub {α : Type} (d : Ty α) {w0 W : World} (t e : TypeId) (z : Value) (bytes : Nat) (hgd : o.guard = none) (s x : Operand)
    (ho : o.op = .call { callee := .builtin .append, args := #[s, x], argTypes := #[t, t] })
    (ht : P.underlying t = some (.slice e)) (hinfo : (P.info? e).map (fun i => (i.zero, i.size, i.bytes)) = some (some z, d.sz, bytes)) (hz : z.cells.size = d.sz)
    {base g c : Nat} {S : Nat → Prop} {xs : List α} (j : Nat) (hj : j ≤ xs.length) (n' c' : Nat) (hs : a.eval s = .slice none 0 0) (hx : a.eval x = .slice (some ⟨g, j * d.sz, none⟩) n' c') (hn : n' = (xs.drop j).length)
    (HO : Own d e W base S (.slice (some ⟨g, 0, none⟩) xs.length c) xs) (HB : Bel w0 W) (hl : xs.length ≤ maxLen) (hl2 : xs.length * bytes ≤ 140737488355328)
    (h : ∀ v1 w1, Own d e w1 w0.heap.size (fun k => S k ∧ k ≠ g) v1 (xs.drop j) → Bel w0 w1 → W.grownBy w1 none → wpList P ops Q rest (a.put o.dst v1) w1) :
    wpList P ops Q (o :: rest) a W := by
  subst hn
  refine wpList_plain hgd fun K hK => ?_
  obtain ⟨news, h1, h2, h3, h4⟩ := HO.sub rfl hj
  have hle : (xs.drop j).length ≤ xs.length := by rw [List.length_drop]; omega
  obtain ⟨v1, w1, hr, k2, k3, k4, k5⟩ := run_appendC (P := P) d o.type t e z bytes ht hinfo hz (w0 := w0) (W := W) (fun k => S k ∧ k ≠ g) (.slice none 0 0) [] (xs.drop j) ⟨g, j * d.sz, none⟩ c' news (Own.nil _ _ _ _ _) h1
    (fun i u hu => by
      have := h2 i u hu
      have e1 : (⟨g, j * d.sz, none⟩ : Addr).add i = ⟨g, j * d.sz + i, none⟩ := by unfold Addr.add; split <;> simp_all
      rw [e1]; exact this) h3 (fun i x hx => d.mono (fun k hk => ⟨hk, fun e => absurd (show some k = none from e) (by simp)⟩) (h4 i x hx)) HB (by simp only [List.length_nil]; omega)
      (by simp only [List.length_nil, Nat.zero_add]; exact Nat.le_trans (Nat.mul_le_mul_right _ hle) hl2)
  unfold Oper.wp execOp
  simp only [ho, resolve, invoke, builtin, Sem.run_bind, Sem.run_pure, Result.andThen_ok, List.map_toArray, List.map_cons, List.map_nil, hs, hx, hr]
  exact hK _ _ (h v1 w1 (by simpa using k2) k3 k4)
end
/-- A linear set whose blocks were made from b on. -/
def SPred.linB (b : Nat) (l : List Int × List (List Int)) : SPred :=
  ⟨fun v _ hi w => ∃ A0 c0 A1 c1, v = .agg #[.slice A0 l.1.length c0, .slice A1 l.2.length c1] ∧ RdW w (fun k => b ≤ k ∧ k < hi) A0 c0 l.1 ∧ Rd wbT w (fun k => b ≤ k ∧ k < hi) A1 c1 l.2,
    fun _ _ _ _ _ ⟨A0, c0, A1, c1, e, h0, h1⟩ hb => ⟨A0, c0, A1, c1, e, h0.to hb, h1.to hb⟩⟩
/-- .. read alone. -/
def SPred.linR (b : Nat) (l : List Int × List (List Int)) : SPred :=
  ⟨fun v _ hi w => ∃ A0 c0 A1 c1, v = .agg #[.slice A0 l.1.length c0, .slice A1 l.2.length c1] ∧ Rd intT w (fun k => b ≤ k ∧ k < hi) A0 c0 l.1 ∧ Rd bagT w (fun k => b ≤ k ∧ k < hi) A1 c1 l.2,
    fun _ _ _ _ _ ⟨A0, c0, A1, c1, e, h0, h1⟩ hb => ⟨A0, c0, A1, c1, e, h0.to hb, h1.to hb⟩⟩
/-- A row of one linear set. -/
def SPred.litR (b : Nat) (t : TypeId) (l : List Int × List (List Int)) : SPred :=
  ⟨fun v lo hi w => v = .slice (some ⟨lo, 0, none⟩) 1 1 ∧ b ≤ lo ∧ lo < hi ∧ ∃ A0 c0 A1 c1, w.heap[lo]? = some (.cells #[.slice A0 l.1.length c0, .slice A1 l.2.length c1] t (0, 0)) ∧ Rd intT w (fun k => b ≤ k ∧ k < lo) A0 c0 l.1 ∧ Rd bagT w (fun k => b ≤ k ∧ k < lo) A1 c1 l.2,
    fun _ _ _ _ _ ⟨e, h1, h2, A0, c0, A1, c1, h3, h4, h5⟩ hb => ⟨e, h1, h2, A0, c0, A1, c1, (hb.block (blk_lt h3)).trans h3, h4.to hb, h5.to hb⟩⟩
theorem SPred.litR_rd {b : Nat} {t : TypeId} {l : List Int × List (List Int)} {v : Value} {lo hi : Nat} {w : World} (h : (SPred.litR b t l).φ v lo hi w) :
    v = .slice (some ⟨lo, 0, none⟩) 1 1 ∧ b ≤ lo ∧ lo < w.heap.size ∧ Rd linT w (fun k => b ≤ k ∧ k < lo + 1) (some ⟨lo, 0, none⟩) 1 [l] := by
  obtain ⟨e, h1, h2, A0, c0, A1, c1, h3, h4, h5⟩ := h
  refine ⟨e, h1, blk_lt h3, by simp, by decide, fun j x hj => ?_⟩
  rcases j with _ | j
  · obtain rfl : l = x := by simpa using hj
    refine ⟨_, [.slice A0 l.1.length c0, .slice A1 l.2.length c1], rfl, ⟨h1, Nat.lt_succ_self _⟩, lin_mk (h4.mono (fun k hk => ⟨hk.1, by omega⟩)) (h5.mono (fun k hk => ⟨hk.1, by omega⟩)), fun i u hu => ?_⟩
    rw [add_plain, cellAt h3, show 0 * linT.sz + i = i by omega]
    rcases i with _ | _ | i
    · exact hu
    · exact hu
    · simp at hu
  · simp at hj
end Go.Cb

/- Walks: semilinear sets alike; the document's, made. -/
namespace Go.Proofs.YtmdcgekiiopohaaGreat
open Go.RowKit Go.Cb Go.Sort
theorem refOneS_c (w : World) : Calls Tryz.prog 33 #[] w fun e w' => ∃ A c, e = .returned (.slice A 1 c) ∧ Rd linT w' (Ge w.heap.size) A c [([], [])] ∧ Rd wlinT w' (Ge w.heap.size) A c [([], [])] ∧ Bel w w' := by
  have hc := heap_alloc_new w (.cells #[.slice none 0 0, .slice none 0 0] 30)
  have hw : Rd wlinT (w.alloc (.cells #[.slice none 0 0, .slice none 0 0] 30)) (Ge w.heap.size) (some ⟨w.heap.size, 0, none⟩) 1 [([], [])] := by
    refine ⟨by simp, by decide, fun j x hj => ?_⟩
    rcases j with _ | j
    · obtain rfl : (([], []) : Lin) = x := by simpa using hj
      refine ⟨_, [.slice none 0 0, .slice none 0 0], rfl, Nat.le_refl _, ⟨[.slice none 0 0], [.slice none 0 0], rfl, ⟨none, 0, rfl, RdW.nil _ _ _ _ (by decide)⟩, ⟨none, 0, rfl, Rd.nil _ _ _ _ _ (by decide)⟩⟩, fun i u hu => ?_⟩
      rw [add_plain, cellAt hc, show 0 * wlinT.sz + i = i by omega]
      rcases i with _ | _ | i
      · exact hu
      · exact hu
      · simp at hu
    · simp at hj
  have hr : Rd linT (w.alloc (.cells #[.slice none 0 0, .slice none 0 0] 30)) (Ge w.heap.size) (some ⟨w.heap.size, 0, none⟩) 1 [([], [])] := hw.as rfl (fun _ _ _ => wlin_lin)
  go_enter Tryz.func33, Tryz.ntmps33
  go_wp2
  go_ret
  exact ⟨_, _, rfl, hr, hw, (Bel.refl _).alloc _⟩
end Go.Proofs.YtmdcgekiiopohaaGreat

/- Walks: the document's semilinear sets, made. -/
namespace Go.Cb
open Go.RowKit
theorem Own.lrow {e : TypeId} {w : World} {base n c : Nat} {A : Option Addr} {S : Nat → Prop} {xs : List (List Int × List (List Int))} (h : Own linT e w base S (.slice A n c) xs) {k : Nat} (hk : k < xs.length) :
    ∃ g A0 c0 A1 c1, A = some ⟨g, 0, none⟩ ∧ base ≤ g ∧ g < w.heap.size ∧ w.cell? ⟨g, k * 2, none⟩ = some (.slice A0 xs[k].1.length c0) ∧ w.cell? ⟨g, k * 2 + 1, none⟩ = some (.slice A1 xs[k].2.length c1) ∧ Rd intT w (fun k => S k ∧ k ≠ g) A0 c0 xs[k].1 ∧ Rd bagT w (fun k => S k ∧ k ≠ g) A1 c1 xs[k].2 := by
  obtain ⟨A', c', he, _⟩ := h.rd
  injection he with e1 e2 e3
  subst e1 e2 e3
  obtain ⟨g, rfl, hg1, hg2⟩ := h.addr (by omega)
  obtain ⟨inner, ho, hr⟩ := h
  have hil : inner.length = xs.length * 2 := ho.1
  obtain ⟨A0, c0, A1, c1, hcs, r0, r1⟩ := lin_rd (hr k xs[k] (List.getElem?_eq_getElem hk))
  have h1 : (inner.drop (k * 2)).take 2 = [.slice A0 xs[k].1.length c0, .slice A1 xs[k].2.length c1] := hcs
  have g0 : inner[k * 2 + 0]? = some (.slice A0 xs[k].1.length c0) := by
    have : ((inner.drop (k * 2)).take 2)[0]? = some (.slice A0 xs[k].1.length c0) := by rw [h1]; rfl
    rwa [List.getElem?_take, if_pos (by omega), List.getElem?_drop] at this
  have g1 : inner[k * 2 + 1]? = some (.slice A1 xs[k].2.length c1) := by
    have : ((inner.drop (k * 2)).take 2)[1]? = some (.slice A1 xs[k].2.length c1) := by rw [h1]; rfl
    rwa [List.getElem?_take, if_pos (by omega), List.getElem?_drop] at this
  have f0 := ho.cells (g := g) rfl _ _ g0
  have f1 := ho.cells (g := g) rfl _ _ g1
  rw [add_plain] at f0 f1
  exact ⟨g, A0, c0, A1, c1, rfl, hg1, hg2, f0, f1, r0.mono (fun q hq => ⟨hq.1, fun e => hq.2 (by rw [e]; rfl)⟩), r1.mono (fun q hq => ⟨hq.1, fun e => hq.2 (by rw [e]; rfl)⟩)⟩
theorem ofS_at {l : SemS} {k : Nat} {x : Lin} (h : l[k]? = some x) : (l.take (k + 1)).foldl (putO cmpLin) [] = putO cmpLin ((l.take k).foldl (putO cmpLin) []) x := by
  rw [List.take_add_one, h, List.foldl_append]; rfl
theorem all_snocL {l : SemS} {k : Nat} {x : Lin} (hx : l[k]? = some x) (h : ∀ y ∈ l.take k, rightL y = true) (hr : rightL x = true) : ∀ y ∈ l.take (k + 1), rightL y = true := by
  intro y hy
  rw [List.take_add_one, hx] at hy
  rcases List.mem_append.1 hy with h1 | h1
  · exact h y h1
  · simp at h1; subst h1; exact hr
end Go.Cb
namespace Go.Proofs.YtmdcgekiiopohaaGreat
open Go.RowKit Go.Cb Go.Sort
theorem info_lin : (Tryz.prog.info? 30).map (fun i => (i.zero, i.size, i.bytes)) = some (some (.agg #[.slice none 0 0, .slice none 0 0]), 2, 48) := by kernel_rfl
set_option maxRecDepth 100000 in
set_option maxHeartbeats 16000000 in
theorem refOfSem_c (S : Nat → Prop) (A : Option Addr) (c : Nat) (l : SemS) (w : World) (h : Rd linT w S A c l) (n : Nat) (hn : n = l.length) (hl : l.length ≤ 1073741824) (hl3 : ∀ x ∈ l, x.2.length ≤ 4294967296) :
    Calls Tryz.prog 68 #[.slice A n c] w fun e w' => ∃ A' c', e = .returned (.tuple #[.slice A' (ofS l).1.length c', .bool (ofS l).2]) ∧ Rd linT w' (Ge w.heap.size) A' c' (ofS l).1 ∧ Bel w w' := by
  subst hn
  have lm := h.lenMax
  have HL3 := Lib.hid hl3
  clear hl3
  go_enter Tryz.func68, Tryz.ntmps68
  go_wp2
  go_loopw [4, 11] (fun v4 v11 wr => ∃ (k : Nat) (W : World) (acc : SemS) (AO : Option Addr) (cO : Nat), W = wr ∧ k ≤ l.length ∧ v11 = .int .i64 k ∧ v4 = .slice AO acc.length cO ∧ acc.length ≤ k ∧ Hid (acc = (l.take k).foldl (putO cmpLin) []) ∧ Hid (∀ y ∈ l.take k, rightL y = true) ∧
      Own linT 30 W w.heap.size (Ge w.heap.size) (.slice AO acc.length cO) acc ∧ Bel w W) (fun _ v11 _ => l.length - (intOf v11).toNat)
  case atStart => exact ⟨0, _, [], none, 0, rfl, Nat.zero_le _, rfl, rfl, Nat.zero_le _, (rfl : ([] : SemS) = (l.take 0).foldl (putO cmpLin) []), (fun y hy => by simp at hy : ∀ y ∈ l.take 0, rightL y = true), Own.nil _ _ _ _ _, Bel.refl _⟩
  case round =>
    obtain ⟨k, W, acc, AO, cO, rfl, hk, rfl, rfl, hacc, HA, HR, hO, hb⟩ := hrel
    by_cases hlt : k < l.length
    · obtain ⟨ad, A0, c0, A1, c1, rfl, g0, g1, r0, r1⟩ := (h.to hb).lrow hlt
      obtain ⟨x, hx⟩ : ∃ x, l[k] = x := ⟨_, rfl⟩
      have HX := Lib.hid (show l[k]? = some x by rw [List.getElem?_eq_getElem hlt, hx])
      have hx2 := HL3.out l[k] (List.getElem_mem hlt)
      rw [hx] at g0 g1 r0 r1 hx2
      have hal : Bel W (W.alloc (.cells #[.slice A0 x.1.length c0, .slice A1 x.2.length c1] 30)) := (Bel.refl _).alloc _
      have T := Box.new W 30 (.slice A0 x.1.length c0) (.slice A1 x.2.length c1)
      have hb1 := hb.trans hal
      replace r0 := (r0.to hal).all
      replace r1 := (r1.to hal).all
      have HO := Lib.hid (hO.to hal)
      obtain ⟨t0, t1, _, _⟩ := T.cells
      clear hx hO
      go_wp2_with fail
      clear g0 g1 t0 t1
      generalize W.alloc (.cells #[.slice A0 x.1.length c0, .slice A1 x.2.length c1] 30) = W1 at *
      have hTl := T.lt
      generalize W.heap.size = TG at *
      have Q1 := refRightLin_c _ _ _ _ _ _ x.1 x.2 W1 r0 r1 _ _ rfl rfl
      rw [show ((x.1, x.2) : Lin) = x from rfl] at Q1
      cases hr : rightL x with
      | false =>
        have He := Lib.hid (ofS_no (List.mem_of_getElem? HX.out) hr)
        rw [hr] at Q1
        have HQ1 := Lib.hid Q1
        clear hr Q1
        refine HQ1.out.mono ?_
        rintro e w2 ⟨rfl, hb2⟩
        go_wp2
        go_ret2
        exact ⟨none, 0, by rw [He.out]; rfl, by rw [He.out]; exact Rd.nil _ _ _ _ _ (by decide), hb1.trans hb2⟩
      | true =>
        have HR2 := Lib.hid (all_snocL HX.out HR.out hr)
        have HA2 := Lib.hid (ofS_at HX.out)
        have hxb : x.1.length ≤ 12 := by
          have := hr
          obtain ⟨xa, xp⟩ := x
          exact right_len (rightL_iff.1 this).1
        have HX3 := Lib.hid (show ∀ p ∈ x.2, p.length ≤ 4294967296 from fun p hp => by
          obtain ⟨xa, xp⟩ := x
          have := right_len ((rightL_iff.1 hr).2.each p hp).2
          omega)
        rw [hr] at Q1
        have HQ1 := Lib.hid Q1
        clear hr Q1
        refine HQ1.out.mono ?_
        rintro e w2 ⟨rfl, hb2⟩
        clear HQ1
        go_wp2_with fail
        go_loopw [7] (fun v7 wr => ∃ (j : Nat) (W' : World), W' = wr ∧ j ≤ acc.length ∧ v7 = .int .i64 j ∧ Hid (belowO cmpLin acc x j) ∧ Bel W1 W') (fun v7 _ => acc.length - (intOf v7).toNat)
        case atStart => exact ⟨0, _, rfl, Nat.zero_le _, rfl, belowO_zero _ _, hb2⟩
        case round =>
          clear hb2
          obtain ⟨j, W2, rfl, hj, rfl, HB, hb2⟩ := hrel
          have T2 := T.to hb2
          obtain ⟨t0, t1, _, _⟩ := T2.cells
          have T0 := cellReg t0
          have T1 := cellReg t1
          clear t0 t1
          by_cases hjl : j < acc.length
          · obtain ⟨g, B0, d0, B1, d1, rfl, hg1, hg2, g0, g1, q0, q1⟩ := (HO.out.to hb2).lrow hjl
            obtain ⟨y, hy⟩ : ∃ y, acc[j] = y := ⟨_, rfl⟩
            obtain ⟨z, hz⟩ : ∃ z, cmpLin acc[j] x = z := ⟨_, rfl⟩
            rw [hy] at g0 g1 q0 q1
            have HZ := Lib.hid hz
            rw [hy] at hz
            have G0 := cellReg g0
            have G1 := cellReg g1
            have K1 := Lib.hid (show ∀ W', Bel W2 W' → Calls Tryz.prog 87 #[.agg #[.slice B0 y.1.length d0, .slice B1 y.2.length d1], .agg #[.slice A0 x.1.length c0, .slice A1 x.2.length c1]] W' fun e w' => e = .returned (.int .i64 z) ∧ Bel W' w' from fun W' h => by
              have := refCompareLin_c _ _ _ _ _ _ _ _ _ _ _ _ y x W' (q0.to h) (q1.to h) (r0.to (hb2.trans h)) (r1.to (hb2.trans h)) _ _ _ _ rfl rfl rfl rfl
              rwa [hz] at this)
            have hj2 : (j : Int) < (acc.length : Int) := by omega
            clear hz hy
            go_wp2_with fail
            by_cases hz0 : z < 0
            · have HB2 := Lib.hid (belowO_snoc HB.out hjl (by rw [HZ.out]; exact hz0))
              have hzd : decide (z < 0) = true := decide_eq_true hz0
              clear g0 g1
              refine wp_region_quiet_below (by kernel_rfl) (by kernel_rfl) ?_
              repeat (go_big_quiet_step (first | with_reducible exact callsReg K1.out))
              refine wpQuiet_nil ?_
              intro _ hw'
              obtain ⟨⟨dq, oq⟩, hw''⟩ := hw'
              subst hw''
              go_wp2
              go_roundw
              case rel => exact ⟨j + 1, _, rfl, by omega, by go_num, HB2.out, hb2.trans (bel_regrown _ _ _)⟩
              case measure => simp [intOf]; omega
            · have hzd : decide (z < 0) = false := decide_eq_false hz0
              refine wp_region_quiet_below (by kernel_rfl) (by kernel_rfl) ?_
              repeat (go_big_quiet_step (first | with_reducible exact callsReg K1.out))
              refine wpQuiet_nil ?_
              intro _ hw'
              obtain ⟨⟨dq, oq⟩, hw''⟩ := hw'
              subst hw''
              have hb3 := bel_regrown W2 dq oq
              have T3 := T2.to hb3
              have g0 := G0 dq oq
              have g1 := G1 dq oq
              have K2 := K1
              clear T0 T1 G0 G1 K1
              have K1 := Lib.hid (show ∀ W', Bel (grow (redrawn W2 dq) oq) W' → _ from fun W' h => K2.out W' (hb3.trans h))
              generalize grow (redrawn W2 dq) oq = W3 at *
              have T0 := cellReg T3.cells.1
              have T1 := cellReg T3.cells.2.1
              have G0 := cellReg g0
              have G1 := cellReg g1
              have hb13 := hb2.trans hb3
              clear g0 g1 K2
              go_wp2_with fail
              by_cases hz1 : z = 0
              · have HP := Lib.hid (putO_same hjl HB.out (by rw [HZ.out]; exact hz1))
                subst hz1
                refine wp_region_quiet_below (by kernel_rfl) (by kernel_rfl) ?_
                repeat (go_big_quiet_step (first | with_reducible exact callsReg K1.out))
                refine wpQuiet_nil ?_
                intro _ hw'
                obtain ⟨⟨dq, oq⟩, hw''⟩ := hw'
                subst hw''
                have HO4 := Lib.hid (((HO.out.to hb2).to hb3).to (bel_regrown W3 dq oq))
                go_wp2
                go_roundw
                case rel => exact ⟨k + 1, _, acc, _, cO, rfl, by omega, by go_num, rfl, by omega, (by rw [HA2.out, ← HA.out, HP.out] : acc = (l.take (k + 1)).foldl (putO cmpLin) []), HR2.out, HO4.out, hb1.trans (hb13.trans (bel_regrown _ _ _))⟩
                case measure => simp [intOf]; omega
              · have HP := Lib.hid (putO_in (f := cmpLin) (Nat.le_of_lt hjl) HB.out (fun _ => by rw [HZ.out]; omega))
                have hze : (z == 0) = false := by simpa using hz1
                refine wp_region_quiet_below (by kernel_rfl) (by kernel_rfl) ?_
                repeat (go_big_quiet_step (first | with_reducible exact callsReg K1.out))
                refine wpQuiet_nil ?_
                intro _ hw'
                obtain ⟨⟨dq, oq⟩, hw''⟩ := hw'
                subst hw''
                have hb4 := bel_regrown W3 dq oq
                have hb14 := hb13.trans hb4
                have T4 := T3.to hb4
                have HO4 := Lib.hid (((HO.out.to hb2).to hb3).to hb4)
                clear T0 T1 G0 G1 K1
                generalize grow (redrawn W3 dq) oq = W4 at *
                have hcap : acc.length ≤ cO ∧ cO ≤ 9223372036854775807 := by
                  obtain ⟨A', c', he, hrr⟩ := HO4.out.rd
                  injection he with e1 e2 e3
                  have h1 := hrr.cap
                  have h2 := hrr.capMax
                  unfold maxLen at h2
                  subst e3
                  omega
                have hck : ¬ cO = j := by omega
                have hbw4 := hb1.trans hb14
                go_wp2_with (at_builtin; refine wp_append_sub linT (w0 := W4) 24 30 (.agg #[.slice none 0 0, .slice none 0 0]) 48 rfl _ _ rfl Tryz.underlying24 info_lin rfl j (Nat.le_of_lt hjl) _ _ rfl rfl (by rw [List.length_drop]) HO4.out (Bel.refl _) (by simp [maxLen]; omega) (by omega) ?_; rintro v8 w8 ho8 hb8 hg8)
                obtain ⟨A8, c8, hv8, hr8⟩ := ho8.rd
                subst hv8
                have hgW := HO4.out.lt (k := g) rfl
                have hlt8 := fun q => ho8.lt (k := q)
                have hge8 := fun q => ho8.ge (k := q)
                have HR8 : Hid (Rd linT w8 (fun q => w.heap.size ≤ q ∧ q < w8.heap.size ∧ some q ≠ (Value.slice (some ⟨g, 0, none⟩) j cO).ownBlock) A8 c8 (acc.drop j)) := Lib.hid (hr8.bound.mono (fun q hq => by
                  obtain ⟨hq, hq2⟩ := hq
                  rcases hq with hq | hq
                  · exact ⟨hq.1, hq2, fun e => hq.2 (Option.some.inj e)⟩
                  · have := hge8 q hq.symm
                    have := hbw4.size
                    exact ⟨by omega, hq2, fun e => by have : q = g := Option.some.inj e; omega⟩))
                have HO5 := Lib.hid (HO4.out.to hb8)
                have T5 := T4.to hb8
                have hb15 := hb14.trans hb8
                have hbw5 := hb1.trans hb15
                clear hr8 hlt8 hge8 ho8 hg8
                obtain ⟨AO', hAO⟩ : ∃ AO' : Option Addr, AO' = some ⟨g, 0, none⟩ := ⟨_, rfl⟩
                rw [← hAO] at HO5 HR8 ⊢
                clear hAO
                generalize w8 = W5 at *
                have hO5' := Lib.hid (fun q hq => (HO5.out.pre (i := j) (by omega)).lt (k := q) hq)
                have T0 := T5.cells.1
                have T1 := T5.cells.2.1
                have hle8 : (acc.drop j : SemS).length ≤ acc.length := by simp
                obtain ⟨n8, hn8⟩ : ∃ n8, (acc.drop j : SemS).length = n8 := ⟨_, rfl⟩
                rw [hn8] at hle8 ⊢
                have HN8 := Lib.hid hn8
                have hsz5 := hbw5.size
                clear T0 T1 hn8
                refine wp_region_grow3 [0, 1, 7] [2, 3, 4, 5] [6, 8, 9] (by kernel_rfl) (by kernel_rfl) (by kernel_rfl) (by kernel_rfl) (by kernel_rfl) [SPred.any, SPred.any, SPred.val (.slice AO' j cO), SPred.val (.agg #[.slice A0 x.1.length c0, .slice A1 x.2.length c1]), SPred.linR W5.heap.size x, SPred.litR W5.heap.size 30 x, SPred.any] ?_ ?_
                · refine ⟨fun u ρ w9 hb9 hd => ?_, fun u ρ w9 hb9 hd => ?_, fun u ρ w9 hb9 hd => ?_, fun u ρ w9 hb9 hd => ?_, trivial⟩
                  · simp only [pureA, pureV, Option.map_some, frL, opL, List.getElem?_cons_succ, List.getElem?_cons_zero, Option.getD_some, Option.bind_some, Act.put, List.setIfInBounds_toArray, List.set_cons_succ, List.set_cons_zero, List.filterMap_cons, List.filterMap_nil, Act.eval, List.getElem?_toArray]
                    go_wp2_with fail
                    exact ⟨rfl, _, rfl, Bel.refl _, rfl⟩
                  · obtain ⟨z0, z1, _, _⟩ := (T5.to hb9).cells
                    simp only [pureA, pureV, Option.map_some, frL, opL, List.getElem?_cons_succ, List.getElem?_cons_zero, Option.getD_some, Option.bind_some, Act.put, List.setIfInBounds_toArray, List.set_cons_succ, List.set_cons_zero, List.filterMap_cons, List.filterMap_nil]
                    go_wp2_with fail
                    exact ⟨rfl, _, rfl, Bel.refl _, rfl⟩
                  · have h3 : u 3 = _ := hd 3 (by kernel_rfl)
                    simp only [pureA, pureV, Option.map_some, frL, opL, List.getElem?_cons_succ, List.getElem?_cons_zero, Option.getD_some, Option.bind_some, Act.put, List.setIfInBounds_toArray, List.set_cons_succ, List.set_cons_zero, List.filterMap_cons, List.filterMap_nil, h3]
                    have Q := Lib.hid (copyLin_c _ _ _ _ _ _ x w9 (r0.to (hb15.trans hb9)) (r1.to (hb15.trans hb9)) _ _ rfl rfl (by omega) hx2 HX3.out)
                    have hs9 := hb9.size
                    go_wp2_with fail
                    refine Q.out.mono ?_
                    rintro e w10 ⟨C0, e0, C1, e1, rfl, k0, k1, hb10⟩
                    go_wp2_with fail
                    exact ⟨rfl, _, rfl, hb10, C0, e0, C1, e1, rfl, k0.bound.mono (fun q hq => ⟨by have := hq.1; unfold Ge at this; omega, hq.2⟩), k1.bound.mono (fun q hq => ⟨by have := hq.1; unfold Ge at this; omega, hq.2⟩)⟩
                  · obtain ⟨C0, e0, C1, e1, h4, k0, k1⟩ : (SPred.linR W5.heap.size x).φ (u 4) (ρ 4).1 (ρ 4).2 w9 := hd 4 (by kernel_rfl)
                    simp only [pureA, pureV, Option.map_some, frL, opL, List.getElem?_cons_succ, List.getElem?_cons_zero, Option.getD_some, Option.bind_some, Act.put, List.setIfInBounds_toArray, List.set_cons_succ, List.set_cons_zero, List.filterMap_cons, List.filterMap_nil, h4]
                    go_wp2_with fail
                    have hal9 : Bel w9 (w9.alloc (.cells #[.slice C0 x.1.length e0, .slice C1 x.2.length e1] 30)) := (Bel.refl _).alloc _
                    have hs9 := hb9.size
                    exact ⟨rfl, _, rfl, hal9, rfl, hs9, by simp, C0, e0, C1, e1, heap_alloc_new w9 _, (k0.bound.to hal9).mono (fun q hq => ⟨hq.1.1, hq.2⟩), (k1.bound.to hal9).mono (fun q hq => ⟨hq.1.1, hq.2⟩)⟩
                · intro u ρ w9 hb9 hall hdj
                  have h2 : u 2 = _ := (hall 2 (by simp)).1
                  have h3 : u 3 = _ := (hall 3 (by simp)).1
                  obtain ⟨C0, e0, C1, e1, h4, k0, k1⟩ : (SPred.linR W5.heap.size x).φ (u 4) (ρ 4).1 (ρ 4).2 w9 := (hall 4 (by simp)).1
                  obtain ⟨h5, hlo, hlt5, hL⟩ := SPred.litR_rd (hall 5 (by simp)).1
                  simp only [pureA, pureV, Option.map_some, frL, opL, List.getElem?_cons_succ, List.getElem?_cons_zero, Option.getD_some, Option.bind_some, Act.put, List.setIfInBounds_toArray, List.set_cons_succ, List.set_cons_zero, List.filterMap_cons, List.filterMap_nil, h2, h3, h4, h5]
                  have HO9 := Lib.hid ((HO5.out.to hb9).pre (i := j) (by omega))
                  have HR89 := Lib.hid (HR8.out.to hb9)
                  have hbw9 := hbw5.trans hb9
                  have HL := Lib.hid hL
                  generalize (ρ 5).1 = q5 at *
                  have hs59 := hb9.size
                  have hjle : j ≤ acc.length := by omega
                  clear hall hdj k0 k1 h2 h3 h4 h5 hL
                  refine wp_append linT (w0 := w) 24 30 (.agg #[.slice none 0 0, .slice none 0 0]) 48 rfl (.tmp 52) (.tmp 55) rfl Tryz.underlying24 info_lin rfl (Ge w.heap.size) (fun q => W5.heap.size ≤ q ∧ q < q5 + 1) (.slice AO' j cO) (acc.take j) [x] (some ⟨q5, 0, none⟩) 1 1 rfl rfl rfl HO9.out HL.out (linT.rdS (fun q hq _ => ⟨by unfold Ge; omega, fun e => by have := hO5'.out q e.symm; omega⟩)) hbw9 (by simp [maxLen]; omega) (by simp; omega) ?_
                  rintro v12 w12 ho12 hb12 hg12 hf12
                  obtain ⟨A12, c12, hv12⟩ := ho12.form
                  rw [List.length_append, List.length_take, Nat.min_eq_left hjle, List.length_singleton] at hv12
                  subst hv12
                  have HO12 := Lib.hid ho12
                  clear ho12
                  have HF12 := Lib.hid hf12
                  clear hf12
                  have HG12 := Lib.hid hg12
                  clear hg12
                  refine wp_append linT (w0 := w) 24 30 (.agg #[.slice none 0 0, .slice none 0 0]) 48 rfl (.tmp 56) (.tmp 57) rfl Tryz.underlying24 info_lin rfl (Ge w.heap.size) (fun q => w.heap.size ≤ q ∧ q < W5.heap.size ∧ some q ≠ (Value.slice AO' j cO).ownBlock) (.slice A12 (j + 1) c12) (acc.take j ++ [x]) (acc.drop j) A8 n8 c8 rfl rfl HN8.out.symm HO12.out (HR89.out.step' (fun q hq => HG12.out.block q (by omega) hq.2.2)) (linT.rdS (fun q hq _ => ⟨hq.1, fun e => by
                        rcases HF12.out with e2 | e2
                        · exact hq.2.2 (e.trans e2)
                        · rw [e2] at e; injection e with e; omega⟩)) hb12 (by simp [maxLen]; omega) (by simp; omega) ?_
                  rintro v13 w13 ho13 hb13 _ _
                  rw [← HP.out] at ho13
                  obtain ⟨A13, c13, hv13⟩ := ho13.form
                  subst hv13
                  refine wpList_plain rfl fun K hK => ?_
                  go_simp
                  refine hK _ _ ?_
                  refine ⟨rfl, ?_⟩
                  go_wp2
                  go_roundw
                  case rel => exact ⟨k + 1, _, putO cmpLin acc x, A13, c13, rfl, by omega, by go_num, rfl, by have := putO_length (f := cmpLin) acc x; omega, (by rw [HA2.out, ← HA.out] : putO cmpLin acc x = (l.take (k + 1)).foldl (putO cmpLin) []), HR2.out, ho13, hb13⟩
                  case measure => simp [intOf]; omega
          · obtain rfl : j = acc.length := by omega
            have HP := Lib.hid (putO_in (f := cmpLin) (Nat.le_refl _) HB.out (fun h => absurd h (Nat.lt_irrefl _)))
            have HO2 := Lib.hid (HO.out.to hb2)
            clear hjl
            go_wp2_with fail
            refine wp_region_quiet_below (by kernel_rfl) (by kernel_rfl) ?_
            repeat (go_big_quiet_step (fail))
            refine wpQuiet_nil ?_
            intro _ hw'
            obtain ⟨⟨dq, oq⟩, hw''⟩ := hw'
            subst hw''
            have hb3 := bel_regrown W2 dq oq
            have T3 := T2.to hb3
            have HO3 := Lib.hid (HO2.out.to hb3)
            have hb13 := hb2.trans hb3
            clear T0 T1 T2
            generalize grow (redrawn W2 dq) oq = W3 at *
            go_wp2_with fail
            refine wp_region_quiet_below (by kernel_rfl) (by kernel_rfl) ?_
            repeat (go_big_quiet_step (fail))
            refine wpQuiet_nil ?_
            intro _ hw'
            obtain ⟨⟨dq, oq⟩, hw''⟩ := hw'
            subst hw''
            have hb4 := bel_regrown W3 dq oq
            have T4 := T3.to hb4
            have HO4 := Lib.hid (HO3.out.to hb4)
            have hb14 := hb13.trans hb4
            clear T3
            generalize grow (redrawn W3 dq) oq = W4 at *
            have hcap : acc.length ≤ cO ∧ cO ≤ 9223372036854775807 := by
              obtain ⟨A', c', he, hrr⟩ := HO4.out.rd
              injection he with e1 e2 e3
              have h1 := hrr.cap
              have h2 := hrr.capMax
              unfold maxLen at h2
              subst e3
              omega
            have hcap1 := hcap.1
            have hcap2 := hcap.2
            have hbw4 := hb1.trans hb14
            by_cases hcc : cO = acc.length
            · subst hcc
              go_wp2_with (at_builtin; refine wp_append linT (w0 := W4) 24 30 (.agg #[.slice none 0 0, .slice none 0 0]) 48 rfl _ _ rfl Tryz.underlying24 info_lin rfl (Ge w.heap.size) (Ge w.heap.size) (.slice none 0 0) [] (acc.drop acc.length) _ _ _ rfl rfl (by simp) (Own.nil _ _ _ _ _) (Rd.drop_nil linT W4 _ _ _ _ (by unfold maxLen; omega)) (linT.rdNil (fun _ hj _ => hj)) (Bel.refl _) (by simp [maxLen]) (by simp) ?_; rintro v8 w8 ho8 hb8 hg8 _; rw [List.nil_append] at ho8)
              all_goals
                obtain ⟨A8, c8, hv8⟩ := ho8.form
                subst hv8
                have HO5 := Lib.hid (HO4.out.to hb8)
                have T5 := T4.to hb8
                have hb15 := hb14.trans hb8
                have hbw5 := hb1.trans hb15
                have HR8 : Hid (Rd linT w8 (fun q => w.heap.size ≤ q ∧ q < w8.heap.size ∧ some q ≠ (Value.slice AO acc.length acc.length).ownBlock) A8 c8 (acc.drop acc.length)) := Lib.hid (by
                  obtain ⟨A', c', he, hrr⟩ := ho8.rd
                  injection he with e1 e2 e3
                  have hm := hrr.capMax
                  subst e3
                  exact Rd.drop_nil _ _ _ _ _ _ hm)
                clear ho8 hg8
                generalize w8 = W5 at *
                have hO5' := Lib.hid (fun q hq => (HO5.out.pre (i := acc.length) (by omega)).lt (k := q) hq)
                have T0 := T5.cells.1
                have T1 := T5.cells.2.1
                have hle8 : (acc.drop acc.length : SemS).length ≤ acc.length := by simp
                obtain ⟨n8, hn8⟩ : ∃ n8, (acc.drop acc.length : SemS).length = n8 := ⟨_, rfl⟩
                rw [hn8] at hle8 ⊢
                have HN8 := Lib.hid hn8
                have hsz5 := hbw5.size
                clear T0 T1 hn8
                refine wp_region_grow3 [0, 1, 7] [2, 3, 4, 5] [6, 8, 9] (by kernel_rfl) (by kernel_rfl) (by kernel_rfl) (by kernel_rfl) (by kernel_rfl) [SPred.any, SPred.any, SPred.val (.slice AO acc.length acc.length), SPred.val (.agg #[.slice A0 x.1.length c0, .slice A1 x.2.length c1]), SPred.linR W5.heap.size x, SPred.litR W5.heap.size 30 x, SPred.any] ?_ ?_
                · refine ⟨fun u ρ w9 hb9 hd => ?_, fun u ρ w9 hb9 hd => ?_, fun u ρ w9 hb9 hd => ?_, fun u ρ w9 hb9 hd => ?_, trivial⟩
                  · simp only [pureA, pureV, Option.map_some, frL, opL, List.getElem?_cons_succ, List.getElem?_cons_zero, Option.getD_some, Option.bind_some, Act.put, List.setIfInBounds_toArray, List.set_cons_succ, List.set_cons_zero, List.filterMap_cons, List.filterMap_nil, Act.eval, List.getElem?_toArray]
                    go_wp2_with fail
                    exact ⟨rfl, _, rfl, Bel.refl _, rfl⟩
                  · obtain ⟨z0, z1, _, _⟩ := (T5.to hb9).cells
                    simp only [pureA, pureV, Option.map_some, frL, opL, List.getElem?_cons_succ, List.getElem?_cons_zero, Option.getD_some, Option.bind_some, Act.put, List.setIfInBounds_toArray, List.set_cons_succ, List.set_cons_zero, List.filterMap_cons, List.filterMap_nil]
                    go_wp2_with fail
                    exact ⟨rfl, _, rfl, Bel.refl _, rfl⟩
                  · have h3 : u 3 = _ := hd 3 (by kernel_rfl)
                    simp only [pureA, pureV, Option.map_some, frL, opL, List.getElem?_cons_succ, List.getElem?_cons_zero, Option.getD_some, Option.bind_some, Act.put, List.setIfInBounds_toArray, List.set_cons_succ, List.set_cons_zero, List.filterMap_cons, List.filterMap_nil, h3]
                    have Q := Lib.hid (copyLin_c _ _ _ _ _ _ x w9 (r0.to (hb15.trans hb9)) (r1.to (hb15.trans hb9)) _ _ rfl rfl (by omega) hx2 HX3.out)
                    have hs9 := hb9.size
                    go_wp2_with fail
                    refine Q.out.mono ?_
                    rintro e w10 ⟨C0, e0, C1, e1, rfl, k0, k1, hb10⟩
                    go_wp2_with fail
                    exact ⟨rfl, _, rfl, hb10, C0, e0, C1, e1, rfl, k0.bound.mono (fun q hq => ⟨by have := hq.1; unfold Ge at this; omega, hq.2⟩), k1.bound.mono (fun q hq => ⟨by have := hq.1; unfold Ge at this; omega, hq.2⟩)⟩
                  · obtain ⟨C0, e0, C1, e1, h4, k0, k1⟩ : (SPred.linR W5.heap.size x).φ (u 4) (ρ 4).1 (ρ 4).2 w9 := hd 4 (by kernel_rfl)
                    simp only [pureA, pureV, Option.map_some, frL, opL, List.getElem?_cons_succ, List.getElem?_cons_zero, Option.getD_some, Option.bind_some, Act.put, List.setIfInBounds_toArray, List.set_cons_succ, List.set_cons_zero, List.filterMap_cons, List.filterMap_nil, h4]
                    go_wp2_with fail
                    have hal9 : Bel w9 (w9.alloc (.cells #[.slice C0 x.1.length e0, .slice C1 x.2.length e1] 30)) := (Bel.refl _).alloc _
                    have hs9 := hb9.size
                    exact ⟨rfl, _, rfl, hal9, rfl, hs9, by simp, C0, e0, C1, e1, heap_alloc_new w9 _, (k0.bound.to hal9).mono (fun q hq => ⟨hq.1.1, hq.2⟩), (k1.bound.to hal9).mono (fun q hq => ⟨hq.1.1, hq.2⟩)⟩
                · intro u ρ w9 hb9 hall hdj
                  have h2 : u 2 = _ := (hall 2 (by simp)).1
                  have h3 : u 3 = _ := (hall 3 (by simp)).1
                  obtain ⟨C0, e0, C1, e1, h4, k0, k1⟩ : (SPred.linR W5.heap.size x).φ (u 4) (ρ 4).1 (ρ 4).2 w9 := (hall 4 (by simp)).1
                  obtain ⟨h5, hlo, hlt5, hL⟩ := SPred.litR_rd (hall 5 (by simp)).1
                  simp only [pureA, pureV, Option.map_some, frL, opL, List.getElem?_cons_succ, List.getElem?_cons_zero, Option.getD_some, Option.bind_some, Act.put, List.setIfInBounds_toArray, List.set_cons_succ, List.set_cons_zero, List.filterMap_cons, List.filterMap_nil, h2, h3, h4, h5]
                  have HO9 := Lib.hid ((HO5.out.to hb9).pre (i := acc.length) (by omega))
                  have HR89 := Lib.hid (HR8.out.to hb9)
                  have hbw9 := hbw5.trans hb9
                  have HL := Lib.hid hL
                  generalize (ρ 5).1 = q5 at *
                  have hs59 := hb9.size
                  have hjle : acc.length ≤ acc.length := by omega
                  clear hall hdj k0 k1 h2 h3 h4 h5 hL
                  refine wp_append linT (w0 := w) 24 30 (.agg #[.slice none 0 0, .slice none 0 0]) 48 rfl (.tmp 52) (.tmp 55) rfl Tryz.underlying24 info_lin rfl (Ge w.heap.size) (fun q => W5.heap.size ≤ q ∧ q < q5 + 1) (.slice AO acc.length acc.length) (acc.take acc.length) [x] (some ⟨q5, 0, none⟩) 1 1 rfl rfl rfl HO9.out HL.out (linT.rdS (fun q hq _ => ⟨by unfold Ge; omega, fun e => by have := hO5'.out q e.symm; omega⟩)) hbw9 (by simp [maxLen]; omega) (by simp; omega) ?_
                  rintro v12 w12 ho12 hb12 hg12 hf12
                  obtain ⟨A12, c12, hv12⟩ := ho12.form
                  rw [List.length_append, List.length_take, Nat.min_eq_left hjle, List.length_singleton] at hv12
                  subst hv12
                  have HO12 := Lib.hid ho12
                  clear ho12
                  have HF12 := Lib.hid hf12
                  clear hf12
                  have HG12 := Lib.hid hg12
                  clear hg12
                  refine wp_append linT (w0 := w) 24 30 (.agg #[.slice none 0 0, .slice none 0 0]) 48 rfl (.tmp 56) (.tmp 57) rfl Tryz.underlying24 info_lin rfl (Ge w.heap.size) (fun q => w.heap.size ≤ q ∧ q < W5.heap.size ∧ some q ≠ (Value.slice AO acc.length acc.length).ownBlock) (.slice A12 (acc.length + 1) c12) (acc.take acc.length ++ [x]) (acc.drop acc.length) A8 n8 c8 rfl rfl HN8.out.symm HO12.out (HR89.out.step' (fun q hq => HG12.out.block q (by omega) hq.2.2)) (linT.rdS (fun q hq _ => ⟨hq.1, fun e => by
                        rcases HF12.out with e2 | e2
                        · exact hq.2.2 (e.trans e2)
                        · rw [e2] at e; injection e with e; omega⟩)) hb12 (by simp [maxLen]; omega) (by simp; omega) ?_
                  rintro v13 w13 ho13 hb13 _ _
                  rw [← HP.out] at ho13
                  obtain ⟨A13, c13, hv13⟩ := ho13.form
                  subst hv13
                  refine wpList_plain rfl fun K hK => ?_
                  go_simp
                  refine hK _ _ ?_
                  refine ⟨rfl, ?_⟩
                  go_wp2
                  go_roundw
                  case rel => exact ⟨k + 1, _, putO cmpLin acc x, A13, c13, rfl, by omega, by go_num, rfl, by have := putO_length (f := cmpLin) acc x; omega, (by rw [HA2.out, ← HA.out] : putO cmpLin acc x = (l.take (k + 1)).foldl (putO cmpLin) []), HR2.out, ho13, hb13⟩
                  case measure => simp [intOf]; omega
            · clear hcap1
              have hcap1 : acc.length < cO := by omega
              go_wp2_with (at_builtin; refine wp_append linT (w0 := W4) 24 30 (.agg #[.slice none 0 0, .slice none 0 0]) 48 rfl _ _ rfl Tryz.underlying24 info_lin rfl (Ge w.heap.size) (Ge w.heap.size) (.slice none 0 0) [] (acc.drop acc.length) _ _ _ rfl rfl (by simp) (Own.nil _ _ _ _ _) (Rd.drop_nil linT W4 _ _ _ _ (by unfold maxLen; omega)) (linT.rdNil (fun _ hj _ => hj)) (Bel.refl _) (by simp [maxLen]) (by simp) ?_; rintro v8 w8 ho8 hb8 hg8 _; rw [List.nil_append] at ho8)
              all_goals
                obtain ⟨A8, c8, hv8⟩ := ho8.form
                subst hv8
                have HO5 := Lib.hid (HO4.out.to hb8)
                have T5 := T4.to hb8
                have hb15 := hb14.trans hb8
                have hbw5 := hb1.trans hb15
                have HR8 : Hid (Rd linT w8 (fun q => w.heap.size ≤ q ∧ q < w8.heap.size ∧ some q ≠ (Value.slice AO acc.length cO).ownBlock) A8 c8 (acc.drop acc.length)) := Lib.hid (by
                  obtain ⟨A', c', he, hrr⟩ := ho8.rd
                  injection he with e1 e2 e3
                  have hm := hrr.capMax
                  subst e3
                  exact Rd.drop_nil _ _ _ _ _ _ hm)
                clear ho8 hg8
                generalize w8 = W5 at *
                have hO5' := Lib.hid (fun q hq => (HO5.out.pre (i := acc.length) (by omega)).lt (k := q) hq)
                have T0 := T5.cells.1
                have T1 := T5.cells.2.1
                have hle8 : (acc.drop acc.length : SemS).length ≤ acc.length := by simp
                obtain ⟨n8, hn8⟩ : ∃ n8, (acc.drop acc.length : SemS).length = n8 := ⟨_, rfl⟩
                rw [hn8] at hle8 ⊢
                have HN8 := Lib.hid hn8
                have hsz5 := hbw5.size
                clear T0 T1 hn8
                refine wp_region_grow3 [0, 1, 7] [2, 3, 4, 5] [6, 8, 9] (by kernel_rfl) (by kernel_rfl) (by kernel_rfl) (by kernel_rfl) (by kernel_rfl) [SPred.any, SPred.any, SPred.val (.slice AO acc.length cO), SPred.val (.agg #[.slice A0 x.1.length c0, .slice A1 x.2.length c1]), SPred.linR W5.heap.size x, SPred.litR W5.heap.size 30 x, SPred.any] ?_ ?_
                · refine ⟨fun u ρ w9 hb9 hd => ?_, fun u ρ w9 hb9 hd => ?_, fun u ρ w9 hb9 hd => ?_, fun u ρ w9 hb9 hd => ?_, trivial⟩
                  · simp only [pureA, pureV, Option.map_some, frL, opL, List.getElem?_cons_succ, List.getElem?_cons_zero, Option.getD_some, Option.bind_some, Act.put, List.setIfInBounds_toArray, List.set_cons_succ, List.set_cons_zero, List.filterMap_cons, List.filterMap_nil, Act.eval, List.getElem?_toArray]
                    go_wp2_with fail
                    exact ⟨rfl, _, rfl, Bel.refl _, rfl⟩
                  · obtain ⟨z0, z1, _, _⟩ := (T5.to hb9).cells
                    simp only [pureA, pureV, Option.map_some, frL, opL, List.getElem?_cons_succ, List.getElem?_cons_zero, Option.getD_some, Option.bind_some, Act.put, List.setIfInBounds_toArray, List.set_cons_succ, List.set_cons_zero, List.filterMap_cons, List.filterMap_nil]
                    go_wp2_with fail
                    exact ⟨rfl, _, rfl, Bel.refl _, rfl⟩
                  · have h3 : u 3 = _ := hd 3 (by kernel_rfl)
                    simp only [pureA, pureV, Option.map_some, frL, opL, List.getElem?_cons_succ, List.getElem?_cons_zero, Option.getD_some, Option.bind_some, Act.put, List.setIfInBounds_toArray, List.set_cons_succ, List.set_cons_zero, List.filterMap_cons, List.filterMap_nil, h3]
                    have Q := Lib.hid (copyLin_c _ _ _ _ _ _ x w9 (r0.to (hb15.trans hb9)) (r1.to (hb15.trans hb9)) _ _ rfl rfl (by omega) hx2 HX3.out)
                    have hs9 := hb9.size
                    go_wp2_with fail
                    refine Q.out.mono ?_
                    rintro e w10 ⟨C0, e0, C1, e1, rfl, k0, k1, hb10⟩
                    go_wp2_with fail
                    exact ⟨rfl, _, rfl, hb10, C0, e0, C1, e1, rfl, k0.bound.mono (fun q hq => ⟨by have := hq.1; unfold Ge at this; omega, hq.2⟩), k1.bound.mono (fun q hq => ⟨by have := hq.1; unfold Ge at this; omega, hq.2⟩)⟩
                  · obtain ⟨C0, e0, C1, e1, h4, k0, k1⟩ : (SPred.linR W5.heap.size x).φ (u 4) (ρ 4).1 (ρ 4).2 w9 := hd 4 (by kernel_rfl)
                    simp only [pureA, pureV, Option.map_some, frL, opL, List.getElem?_cons_succ, List.getElem?_cons_zero, Option.getD_some, Option.bind_some, Act.put, List.setIfInBounds_toArray, List.set_cons_succ, List.set_cons_zero, List.filterMap_cons, List.filterMap_nil, h4]
                    go_wp2_with fail
                    have hal9 : Bel w9 (w9.alloc (.cells #[.slice C0 x.1.length e0, .slice C1 x.2.length e1] 30)) := (Bel.refl _).alloc _
                    have hs9 := hb9.size
                    exact ⟨rfl, _, rfl, hal9, rfl, hs9, by simp, C0, e0, C1, e1, heap_alloc_new w9 _, (k0.bound.to hal9).mono (fun q hq => ⟨hq.1.1, hq.2⟩), (k1.bound.to hal9).mono (fun q hq => ⟨hq.1.1, hq.2⟩)⟩
                · intro u ρ w9 hb9 hall hdj
                  have h2 : u 2 = _ := (hall 2 (by simp)).1
                  have h3 : u 3 = _ := (hall 3 (by simp)).1
                  obtain ⟨C0, e0, C1, e1, h4, k0, k1⟩ : (SPred.linR W5.heap.size x).φ (u 4) (ρ 4).1 (ρ 4).2 w9 := (hall 4 (by simp)).1
                  obtain ⟨h5, hlo, hlt5, hL⟩ := SPred.litR_rd (hall 5 (by simp)).1
                  simp only [pureA, pureV, Option.map_some, frL, opL, List.getElem?_cons_succ, List.getElem?_cons_zero, Option.getD_some, Option.bind_some, Act.put, List.setIfInBounds_toArray, List.set_cons_succ, List.set_cons_zero, List.filterMap_cons, List.filterMap_nil, h2, h3, h4, h5]
                  have HO9 := Lib.hid ((HO5.out.to hb9).pre (i := acc.length) (by omega))
                  have HR89 := Lib.hid (HR8.out.to hb9)
                  have hbw9 := hbw5.trans hb9
                  have HL := Lib.hid hL
                  generalize (ρ 5).1 = q5 at *
                  have hs59 := hb9.size
                  have hjle : acc.length ≤ acc.length := by omega
                  clear hall hdj k0 k1 h2 h3 h4 h5 hL
                  refine wp_append linT (w0 := w) 24 30 (.agg #[.slice none 0 0, .slice none 0 0]) 48 rfl (.tmp 52) (.tmp 55) rfl Tryz.underlying24 info_lin rfl (Ge w.heap.size) (fun q => W5.heap.size ≤ q ∧ q < q5 + 1) (.slice AO acc.length cO) (acc.take acc.length) [x] (some ⟨q5, 0, none⟩) 1 1 rfl rfl rfl HO9.out HL.out (linT.rdS (fun q hq _ => ⟨by unfold Ge; omega, fun e => by have := hO5'.out q e.symm; omega⟩)) hbw9 (by simp [maxLen]; omega) (by simp; omega) ?_
                  rintro v12 w12 ho12 hb12 hg12 hf12
                  obtain ⟨A12, c12, hv12⟩ := ho12.form
                  rw [List.length_append, List.length_take, Nat.min_eq_left hjle, List.length_singleton] at hv12
                  subst hv12
                  have HO12 := Lib.hid ho12
                  clear ho12
                  have HF12 := Lib.hid hf12
                  clear hf12
                  have HG12 := Lib.hid hg12
                  clear hg12
                  refine wp_append linT (w0 := w) 24 30 (.agg #[.slice none 0 0, .slice none 0 0]) 48 rfl (.tmp 56) (.tmp 57) rfl Tryz.underlying24 info_lin rfl (Ge w.heap.size) (fun q => w.heap.size ≤ q ∧ q < W5.heap.size ∧ some q ≠ (Value.slice AO acc.length cO).ownBlock) (.slice A12 (acc.length + 1) c12) (acc.take acc.length ++ [x]) (acc.drop acc.length) A8 n8 c8 rfl rfl HN8.out.symm HO12.out (HR89.out.step' (fun q hq => HG12.out.block q (by omega) hq.2.2)) (linT.rdS (fun q hq _ => ⟨hq.1, fun e => by
                        rcases HF12.out with e2 | e2
                        · exact hq.2.2 (e.trans e2)
                        · rw [e2] at e; injection e with e; omega⟩)) hb12 (by simp [maxLen]; omega) (by simp; omega) ?_
                  rintro v13 w13 ho13 hb13 _ _
                  rw [← HP.out] at ho13
                  obtain ⟨A13, c13, hv13⟩ := ho13.form
                  subst hv13
                  refine wpList_plain rfl fun K hK => ?_
                  go_simp
                  refine hK _ _ ?_
                  refine ⟨rfl, ?_⟩
                  go_wp2
                  go_roundw
                  case rel => exact ⟨k + 1, _, putO cmpLin acc x, A13, c13, rfl, by omega, by go_num, rfl, by have := putO_length (f := cmpLin) acc x; omega, (by rw [HA2.out, ← HA.out] : putO cmpLin acc x = (l.take (k + 1)).foldl (putO cmpLin) []), HR2.out, ho13, hb13⟩
                  case measure => simp [intOf]; omega
    · obtain rfl : k = l.length := by omega
      have ht : l.take l.length = l := List.take_length
      have He := Lib.hid (show ofS l = (acc, true) by
        have h1 := HR.out
        have h2 := HA.out
        rw [ht] at h1 h2
        rw [ofS_yes h1, h2])
      obtain ⟨A', c', hv, hr⟩ := hO.rdGe
      injection hv with e1 e2 e3
      subst e1 e3
      clear ht
      go_wp2
      go_ret2
      exact ⟨_, _, by rw [He.out]; rfl, by rw [He.out]; exact hr, hb⟩
end Go.Proofs.YtmdcgekiiopohaaGreat
