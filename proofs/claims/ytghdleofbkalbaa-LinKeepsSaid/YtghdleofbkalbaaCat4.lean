/- Walks: a copy of a linear set; raw ones. -/
import Derived.Test.YtghdleofbkalbaaLin4
import Derived.Test.YtghdleofbkalbaaGrow
import Derived.Test.YtghdleofbkalbaaKeep
namespace Go.Proofs.Ytghdleofbkalbaa
open Go.RowKit Go.Cb
set_option maxRecDepth 100000 in
set_option maxHeartbeats 8000000 in
theorem copyLin_c (S0 S1 : Nat → Prop) (A0 A1 : Option Addr) (c0 c1 : Nat) (x : Lin) (w : World) (h0 : Rd intT w S0 A0 c0 x.1) (h1 : Rd bagT w S1 A1 c1 x.2)
    (n0 n1 : Nat) (hn0 : n0 = x.1.length) (hn1 : n1 = x.2.length) (hl0 : x.1.length ≤ 1000000) (hl : x.2.length ≤ 1000000) (hl3 : ∀ p ∈ x.2, p.length ≤ 1000000) :
    Calls Try.prog 21 #[.agg #[.slice A0 n0 c0, .slice A1 n1 c1]] w fun e w' => ∃ C0 e0 C1 e1, e = .returned (.agg #[.slice C0 x.1.length e0, .slice C1 x.2.length e1]) ∧ Rd intT w' (Ge w.heap.size) C0 e0 x.1 ∧ Rd bagT w' (Ge w.heap.size) C1 e1 x.2 ∧ Bel w w' := by
  obtain ⟨a, ps⟩ := x
  dsimp only at *
  subst hn0 hn1
  have Hl3 := Lib.hid hl3
  have lm := h1.lenMax
  obtain ⟨hB1, hX, hY, hsz⟩ := twoBoxes w #[.slice A0 a.length c0, .slice A1 ps.length c1] #[.slice none 0 0, .slice none 0 0] 26
  have X := (Box.new w 26 (.slice A0 a.length c0) (.slice A1 ps.length c1)).to ((Bel.refl _).alloc (.cells #[.slice none 0 0, .slice none 0 0] 26))
  have R := Box.new (w.alloc (.cells #[.slice A0 a.length c0, .slice A1 ps.length c1] 26)) 26 (.slice none 0 0) (.slice none 0 0)
  rw [show (w.alloc (.cells #[.slice A0 a.length c0, .slice A1 ps.length c1] 26)).heap.size = w.heap.size + 1 by simp] at R
  have p0 := (h0.to hB1).all
  have p1 := (h1.to hB1).all
  clear h0 h1 hl3 hX hY
  obtain ⟨x0, x1, _, _⟩ := X.cells
  go_enter Try.func21, Try.ntmps21
  go_wp2_with (at_builtin; refine wp_append intT (w0 := (w.alloc (.cells #[.slice A0 a.length c0, .slice A1 ps.length c1] 26)).alloc (.cells #[.slice none 0 0, .slice none 0 0] 26)) 23 3 (.int .i64 0) 8 rfl _ _ rfl Try.underlying23 info_int rfl (Ge w.heap.size) All _ [] a A0 _ c0 rfl rfl rfl (Own.nil _ _ _ _ _) p0 (fun _ _ h => h) (Bel.refl _) (by simp [maxLen]; omega) (by simp; omega) ?_; rintro v1 w1 ho1 hb1 _ _; rw [List.nil_append] at ho1; obtain ⟨A2, c2, rfl, hr2⟩ := ho1.rdOne; obtain ⟨xx0, xx1, _, _⟩ := (X.to (hb1.trans ((Bel.refl w1).alloc (.cells #[.slice A2 a.length c2, .slice none 0 0] 26)))).cells)
  have L0 := Box.new w1 26 (.slice A2 a.length c2) (.slice none 0 0)
  have hal : Bel w1 (w1.alloc (.cells #[.slice A2 a.length c2, .slice none 0 0] 26)) := (Bel.refl _).alloc _
  have hbW := hb1.trans hal
  have hr2 := hr2.to hal
  generalize hW1 : (w.alloc (.cells #[.slice A0 a.length c0, .slice A1 ps.length c1] 26)).alloc (.cells #[.slice none 0 0, .slice none 0 0] 26) = W1 at *
  clear hW1 x0 x1 xx0 xx1
  have h1s := hb1.size
  generalize w1.alloc (.cells #[.slice A2 a.length c2, .slice none 0 0] 26) = W5 at *
  clear ho1
  replace hr2 : Rd intT W5 (fun k => w.heap.size + 1 < k ∧ k < w1.heap.size) A2 c2 a := hr2.mono (fun k hk => ⟨by omega, by omega⟩)
  obtain ⟨L, hLe⟩ : ∃ L, w1.heap.size = L := ⟨_, rfl⟩
  have hWL : W1.heap.size ≤ L := by omega
  rw [hLe] at L0 hr2 ⊢
  clear hLe h1s hb1 hal
  go_loopw [13] (fun v wr => ∃ (k : Nat) (W : World) (vP : Value), W = wr ∧ k ≤ ps.length ∧ v = .int .i64 k ∧
      Box W 26 L (.slice A2 a.length c2) vP ∧ Rd intT W (fun k => w.heap.size + 1 < k ∧ k < L) A2 c2 a ∧ Own bagT 23 W W1.heap.size (fun k => L < k) vP (ps.take k) ∧ Hid (∀ j, vP.ownBlock = some j → L < j) ∧ Bel W1 W) (fun v _ => ps.length - (intOf v).toNat)
  case atStart => exact ⟨0, _, .slice none 0 0, rfl, Nat.zero_le _, rfl, L0, hr2, Own.nil _ _ _ _ _, ((fun j hj => by cases hj) : ∀ j, (Value.slice none 0 0).ownBlock = some j → L < j), hbW⟩
  case round =>
    clear L0 hr2 hbW
    obtain ⟨k, W, vP, rfl, hk, rfl, L1, hr2, hO, HV, hbW⟩ := hrel
    have hLW := L1.lt
    by_cases hlt : k < ps.length
    · obtain ⟨ad, Pp, cp, rfl, hpc, hpr⟩ := (p1.to hbW).row hlt
      have hl3 := Hl3.out ps[k] (List.getElem_mem hlt)
      obtain ⟨p, hpe⟩ : ∃ p, ps[k] = p := ⟨_, rfl⟩
      have HT := Lib.hid (show ps.take (k + 1) = ps.take k ++ [p] by rw [List.take_add_one, List.getElem?_eq_getElem hlt, hpe]; rfl)
      rw [hpe] at hpc hpr hl3
      clear hpe
      obtain ⟨AP, cP, hvP⟩ := hO.form
      rw [List.length_take, Nat.min_eq_left hk] at hvP
      subst hvP
      go_wp2_with fail
      refine wp_region_grow2 5 (by kernel_rfl) (by kernel_rfl) (by kernel_rfl) [SPred.val (.pointer (some ⟨L, 1, none⟩)), SPred.val (.slice AP k cP), SPred.val (.slice Pp p.length cp), SPred.word W.heap.size p, SPred.lit1 W.heap.size 23 p] ?_ ?_
      · refine ⟨fun u ρ w2 hb2 hd => ?_, fun u ρ w2 hb2 hd => ?_, fun u ρ w2 hb2 hd => ?_, fun u ρ w2 hb2 hd => ?_, fun u ρ w2 hb2 hd => ?_, trivial⟩
        · simp only [growFr, List.getElem?_cons_succ, List.getElem?_cons_zero, Option.bind_some, Act.put, List.setIfInBounds_toArray, List.set_cons_succ, List.set_cons_zero]
          go_wp2_with fail
          exact ⟨rfl, _, rfl, Bel.refl _, rfl⟩
        · have h1 : u 0 = _ := hd 0 (by kernel_rfl)
          obtain ⟨y0, y1, _, _⟩ := (L1.to hb2).cells
          simp only [growFr, List.getElem?_cons_succ, List.getElem?_cons_zero, Option.bind_some, Act.put, List.setIfInBounds_toArray, List.set_cons_succ, List.set_cons_zero, h1]
          go_wp2_with fail
          exact ⟨rfl, _, rfl, Bel.refl _, rfl⟩
        · simp only [growFr, List.getElem?_cons_succ, List.getElem?_cons_zero, Option.bind_some, Act.put, List.setIfInBounds_toArray, List.set_cons_succ, List.set_cons_zero]
          go_wp2_with fail
          exact ⟨rfl, _, rfl, Bel.refl _, rfl⟩
        · have h1 : u 2 = _ := hd 2 (by kernel_rfl)
          simp only [growFr, List.getElem?_cons_succ, List.getElem?_cons_zero, Option.bind_some, Act.put, List.setIfInBounds_toArray, List.set_cons_succ, List.set_cons_zero, h1]
          go_wp2_with (at_builtin; refine wp_append intT (w0 := w2) 23 3 (.int .i64 0) 8 rfl _ _ rfl Try.underlying23 info_int rfl All All _ [] p Pp _ cp rfl rfl rfl (Own.nil _ _ _ _ _) ((hpr.to hb2).all) (fun _ _ h => h) (Bel.refl _) (by simp [maxLen]; omega) (by simp; omega) ?_; rintro v3 w3 ho3 hb3 _ _; rw [List.nil_append] at ho3)
          obtain ⟨A3, c3, rfl, r3⟩ := ho3.rdW
          have hs2 := hb2.size
          exact ⟨rfl, _, rfl, hb3, A3, c3, rfl, r3.mono (fun k hk => ⟨by omega, hk.2⟩)⟩
        · obtain ⟨A4, c4, h1, r4⟩ : (SPred.word W.heap.size p).φ (u 3) (ρ 3).1 (ρ 3).2 w2 := hd 3 (by kernel_rfl)
          simp only [growFr, List.getElem?_cons_succ, List.getElem?_cons_zero, Option.bind_some, Act.put, List.setIfInBounds_toArray, List.set_cons_succ, List.set_cons_zero, h1]
          go_wp2_with fail
          have hal : Bel w2 (w2.alloc (.cells #[.slice A4 p.length c4] 23)) := (Bel.refl _).alloc _
          have hs2 := hb2.size
          refine ⟨rfl, _, rfl, hal, rfl, hs2, by simp, A4, c4, heap_alloc_new w2 _, ((r4.bound).to hal).mono (fun k hk => ⟨hk.1.1, hk.2⟩)⟩
      · intro u ρ w2 hb2 hall hdj
        have h0 : u 0 = _ := (hall 0 (by omega)).1
        have h1 : u 1 = _ := (hall 1 (by omega)).1
        have h2 : u 2 = _ := (hall 2 (by omega)).1
        obtain ⟨A4, c4, h3, r4⟩ : (SPred.word W.heap.size p).φ (u 3) (ρ 3).1 (ρ 3).2 w2 := (hall 3 (by omega)).1
        obtain ⟨h4, hlo, hlt4, hR⟩ := SPred.lit1_rd (hall 4 (by omega)).1
        simp only [List.drop_succ_cons, List.drop_zero, growFr, List.getElem?_cons_succ, List.getElem?_cons_zero, Option.bind_some, Act.put, List.setIfInBounds_toArray, List.set_cons_succ, List.set_cons_zero, h0, h1, h2, h3, h4]
        have L2 := L1.to hb2
        have HO := Lib.hid (hO.to hb2)
        have hO' := Lib.hid (fun j hj => hO.lt (k := j) hj)
        have hbW2 := hbW.trans hb2
        have hr22 := hr2.to hb2
        have hL2 := hb2.size
        generalize (ρ 4).1 = q at *
        clear hall hdj r4 h0 h1 h2 h3 h4 L1 hO hbW hr2
        have HR := Lib.hid hR.bags
        clear hR
        go_wp2_with (at_builtin; refine wp_append bagT (w0 := W1) 24 23 (.slice none 0 0) 24 rfl _ _ rfl Try.underlying24 info_bag rfl (fun k => L < k) (fun j => W.heap.size ≤ j ∧ j < q + 1) (.slice AP k cP) (ps.take k) [p] (some ⟨q, 0, none⟩) 1 1 rfl rfl rfl HO.out HR.out (bagT.rdS (fun j hj _ => ⟨by omega, fun e => by have := hO'.out j e.symm; omega⟩)) hbW2 (by simp [maxLen]; omega) (by simp; omega) ?_; rintro v6 w6 ho6 hb6 hg6 hf6; rw [← HT.out] at ho6; obtain ⟨A6, c6, hv6⟩ := ho6.form; rw [List.length_take, Nat.min_eq_left (by omega)] at hv6; subst hv6; have L6 : Box w6 26 L (.slice A2 a.length c2) (.slice AP k cP) := (hg6.block L (by omega) (fun e => by have := HV.out L e.symm; omega)).trans L2; obtain ⟨y0, y1, k0, k1⟩ := L6.cells)
        have hu6 := Upd.one w6 L 1 (.slice A6 (k + 1) c6)
        have hv7 : ∀ j, (Value.slice A6 (k + 1) c6).ownBlock = some j → L < j := fun j hj => by
          rcases hf6 with e | e
          · exact HV.out j (e.symm.trans hj)
          · rw [e] at hj; injection hj with hj; omega
        go_roundw
        case rel => exact ⟨k + 1, _, .slice A6 (k + 1) c6, rfl, by omega, by go_num, L6.set1 _, (hr22.step (w' := w6) (fun j hj hlj => hg6.block j hlj (fun e => by have := HV.out j e.symm; omega))).upd hu6 (fun h => by omega),
            ho6.step (fun j hj => hu6.block j (by have := hv7 j hj; omega)) (fun j hj _ _ => hu6.block j (by omega)), hv7, hb6.upd hu6 hWL⟩
        case measure => simp [intOf]; omega
    · obtain rfl : k = ps.length := by omega
      rw [List.take_length] at hO
      obtain ⟨AP, cP, rfl, rP⟩ := hO.rd
      have rP' : Rd bagT W (fun j => w.heap.size + 1 < j) AP cP ps := rP.mono (fun j hj => by
        rcases hj with hj | hj
        · omega
        · have := HV.out j hj.symm; omega)
      obtain ⟨x0, x1, _, _⟩ := L1.cells
      have R6 := R.to hbW
      obtain ⟨y0, y1, k0, k1⟩ := R6.cells
      obtain ⟨z0, z1, m0, m1⟩ := (R6.set0 (.slice A2 a.length c2)).cells
      obtain ⟨u0, u1, n0, n1⟩ := ((R6.set0 (.slice A2 a.length c2)).set1 (.slice AP ps.length cP)).cells
      have hu := (Upd.one W (w.heap.size + 1) 0 (.slice A2 a.length c2)).set (p := ⟨w.heap.size + 1, 1, none⟩) rfl (.slice AP ps.length cP)
      clear hlt hO rP HV
      go_wp2_with fail
      (try simp only [Exit.inBlock, Exit.then])
      refine bodyPost_ret (v := .agg #[.slice A2 a.length c2, .slice AP ps.length cP]) ?_ rfl ?_
      · rw [results_cell1 rfl]
        go_simp
      · exact ⟨_, _, _, _, rfl, (hr2.upd hu (fun h => by omega)).mono (fun _ h => by unfold Ge; omega), (rP'.upd hu (fun h => by omega)).mono (fun _ h => by unfold Ge; omega), (hB1.trans hbW).upd hu (by omega)⟩
/-- A raw one, cut. -/
def rawL (x : List Int × List (List Int)) (k m : Nat) : Lin := (x.1.take k, (x.2.take m).map (·.take k))
set_option maxRecDepth 100000 in
set_option maxHeartbeats 8000000 in
theorem of06_c (S0 S1 : Nat → Prop) (A0 A1 : Option Addr) (c0 c1 : Nat) (x : Lin) (w : World) (h0 : Rd intT w S0 A0 c0 x.1) (h1 : Rd bagT w S1 A1 c1 x.2)
    (n0 n1 : Nat) (hn0 : n0 = x.1.length) (hn1 : n1 = x.2.length) :
    Calls Try.prog 22 #[.agg #[.slice A0 n0 c0, .slice A1 n1 c1]] w fun e w' => ∃ C0 e0 C1 e1, e = .returned (.agg #[.slice C0 (rawL x 14 6).1.length e0, .slice C1 (rawL x 14 6).2.length e1]) ∧ Rd intT w' (Ge w.heap.size) C0 e0 (rawL x 14 6).1 ∧ Rd bagT w' (Ge w.heap.size) C1 e1 (rawL x 14 6).2 ∧ Bel w w' := by
  obtain ⟨a0, qs⟩ := x
  obtain ⟨a, ha⟩ : ∃ a, a0.take 14 = a := ⟨_, rfl⟩
  obtain ⟨ps, hps⟩ : ∃ ps, qs.take 6 = ps := ⟨_, rfl⟩
  have hraw : rawL (a0, qs) 14 6 = (a, ps.map (·.take 14)) := by unfold rawL; rw [← ha, ← hps]
  have lps : ps.length ≤ 6 := by rw [← hps, List.length_take]; omega
  have la : a.length ≤ 14 := by rw [← ha, List.length_take]; omega
  rw [hraw]
  dsimp only at *
  subst hn0 hn1
  have HA := Lib.hid ha
  have HPS := Lib.hid hps
  have hB1 : Bel w ((w.alloc (.cells #[.slice A0 a0.length c0, .slice A1 qs.length c1] 47)).alloc (.cells #[.slice none 0 0, .slice none 0 0] 26)) := ((Bel.refl _).alloc _).alloc _
  have X := (Box.new w 47 (.slice A0 a0.length c0) (.slice A1 qs.length c1)).to ((Bel.refl _).alloc (.cells #[.slice none 0 0, .slice none 0 0] 26))
  have R := Box.new (w.alloc (.cells #[.slice A0 a0.length c0, .slice A1 qs.length c1] 47)) 26 (.slice none 0 0) (.slice none 0 0)
  rw [show (w.alloc (.cells #[.slice A0 a0.length c0, .slice A1 qs.length c1] 47)).heap.size = w.heap.size + 1 by simp] at R
  have p0 := (h0.to hB1).all
  have p1 := (h1.to hB1).all
  clear h0 h1 ha hps hraw
  obtain ⟨x0, x1, _, _⟩ := X.cells
  go_enter Try.func22, Try.ntmps22
  go_wp2_with fail
  generalize (w.alloc (.cells #[.slice A0 a0.length c0, .slice A1 qs.length c1] 47)).alloc (.cells #[.slice none 0 0, .slice none 0 0] 26) = W1 at *
  refine (cutIntS_c _ _ _ _ 14 _ p0 _ rfl (by rw [HA.out]; omega) _ rfl).mono ?_
  rw [HA.out]
  rintro e w1 ⟨v1, rfl, ho1, hb1⟩
  obtain ⟨A2, c2, rfl, hr2⟩ := ho1.rdOne
  have L0 := Box.new w1 26 (.slice A2 a.length c2) (.slice none 0 0)
  have hal : Bel w1 (w1.alloc (.cells #[.slice A2 a.length c2, .slice none 0 0] 26)) := (Bel.refl _).alloc _
  have hbW := hb1.trans hal
  have hr2 := hr2.to hal
  clear x0 x1
  obtain ⟨x0, x1, _, _⟩ := (X.to hbW).cells
  have h1s := hb1.size
  have hRlt := R.lt
  go_wp2_with fail
  generalize w1.alloc (.cells #[.slice A2 a.length c2, .slice none 0 0] 26) = W4 at *
  clear x0 x1 ho1
  replace hr2 : Rd intT W4 (fun k => w.heap.size + 1 < k ∧ k < w1.heap.size) A2 c2 a := hr2.mono (fun k hk => ⟨by omega, by omega⟩)
  obtain ⟨L, hLe⟩ : ∃ L, w1.heap.size = L := ⟨_, rfl⟩
  have hWL : W1.heap.size ≤ L := by omega
  rw [hLe] at L0 hr2 ⊢
  clear hLe h1s hb1 hal
  have hL4 := L0.lt
  refine (cutWords_c bagT rfl _ _ _ _ 6 _ (p1.bound.to hbW) _ rfl (by rw [HPS.out]; omega) _ rfl).mono ?_
  rw [HPS.out]
  rintro e W5 ⟨v5, rfl, ho5, hb5⟩
  obtain ⟨A5, c5, rfl, hr5⟩ := ho5.rd
  have hs5 := hb5.size
  replace L0 := L0.to hb5
  replace hr2 := hr2.to hb5
  replace hbW := hbW.trans hb5
  replace hr5 : Rd bagT W5 (fun k => k < W5.heap.size ∧ k ≠ L) A5 c5 ps := hr5.mono (fun k hk => by
    rcases hk with hk | hk
    · exact ⟨by omega, by omega⟩
    · have h1 := ho5.ge hk.symm
      have h2 := ho5.lt hk.symm
      exact ⟨h2, by omega⟩)
  have lm5 := hr5.lenMax
  clear ho5 hb5
  go_wp2_with fail
  have hs5' : W5.heap.size ≤ W5.heap.size := Nat.le_refl _
  go_loopw [14] (fun v wr => ∃ (k : Nat) (W : World) (vP : Value), W = wr ∧ k ≤ ps.length ∧ v = .int .i64 k ∧ Hid (∀ k, k < W5.heap.size → k ≠ L → W.heap[k]? = W5.heap[k]?) ∧ W5.heap.size ≤ W.heap.size ∧
      Box W 26 L (.slice A2 a.length c2) vP ∧ Rd intT W (fun k => w.heap.size + 1 < k ∧ k < L) A2 c2 a ∧ Own bagT 23 W W1.heap.size (fun k => W5.heap.size ≤ k) vP ((ps.take k).map (·.take 14)) ∧ Hid (∀ j, vP.ownBlock = some j → W5.heap.size ≤ j) ∧ Bel W1 W) (fun v _ => ps.length - (intOf v).toNat)
  case atStart => exact ⟨0, _, .slice none 0 0, rfl, Nat.zero_le _, rfl, (fun _ _ _ => rfl : ∀ k, k < W5.heap.size → k ≠ L → W5.heap[k]? = W5.heap[k]?), hs5', L0, hr2, Own.nil _ _ _ _ _, ((fun j hj => by cases hj) : ∀ j, (Value.slice none 0 0).ownBlock = some j → W5.heap.size ≤ j), hbW⟩
  case round =>
    clear L0 hr2 hbW
    obtain ⟨k, W, vP, rfl, hk, rfl, HOLD, hW5, L1, hr2, hO, HV, hbW⟩ := hrel
    have hLW := L1.lt
    by_cases hlt : k < ps.length
    · obtain ⟨ad, Pp, cp, rfl, hpc, hpr⟩ := (hr5.step' (fun k hk => HOLD.out k hk.1 hk.2)).row hlt
      obtain ⟨p, hpe⟩ : ∃ p, ps[k] = p := ⟨_, rfl⟩
      obtain ⟨pt, hpt⟩ : ∃ pt, p.take 14 = pt := ⟨_, rfl⟩
      have HPT := Lib.hid hpt
      have lpt : pt.length ≤ 14 := by rw [← hpt, List.length_take]; omega
      have HT := Lib.hid (show (ps.take (k + 1)).map (·.take 14) = (ps.take k).map (·.take 14) ++ [pt] by rw [List.take_add_one, List.getElem?_eq_getElem hlt, hpe, ← hpt]; simp)
      rw [hpe] at hpc hpr
      clear hpe hpt
      obtain ⟨AP, cP, hvP⟩ := hO.form
      rw [List.length_map, List.length_take, Nat.min_eq_left hk] at hvP
      subst hvP
      go_wp2_with fail
      refine wp_region_grow2 5 (by kernel_rfl) (by kernel_rfl) (by kernel_rfl) [SPred.val (.pointer (some ⟨L, 1, none⟩)), SPred.val (.slice AP k cP), SPred.val (.slice Pp p.length cp), SPred.word W.heap.size pt, SPred.lit1 W.heap.size 23 pt] ?_ ?_
      · refine ⟨fun u ρ w2 hb2 hd => ?_, fun u ρ w2 hb2 hd => ?_, fun u ρ w2 hb2 hd => ?_, fun u ρ w2 hb2 hd => ?_, fun u ρ w2 hb2 hd => ?_, trivial⟩
        · simp only [growFr, List.getElem?_cons_succ, List.getElem?_cons_zero, Option.bind_some, Act.put, List.setIfInBounds_toArray, List.set_cons_succ, List.set_cons_zero]
          go_wp2_with fail
          exact ⟨rfl, _, rfl, Bel.refl _, rfl⟩
        · have h1 : u 0 = _ := hd 0 (by kernel_rfl)
          obtain ⟨y0, y1, _, _⟩ := (L1.to hb2).cells
          simp only [growFr, List.getElem?_cons_succ, List.getElem?_cons_zero, Option.bind_some, Act.put, List.setIfInBounds_toArray, List.set_cons_succ, List.set_cons_zero, h1]
          go_wp2_with fail
          exact ⟨rfl, _, rfl, Bel.refl _, rfl⟩
        · simp only [growFr, List.getElem?_cons_succ, List.getElem?_cons_zero, Option.bind_some, Act.put, List.setIfInBounds_toArray, List.set_cons_succ, List.set_cons_zero]
          go_wp2_with fail
          exact ⟨rfl, _, rfl, Bel.refl _, rfl⟩
        · have h1 : u 2 = _ := hd 2 (by kernel_rfl)
          simp only [growFr, List.getElem?_cons_succ, List.getElem?_cons_zero, Option.bind_some, Act.put, List.setIfInBounds_toArray, List.set_cons_succ, List.set_cons_zero, h1]
          go_wp2_with fail
          refine (cutIntS_c _ _ _ _ 14 _ (hpr.to hb2) _ rfl (by rw [HPT.out]; omega) _ rfl).mono ?_
          rw [HPT.out]
          rintro e w3 ⟨v3, rfl, ho3, hb3⟩
          go_wp2_with fail
          obtain ⟨A3, c3, rfl, r3⟩ := ho3.rdW
          have hs2 := hb2.size
          exact ⟨rfl, _, rfl, hb3, A3, c3, rfl, r3.mono (fun k hk => ⟨by omega, hk.2⟩)⟩
        · obtain ⟨A4, c4, h1, r4⟩ : (SPred.word W.heap.size pt).φ (u 3) (ρ 3).1 (ρ 3).2 w2 := hd 3 (by kernel_rfl)
          simp only [growFr, List.getElem?_cons_succ, List.getElem?_cons_zero, Option.bind_some, Act.put, List.setIfInBounds_toArray, List.set_cons_succ, List.set_cons_zero, h1]
          go_wp2_with fail
          have hal : Bel w2 (w2.alloc (.cells #[.slice A4 pt.length c4] 23)) := (Bel.refl _).alloc _
          have hs2 := hb2.size
          refine ⟨rfl, _, rfl, hal, rfl, hs2, by simp, A4, c4, heap_alloc_new w2 _, ((r4.bound).to hal).mono (fun k hk => ⟨hk.1.1, hk.2⟩)⟩
      · intro u ρ w2 hb2 hall hdj
        have h0 : u 0 = _ := (hall 0 (by omega)).1
        have h1 : u 1 = _ := (hall 1 (by omega)).1
        have h2 : u 2 = _ := (hall 2 (by omega)).1
        obtain ⟨A4, c4, h3, r4⟩ : (SPred.word W.heap.size pt).φ (u 3) (ρ 3).1 (ρ 3).2 w2 := (hall 3 (by omega)).1
        obtain ⟨h4, hlo, hlt4, hR⟩ := SPred.lit1_rd (hall 4 (by omega)).1
        simp only [List.drop_succ_cons, List.drop_zero, growFr, List.getElem?_cons_succ, List.getElem?_cons_zero, Option.bind_some, Act.put, List.setIfInBounds_toArray, List.set_cons_succ, List.set_cons_zero, h0, h1, h2, h3, h4]
        have L2 := L1.to hb2
        have HO := Lib.hid (hO.to hb2)
        have hO' := Lib.hid (fun j hj => hO.lt (k := j) hj)
        have hbW2 := hbW.trans hb2
        have hr22 := hr2.to hb2
        have hL2 := hb2.size
        generalize (ρ 4).1 = q at *
        clear hall hdj r4 h0 h1 h2 h3 h4 L1 hO hbW hr2
        have HR := Lib.hid hR.bags
        clear hR
        go_wp2_with (at_builtin; refine wp_append bagT (w0 := W1) 24 23 (.slice none 0 0) 24 rfl _ _ rfl Try.underlying24 info_bag rfl (fun k => W5.heap.size ≤ k) (fun j => W.heap.size ≤ j ∧ j < q + 1) (.slice AP k cP) ((ps.take k).map (·.take 14)) [pt] (some ⟨q, 0, none⟩) 1 1 rfl rfl rfl HO.out HR.out (bagT.rdS (fun j hj _ => ⟨by omega, fun e => by have := hO'.out j e.symm; omega⟩)) hbW2 (by simp [maxLen]; omega) (by simp; omega) ?_; rintro v6 w6 ho6 hb6 hg6 hf6; rw [← HT.out] at ho6; obtain ⟨A6, c6, hv6⟩ := ho6.form; rw [List.length_map, List.length_take, Nat.min_eq_left (by omega)] at hv6; subst hv6; have L6 : Box w6 26 L (.slice A2 a.length c2) (.slice AP k cP) := (hg6.block L (by omega) (fun e => by have := HV.out L e.symm; omega)).trans L2; obtain ⟨y0, y1, k0, k1⟩ := L6.cells)
        have hu6 := Upd.one w6 L 1 (.slice A6 (k + 1) c6)
        have hv7 : ∀ j, (Value.slice A6 (k + 1) c6).ownBlock = some j → W5.heap.size ≤ j := fun j hj => by
          rcases hf6 with e | e
          · exact HV.out j (e.symm.trans hj)
          · rw [e] at hj; injection hj with hj; omega
        go_roundw
        case rel => exact ⟨k + 1, _, .slice A6 (k + 1) c6, rfl, by omega, by go_num, (fun j hj hjL => (hu6.block j hjL).trans ((hg6.block j (by omega) (fun e => by have := HV.out j e.symm; omega)).trans ((hb2.block (by omega)).trans (HOLD.out j hj hjL))) : ∀ j, j < W5.heap.size → j ≠ L → _), by rw [hu6.size]; have := hg6.size; omega, L6.set1 _, (hr22.step (w' := w6) (fun j hj hlj => hg6.block j hlj (fun e => by have := HV.out j e.symm; omega))).upd hu6 (fun h => by omega),
            ho6.step (fun j hj => hu6.block j (by have := hv7 j hj; omega)) (fun j hj _ _ => hu6.block j (by omega)), hv7, hb6.upd hu6 hWL⟩
        case measure => simp [intOf]; omega
    · obtain rfl : k = ps.length := by omega
      rw [List.take_length] at hO
      have hml : (ps.map (·.take 14)).length = ps.length := List.length_map _
      obtain ⟨qs', hqs⟩ : ∃ qs', ps.map (·.take 14) = qs' := ⟨_, rfl⟩
      rw [hqs] at hO hml
      have HQS := Lib.hid hqs
      clear hqs
      obtain ⟨AP, cP, rfl, rP⟩ := hO.rd
      have rP' : Rd bagT W (fun j => w.heap.size + 1 < j) AP cP qs' := rP.mono (fun j hj => by
        rcases hj with hj | hj
        · omega
        · have := HV.out j hj.symm; omega)
      obtain ⟨x0, x1, _, _⟩ := L1.cells
      have R6 := R.to hbW
      obtain ⟨y0, y1, k0, k1⟩ := R6.cells
      obtain ⟨z0, z1, m0, m1⟩ := (R6.set0 (.slice A2 a.length c2)).cells
      obtain ⟨u0, u1, n0, n1⟩ := ((R6.set0 (.slice A2 a.length c2)).set1 (.slice AP qs'.length cP)).cells
      have hu := (Upd.one W (w.heap.size + 1) 0 (.slice A2 a.length c2)).set (p := ⟨w.heap.size + 1, 1, none⟩) rfl (.slice AP qs'.length cP)
      clear hlt hO rP HV hml
      go_wp2_with fail
      (try simp only [Exit.inBlock, Exit.then])
      refine bodyPost_ret (v := .agg #[.slice A2 a.length c2, .slice AP qs'.length cP]) ?_ rfl ?_
      · rw [results_cell1 rfl]
        go_simp
      · rw [HQS.out]
        exact ⟨_, _, _, _, rfl, (hr2.upd hu (fun h => by omega)).mono (fun _ h => by unfold Ge; omega), (rP'.upd hu (fun h => by omega)).mono (fun _ h => by unfold Ge; omega), (hB1.trans hbW).upd hu (by omega)⟩
end Go.Proofs.Ytghdleofbkalbaa
