/- Walks: raw sets, cut, as the statements of chapters 7 and 11 take them. -/
import Derived.Test.YtbfbhacdllhddaaGreatMK
import Derived.Test.YtbfbhacdllhddaaGreatMA
set_option linter.unusedVariables false
set_option linter.unusedSimpArgs false
set_option linter.all false
namespace Go.Cb
def rawM (l : SemS) (k6 k4 : Nat) : SemS := l.map fun x => (x.1.take k6, (x.2.take k4).map (·.take k6))
/-- Raw ones, cut; or such as are made of numbers. -/
def ofRaw (l : SemS) (n : List Int) (how m : Int) (k5 k6 k4 : Nat) : SemS := if how.tmod m = 0 then rawM (l.take k5) k6 k4 else playSem n
theorem rawM_take {l : SemS} {k k6 k4 : Nat} {x : Lin} (h : l[k]? = some x) : rawM (l.take (k + 1)) k6 k4 = rawM (l.take k) k6 k4 ++ [(x.1.take k6, (x.2.take k4).map (·.take k6))] := by
  unfold rawM
  rw [List.take_add_one, h]; simp
end Go.Cb
namespace Go.Proofs.YtbfbhacdllhddaaGreat
open Go.RowKit Go.Cb Go.Sort
set_option maxRecDepth 100000 in
set_option maxHeartbeats 32000000 in
theorem oflaw07_c (S S' : Nat → Prop) (A B : Option Addr) (c cb : Nat) (l : SemS) (nn : List Int) (how : Int) (w : World) (h : Rd linT w S A c l) (hn : Rd intT w S' B cb nn) (ir : ∀ x ∈ nn, -9223372036854775808 ≤ x ∧ x ≤ 9223372036854775807) (ih : -9223372036854775808 ≤ how ∧ how ≤ 9223372036854775807) :
    Calls Tryz.prog 18 #[.slice A l.length c, .slice B nn.length cb, .int .i64 how] w fun e w' => ∃ v, e = .returned v ∧ DSem 30 w.heap.size w' v (ofRaw l nn how 2 5 6 4) ∧ Bel w w' := by
  have HP := Lib.hid (playSemi_c _ _ _ _ _ hn ir _ rfl)
  have HC := Lib.hid (cutRaws7_c linT rfl S A c l 5 w h _ rfl (Nat.le_trans (Nat.mul_le_mul_right _ (List.length_take_le 5 l)) (by decide)) 5 rfl)
  have lm := h.lenMax
  clear h hn ir
  by_cases h0 : how.tmod 2 = 0
  · have HU := Lib.hid (show ofRaw l nn how 2 5 6 4 = rawM (l.take 5) 6 4 by unfold ofRaw; rw [if_pos h0])
    have e0 : (how.tmod 2 != 0) = false := by simp [h0]
    have l5 := List.length_take_le 5 l
    generalize l.take 5 = ls at *
    clear h0 HP
    go_enter Tryz.func18, Tryz.ntmps18
    go_wp2_with fail
    refine HC.out.mono ?_
    rintro e wB ⟨vB, rfl, hoB, hbB⟩
    obtain ⟨AB, cB, rfl, hrB⟩ := hoB.rdAll
    have HRB := Lib.hid hrB
    clear hoB hrB HC
    go_wp2
    go_loopw [7, 21] (fun v7 v21 wr => ∃ (k : Nat) (W : World) (AS : Option Addr) (cS : Nat), W = wr ∧ k ≤ ls.length ∧ v21 = .int .i64 k ∧ v7 = .slice AS k cS ∧ Own linT 30 W wB.heap.size (Ge wB.heap.size) (.slice AS k cS) (rawM (ls.take k) 6 4) ∧ Bel wB W) (fun _ v21 _ => ls.length - (intOf v21).toNat)
    case atStart => exact ⟨0, _, none, 0, rfl, Nat.zero_le _, rfl, rfl, Own.nil _ _ _ _ _, Bel.refl _⟩
    case round =>
      obtain ⟨ko, W0, AS, cS, rfl, hko, rfl, rfl, hoS, hbS⟩ := hrel
      by_cases hlto : ko < ls.length
      · obtain ⟨ado, A0, c0, A1, c1, rfl, x0, x1, r0, r1⟩ := (HRB.out.to hbS).lrow hlto
        obtain ⟨⟨a0, qs⟩, hx⟩ : ∃ x, ls[ko] = x := ⟨_, rfl⟩
        have HTO := Lib.hid (rawM_take (k6 := 6) (k4 := 4) (show ls[ko]? = some (a0, qs) by rw [List.getElem?_eq_getElem hlto, hx]))
        rw [hx] at x0 x1 r0 r1
        dsimp only at x0 x1 r0 r1
        obtain ⟨a, ha⟩ : ∃ a, a0.take 6 = a := ⟨_, rfl⟩
        obtain ⟨ps, hps⟩ : ∃ ps, qs.take 4 = ps := ⟨_, rfl⟩
        have lps : ps.length ≤ 4 := by rw [← hps, List.length_take]; omega
        have la : a.length ≤ 6 := by rw [← ha, List.length_take]; omega
        have HA := Lib.hid ha
        have HPS := Lib.hid hps
        have HOS := Lib.hid hoS
        have hlS : (rawM (ls.take ko) 6 4).length = ko := by unfold rawM; rw [List.length_map, List.length_take]; omega
        have HLS := Lib.hid hlS
        have HB0 := Lib.hid hbS
        have hB1 : Bel W0 (W0.alloc (.cells #[.slice A0 a0.length c0, .slice A1 qs.length c1] 97)) := (Bel.refl _).alloc _
        have X := Box.new W0 97 (.slice A0 a0.length c0) (.slice A1 qs.length c1)
        have p0 := (r0.to hB1).all
        have p1 := (r1.to hB1).all
        have hs01 : (W0.alloc (.cells #[.slice A0 a0.length c0, .slice A1 qs.length c1] 97)).heap.size = W0.heap.size + 1 := by simp
        clear ha hps hoS hlS hbS r0 r1 hx
        obtain ⟨z0, z1, _, _⟩ := X.cells
        go_wp2_with fail
        generalize (W0.alloc (.cells #[.slice A0 a0.length c0, .slice A1 qs.length c1] 97)) = W1 at *
        clear x0 x1
        rename_i _
        have x0 := z0
        have x1 := z1
        clear z0 z1
        refine (cutIntS_c _ _ _ _ 6 _ p0 _ rfl (by rw [HA.out]; omega) _ rfl).mono ?_
        rw [HA.out]
        rintro e w1 ⟨v1, rfl, ho1, hb1⟩
        obtain ⟨A2, c2, rfl, hr2⟩ := ho1.rdOne
        have L0 := Box.new w1 30 (.slice A2 a.length c2) (.slice none 0 0)
        have hal : Bel w1 (w1.alloc (.cells #[.slice A2 a.length c2, .slice none 0 0] 30)) := (Bel.refl _).alloc _
        have hbW := hb1.trans hal
        have hr2 := hr2.to hal
        clear x0 x1
        obtain ⟨x0, x1, _, _⟩ := (X.to hbW).cells
        have h1s := hb1.size
        go_wp2_with fail
        generalize w1.alloc (.cells #[.slice A2 a.length c2, .slice none 0 0] 30) = W4 at *
        clear x0 x1 ho1
        replace hr2 : Rd intT W4 (fun k => W0.heap.size < k ∧ k < w1.heap.size) A2 c2 a := hr2.mono (fun k hk => ⟨by omega, by omega⟩)
        obtain ⟨L, hLe⟩ : ∃ L, w1.heap.size = L := ⟨_, rfl⟩
        have hWL : W1.heap.size ≤ L := by omega
        rw [hLe] at L0 hr2 ⊢
        clear hLe h1s hb1 hal
        have hL4 := L0.lt
        refine (cutWords_c bagT rfl _ _ _ _ 4 _ (p1.bound.to hbW) _ rfl (by rw [HPS.out]; omega) _ rfl).mono ?_
        rw [HPS.out]
        rintro e W5 ⟨v5, rfl, ho5, hb5⟩
        obtain ⟨A5, c5, rfl, hr5⟩ := ho5.rd
        have hs5 := hb5.size
        replace L0 := L0.to hb5
        replace hr2 := hr2.to hb5
        replace hbW := hbW.trans hb5
        replace hr5 : Rd bagT W5 (fun k => k < W5.heap.size ∧ k ≠ L) A5 c5 ps := hr5.mono (fun k hk => by
          rcases hk with hk | hk
          · exact ⟨by omega, by omega⟩
          · have h1 := ho5.ge hk.symm
            have h2 := ho5.lt hk.symm
            exact ⟨h2, by omega⟩)
        have lm5 := hr5.lenMax
        clear ho5 hb5
        go_wp2_with fail
        have hs5' : W5.heap.size ≤ W5.heap.size := Nat.le_refl _
        go_loopw [33] (fun v wr => ∃ (k : Nat) (W : World) (vP : Value), W = wr ∧ k ≤ ps.length ∧ v = .int .i64 k ∧ Hid (∀ k, k < W5.heap.size → k ≠ L → W.heap[k]? = W5.heap[k]?) ∧ W5.heap.size ≤ W.heap.size ∧
            Box W 30 L (.slice A2 a.length c2) vP ∧ Rd intT W (fun k => W0.heap.size < k ∧ k < L) A2 c2 a ∧ Own bagT 27 W W1.heap.size (fun k => W5.heap.size ≤ k) vP ((ps.take k).map (·.take 6)) ∧ Hid (∀ j, vP.ownBlock = some j → W5.heap.size ≤ j) ∧ Bel W1 W) (fun v _ => ps.length - (intOf v).toNat)
        case atStart => exact ⟨0, _, .slice none 0 0, rfl, Nat.zero_le _, rfl, (fun _ _ _ => rfl : ∀ k, k < W5.heap.size → k ≠ L → W5.heap[k]? = W5.heap[k]?), hs5', L0, hr2, Own.nil _ _ _ _ _, ((fun j hj => by cases hj) : ∀ j, (Value.slice none 0 0).ownBlock = some j → W5.heap.size ≤ j), hbW⟩
        case round =>
          clear L0 hr2 hbW
          obtain ⟨k, W, vP, rfl, hk, rfl, HOLD, hW5, L1, hr2, hO, HV, hbW⟩ := hrel
          have hLW := L1.lt
          by_cases hlt : k < ps.length
          · obtain ⟨ad, Pp, cp, rfl, hpc, hpr⟩ := (hr5.step' (fun k hk => HOLD.out k hk.1 hk.2)).row hlt
            obtain ⟨p, hpe⟩ : ∃ p, ps[k] = p := ⟨_, rfl⟩
            obtain ⟨pt, hpt⟩ : ∃ pt, p.take 6 = pt := ⟨_, rfl⟩
            have HPT := Lib.hid hpt
            have lpt : pt.length ≤ 6 := by rw [← hpt, List.length_take]; omega
            have HT := Lib.hid (show (ps.take (k + 1)).map (·.take 6) = (ps.take k).map (·.take 6) ++ [pt] by rw [List.take_add_one, List.getElem?_eq_getElem hlt, hpe, ← hpt]; simp)
            rw [hpe] at hpc hpr
            clear hpe hpt
            obtain ⟨AP, cP, hvP⟩ := hO.form
            rw [List.length_map, List.length_take, Nat.min_eq_left hk] at hvP
            subst hvP
            go_wp2_with fail
            refine wp_region_grow2 5 (by kernel_rfl) (by kernel_rfl) (by kernel_rfl) [SPred.val (.pointer (some ⟨L, 1, none⟩)), SPred.val (.slice AP k cP), SPred.val (.slice Pp p.length cp), SPred.word W.heap.size pt, SPred.lit1 W.heap.size 27 pt] ?_ ?_
            · refine ⟨fun u ρ w2 hb2 hd => ?_, fun u ρ w2 hb2 hd => ?_, fun u ρ w2 hb2 hd => ?_, fun u ρ w2 hb2 hd => ?_, fun u ρ w2 hb2 hd => ?_, trivial⟩
              · simp only [growFr, List.getElem?_cons_succ, List.getElem?_cons_zero, Option.bind_some, Act.put, List.setIfInBounds_toArray, List.set_cons_succ, List.set_cons_zero]
                go_wp2_with fail
                exact ⟨rfl, _, rfl, Bel.refl _, rfl⟩
              · have h1 : u 0 = _ := hd 0 (by kernel_rfl)
                obtain ⟨y0, y1, _, _⟩ := (L1.to hb2).cells
                simp only [growFr, List.getElem?_cons_succ, List.getElem?_cons_zero, Option.bind_some, Act.put, List.setIfInBounds_toArray, List.set_cons_succ, List.set_cons_zero, h1]
                go_wp2_with fail
                exact ⟨rfl, _, rfl, Bel.refl _, rfl⟩
              · simp only [growFr, List.getElem?_cons_succ, List.getElem?_cons_zero, Option.bind_some, Act.put, List.setIfInBounds_toArray, List.set_cons_succ, List.set_cons_zero]
                go_wp2_with fail
                exact ⟨rfl, _, rfl, Bel.refl _, rfl⟩
              · have h1 : u 2 = _ := hd 2 (by kernel_rfl)
                simp only [growFr, List.getElem?_cons_succ, List.getElem?_cons_zero, Option.bind_some, Act.put, List.setIfInBounds_toArray, List.set_cons_succ, List.set_cons_zero, h1]
                go_wp2_with fail
                refine (cutIntS_c _ _ _ _ 6 _ (hpr.to hb2) _ rfl (by rw [HPT.out]; omega) _ rfl).mono ?_
                rw [HPT.out]
                rintro e w3 ⟨v3, rfl, ho3, hb3⟩
                go_wp2_with fail
                obtain ⟨A3, c3, rfl, r3⟩ := ho3.rdW
                have hs2 := hb2.size
                exact ⟨rfl, _, rfl, hb3, A3, c3, rfl, r3.mono (fun k hk => ⟨by omega, hk.2⟩)⟩
              · obtain ⟨A4, c4, h1, r4⟩ : (SPred.word W.heap.size pt).φ (u 3) (ρ 3).1 (ρ 3).2 w2 := hd 3 (by kernel_rfl)
                simp only [growFr, List.getElem?_cons_succ, List.getElem?_cons_zero, Option.bind_some, Act.put, List.setIfInBounds_toArray, List.set_cons_succ, List.set_cons_zero, h1]
                go_wp2_with fail
                have hal : Bel w2 (w2.alloc (.cells #[.slice A4 pt.length c4] 27)) := (Bel.refl _).alloc _
                have hs2 := hb2.size
                refine ⟨rfl, _, rfl, hal, rfl, hs2, by simp, A4, c4, heap_alloc_new w2 _, ((r4.bound).to hal).mono (fun k hk => ⟨hk.1.1, hk.2⟩)⟩
            · intro u ρ w2 hb2 hall hdj
              have h0 : u 0 = _ := (hall 0 (by omega)).1
              have h1 : u 1 = _ := (hall 1 (by omega)).1
              have h2 : u 2 = _ := (hall 2 (by omega)).1
              obtain ⟨A4, c4, h3, r4⟩ : (SPred.word W.heap.size pt).φ (u 3) (ρ 3).1 (ρ 3).2 w2 := (hall 3 (by omega)).1
              obtain ⟨h4, hlo, hlt4, hR⟩ := SPred.lit1_rd (hall 4 (by omega)).1
              simp only [List.drop_succ_cons, List.drop_zero, growFr, List.getElem?_cons_succ, List.getElem?_cons_zero, Option.bind_some, Act.put, List.setIfInBounds_toArray, List.set_cons_succ, List.set_cons_zero, h0, h1, h2, h3, h4]
              have L2 := L1.to hb2
              have HO := Lib.hid (hO.to hb2)
              have hO' := Lib.hid (fun j hj => hO.lt (k := j) hj)
              have hbW2 := hbW.trans hb2
              have hr22 := hr2.to hb2
              have hL2 := hb2.size
              generalize (ρ 4).1 = q at *
              clear hall hdj r4 h0 h1 h2 h3 h4 L1 hO hbW hr2
              have HR := Lib.hid hR.bags
              clear hR
              go_wp2_with (at_builtin; refine wp_append bagT (w0 := W1) 28 27 (.slice none 0 0) 24 rfl _ _ rfl Tryz.underlying28 info_bag rfl (fun k => W5.heap.size ≤ k) (fun j => W.heap.size ≤ j ∧ j < q + 1) (.slice AP k cP) ((ps.take k).map (·.take 6)) [pt] (some ⟨q, 0, none⟩) 1 1 rfl rfl rfl HO.out HR.out (bagT.rdS (fun j hj _ => ⟨by omega, fun e => by have := hO'.out j e.symm; omega⟩)) hbW2 (by simp [maxLen]; omega) (by simp; omega) ?_; rintro v6 w6 ho6 hb6 hg6 hf6; rw [← HT.out] at ho6; obtain ⟨A6, c6, hv6⟩ := ho6.form; rw [List.length_map, List.length_take, Nat.min_eq_left (by omega)] at hv6; subst hv6; have L6 : Box w6 30 L (.slice A2 a.length c2) (.slice AP k cP) := (hg6.block L (by omega) (fun e => by have := HV.out L e.symm; omega)).trans L2; obtain ⟨y0, y1, k0, k1⟩ := L6.cells)
              have hu6 := Upd.one w6 L 1 (.slice A6 (k + 1) c6)
              have hv7 : ∀ j, (Value.slice A6 (k + 1) c6).ownBlock = some j → W5.heap.size ≤ j := fun j hj => by
                rcases hf6 with e | e
                · exact HV.out j (e.symm.trans hj)
                · rw [e] at hj; injection hj with hj; omega
              go_roundw
              case rel => exact ⟨k + 1, _, .slice A6 (k + 1) c6, rfl, by omega, by go_num, (fun j hj hjL => (hu6.block j hjL).trans ((hg6.block j (by omega) (fun e => by have := HV.out j e.symm; omega)).trans ((hb2.block (by omega)).trans (HOLD.out j hj hjL))) : ∀ j, j < W5.heap.size → j ≠ L → _), by rw [hu6.size]; have := hg6.size; omega, L6.set1 _, (hr22.step (w' := w6) (fun j hj hlj => hg6.block j hlj (fun e => by have := HV.out j e.symm; omega))).upd hu6 (fun h => by omega),
                  ho6.step (fun j hj => hu6.block j (by have := hv7 j hj; omega)) (fun j hj _ _ => hu6.block j (by omega)), hv7, hb6.upd hu6 hWL⟩
              case measure => simp [intOf]; omega
          · obtain rfl : k = ps.length := by omega
            rw [List.take_length] at hO
            have hml : (ps.map (·.take 6)).length = ps.length := List.length_map _
            obtain ⟨qs', hqs⟩ : ∃ qs', ps.map (·.take 6) = qs' := ⟨_, rfl⟩
            rw [hqs] at hO hml
            have HQS := Lib.hid hqs
            clear hqs
            obtain ⟨AP, cP, rfl, rP⟩ := hO.rd
            have rP' : Rd bagT W (fun j => W0.heap.size < j) AP cP qs' := rP.mono (fun j hj => by
              rcases hj with hj | hj
              · omega
              · have := HV.out j hj.symm; omega)
            obtain ⟨x0, x1, _, _⟩ := L1.cells
            have hb0W := hB1.trans hbW
            have HY := Lib.hid (show linT.rd W (fun j => W0.heap.size < j) (a, qs') [.slice A2 a.length c2, .slice AP qs'.length cP] from lin_mk (hr2.mono (fun j hj => hj.1)) rP')
            have HOW := Lib.hid (HOS.out.to hb0W)
            have HOL := Lib.hid (fun k hk => HOS.out.lt (k := k) hk)
            have hbwB := HB0.out.trans hb0W
            have hsB := HB0.out.size
            clear hlt hO rP HV hml hr2 rP' L1 HOLD
            go_wp2_with (at_builtin; refine wp_append1 linT (w0 := wB) 25 30 (.agg #[.slice none 0 0, .slice none 0 0]) 48 rfl _ _ rfl Tryz.underlying25 info_lin rfl (Ge wB.heap.size) (.slice AS ko cS) (rawM (ls.take ko) 6 4) (a, qs') [.slice A2 a.length c2, .slice AP qs'.length cP] rfl rfl HOW.out (linT.rdS (fun j hj _ => ⟨by unfold Ge; omega, fun e => by have := HOL.out j e.symm; omega⟩) _ _ HY.out) hbwB (by rw [HLS.out]; unfold maxLen; omega) (by rw [HLS.out]; omega) ?_; rintro v7 w7 ho7 hb7 _ _; obtain ⟨A7, c7, hv7⟩ := ho7.form; rw [List.length_append, HLS.out, List.length_singleton] at hv7; subst hv7)
            rw [show rawM (ls.take ko) 6 4 ++ [(a, qs')] = rawM (ls.take (ko + 1)) 6 4 by rw [HTO.out, HA.out, HPS.out, HQS.out]] at ho7
            go_roundw
            case rel => exact ⟨ko + 1, _, A7, c7, rfl, by omega, by go_num, rfl, ho7, hb7⟩
            case measure => simp [intOf]; omega
      · obtain rfl : ko = ls.length := by omega
        rw [List.take_length] at hoS
        obtain ⟨AZ, cZ, eZ, rZ⟩ := hoS.rdGe
        injection eZ with z1 z2 z3
        clear z2
        subst z1 z3
        have HLN := Lib.hid (show (rawM ls 6 4).length = ls.length by unfold rawM; rw [List.length_map])
        have HZ := Lib.hid rZ
        have hbz := hbB.trans hbS
        have hsB := hbB.size
        clear hoS rZ
        go_wp2
        go_ret
        rw [HU.out]
        exact ⟨_, rfl, ⟨AS, cS, by rw [HLN.out]; rfl, HZ.out.mono (fun k hk => by unfold Ge at *; omega)⟩, hbz⟩
  · have HU := Lib.hid (show ofRaw l nn how 2 5 6 4 = playSem nn by unfold ofRaw; rw [if_neg h0])
    have e0 : (how.tmod 2 != 0) = true := by simp [h0]
    clear h0 HC
    go_enter Tryz.func18, Tryz.ntmps18
    go_wp2_with fail
    refine HP.out.mono ?_
    rintro e w1 ⟨v1, rfl, r1, hb1⟩
    obtain ⟨A1, c1, rfl, hr1⟩ := r1
    go_wp2
    go_ret
    rw [HU.out]
    exact ⟨_, rfl, ⟨A1, c1, rfl, hr1⟩, hb1⟩
set_option maxRecDepth 100000 in
set_option maxHeartbeats 32000000 in
theorem oflaw11_c (S S' : Nat → Prop) (A B : Option Addr) (c cb : Nat) (l : SemS) (nn : List Int) (how : Int) (w : World) (h : Rd linT w S A c l) (hn : Rd intT w S' B cb nn) (ir : ∀ x ∈ nn, -9223372036854775808 ≤ x ∧ x ≤ 9223372036854775807) (ih : -9223372036854775808 ≤ how ∧ how ≤ 9223372036854775807) :
    Calls Tryz.prog 25 #[.slice A l.length c, .slice B nn.length cb, .int .i64 how] w fun e w' => ∃ v, e = .returned v ∧ DSem 30 w.heap.size w' v (ofRaw l nn how 3 4 5 3) ∧ Bel w w' := by
  have HP := Lib.hid (playSemi_c _ _ _ _ _ hn ir _ rfl)
  have HC := Lib.hid (cutRaws11_c linT rfl S A c l 4 w h _ rfl (Nat.le_trans (Nat.mul_le_mul_right _ (List.length_take_le 4 l)) (by decide)) 4 rfl)
  have lm := h.lenMax
  clear h hn ir
  by_cases h0 : how.tmod 3 = 0
  · have HU := Lib.hid (show ofRaw l nn how 3 4 5 3 = rawM (l.take 4) 5 3 by unfold ofRaw; rw [if_pos h0])
    have e0 : (how.tmod 3 != 0) = false := by simp [h0]
    have l5 := List.length_take_le 4 l
    generalize l.take 4 = ls at *
    clear h0 HP
    go_enter Tryz.func25, Tryz.ntmps25
    go_wp2_with fail
    refine HC.out.mono ?_
    rintro e wB ⟨vB, rfl, hoB, hbB⟩
    obtain ⟨AB, cB, rfl, hrB⟩ := hoB.rdAll
    have HRB := Lib.hid hrB
    clear hoB hrB HC
    go_wp2
    go_loopw [7, 21] (fun v7 v21 wr => ∃ (k : Nat) (W : World) (AS : Option Addr) (cS : Nat), W = wr ∧ k ≤ ls.length ∧ v21 = .int .i64 k ∧ v7 = .slice AS k cS ∧ Own linT 30 W wB.heap.size (Ge wB.heap.size) (.slice AS k cS) (rawM (ls.take k) 5 3) ∧ Bel wB W) (fun _ v21 _ => ls.length - (intOf v21).toNat)
    case atStart => exact ⟨0, _, none, 0, rfl, Nat.zero_le _, rfl, rfl, Own.nil _ _ _ _ _, Bel.refl _⟩
    case round =>
      obtain ⟨ko, W0, AS, cS, rfl, hko, rfl, rfl, hoS, hbS⟩ := hrel
      by_cases hlto : ko < ls.length
      · obtain ⟨ado, A0, c0, A1, c1, rfl, x0, x1, r0, r1⟩ := (HRB.out.to hbS).lrow hlto
        obtain ⟨⟨a0, qs⟩, hx⟩ : ∃ x, ls[ko] = x := ⟨_, rfl⟩
        have HTO := Lib.hid (rawM_take (k6 := 5) (k4 := 3) (show ls[ko]? = some (a0, qs) by rw [List.getElem?_eq_getElem hlto, hx]))
        rw [hx] at x0 x1 r0 r1
        dsimp only at x0 x1 r0 r1
        obtain ⟨a, ha⟩ : ∃ a, a0.take 5 = a := ⟨_, rfl⟩
        obtain ⟨ps, hps⟩ : ∃ ps, qs.take 3 = ps := ⟨_, rfl⟩
        have lps : ps.length ≤ 3 := by rw [← hps, List.length_take]; omega
        have la : a.length ≤ 5 := by rw [← ha, List.length_take]; omega
        have HA := Lib.hid ha
        have HPS := Lib.hid hps
        have HOS := Lib.hid hoS
        have hlS : (rawM (ls.take ko) 5 3).length = ko := by unfold rawM; rw [List.length_map, List.length_take]; omega
        have HLS := Lib.hid hlS
        have HB0 := Lib.hid hbS
        have hB1 : Bel W0 (W0.alloc (.cells #[.slice A0 a0.length c0, .slice A1 qs.length c1] 101)) := (Bel.refl _).alloc _
        have X := Box.new W0 101 (.slice A0 a0.length c0) (.slice A1 qs.length c1)
        have p0 := (r0.to hB1).all
        have p1 := (r1.to hB1).all
        have hs01 : (W0.alloc (.cells #[.slice A0 a0.length c0, .slice A1 qs.length c1] 101)).heap.size = W0.heap.size + 1 := by simp
        clear ha hps hoS hlS hbS r0 r1 hx
        obtain ⟨z0, z1, _, _⟩ := X.cells
        go_wp2_with fail
        generalize (W0.alloc (.cells #[.slice A0 a0.length c0, .slice A1 qs.length c1] 101)) = W1 at *
        clear x0 x1
        rename_i _
        have x0 := z0
        have x1 := z1
        clear z0 z1
        refine (cutIntS_c _ _ _ _ 5 _ p0 _ rfl (by rw [HA.out]; omega) _ rfl).mono ?_
        rw [HA.out]
        rintro e w1 ⟨v1, rfl, ho1, hb1⟩
        obtain ⟨A2, c2, rfl, hr2⟩ := ho1.rdOne
        have L0 := Box.new w1 30 (.slice A2 a.length c2) (.slice none 0 0)
        have hal : Bel w1 (w1.alloc (.cells #[.slice A2 a.length c2, .slice none 0 0] 30)) := (Bel.refl _).alloc _
        have hbW := hb1.trans hal
        have hr2 := hr2.to hal
        clear x0 x1
        obtain ⟨x0, x1, _, _⟩ := (X.to hbW).cells
        have h1s := hb1.size
        go_wp2_with fail
        generalize w1.alloc (.cells #[.slice A2 a.length c2, .slice none 0 0] 30) = W4 at *
        clear x0 x1 ho1
        replace hr2 : Rd intT W4 (fun k => W0.heap.size < k ∧ k < w1.heap.size) A2 c2 a := hr2.mono (fun k hk => ⟨by omega, by omega⟩)
        obtain ⟨L, hLe⟩ : ∃ L, w1.heap.size = L := ⟨_, rfl⟩
        have hWL : W1.heap.size ≤ L := by omega
        rw [hLe] at L0 hr2 ⊢
        clear hLe h1s hb1 hal
        have hL4 := L0.lt
        refine (cutWords_c bagT rfl _ _ _ _ 3 _ (p1.bound.to hbW) _ rfl (by rw [HPS.out]; omega) _ rfl).mono ?_
        rw [HPS.out]
        rintro e W5 ⟨v5, rfl, ho5, hb5⟩
        obtain ⟨A5, c5, rfl, hr5⟩ := ho5.rd
        have hs5 := hb5.size
        replace L0 := L0.to hb5
        replace hr2 := hr2.to hb5
        replace hbW := hbW.trans hb5
        replace hr5 : Rd bagT W5 (fun k => k < W5.heap.size ∧ k ≠ L) A5 c5 ps := hr5.mono (fun k hk => by
          rcases hk with hk | hk
          · exact ⟨by omega, by omega⟩
          · have h1 := ho5.ge hk.symm
            have h2 := ho5.lt hk.symm
            exact ⟨h2, by omega⟩)
        have lm5 := hr5.lenMax
        clear ho5 hb5
        go_wp2_with fail
        have hs5' : W5.heap.size ≤ W5.heap.size := Nat.le_refl _
        go_loopw [33] (fun v wr => ∃ (k : Nat) (W : World) (vP : Value), W = wr ∧ k ≤ ps.length ∧ v = .int .i64 k ∧ Hid (∀ k, k < W5.heap.size → k ≠ L → W.heap[k]? = W5.heap[k]?) ∧ W5.heap.size ≤ W.heap.size ∧
            Box W 30 L (.slice A2 a.length c2) vP ∧ Rd intT W (fun k => W0.heap.size < k ∧ k < L) A2 c2 a ∧ Own bagT 27 W W1.heap.size (fun k => W5.heap.size ≤ k) vP ((ps.take k).map (·.take 5)) ∧ Hid (∀ j, vP.ownBlock = some j → W5.heap.size ≤ j) ∧ Bel W1 W) (fun v _ => ps.length - (intOf v).toNat)
        case atStart => exact ⟨0, _, .slice none 0 0, rfl, Nat.zero_le _, rfl, (fun _ _ _ => rfl : ∀ k, k < W5.heap.size → k ≠ L → W5.heap[k]? = W5.heap[k]?), hs5', L0, hr2, Own.nil _ _ _ _ _, ((fun j hj => by cases hj) : ∀ j, (Value.slice none 0 0).ownBlock = some j → W5.heap.size ≤ j), hbW⟩
        case round =>
          clear L0 hr2 hbW
          obtain ⟨k, W, vP, rfl, hk, rfl, HOLD, hW5, L1, hr2, hO, HV, hbW⟩ := hrel
          have hLW := L1.lt
          by_cases hlt : k < ps.length
          · obtain ⟨ad, Pp, cp, rfl, hpc, hpr⟩ := (hr5.step' (fun k hk => HOLD.out k hk.1 hk.2)).row hlt
            obtain ⟨p, hpe⟩ : ∃ p, ps[k] = p := ⟨_, rfl⟩
            obtain ⟨pt, hpt⟩ : ∃ pt, p.take 5 = pt := ⟨_, rfl⟩
            have HPT := Lib.hid hpt
            have lpt : pt.length ≤ 5 := by rw [← hpt, List.length_take]; omega
            have HT := Lib.hid (show (ps.take (k + 1)).map (·.take 5) = (ps.take k).map (·.take 5) ++ [pt] by rw [List.take_add_one, List.getElem?_eq_getElem hlt, hpe, ← hpt]; simp)
            rw [hpe] at hpc hpr
            clear hpe hpt
            obtain ⟨AP, cP, hvP⟩ := hO.form
            rw [List.length_map, List.length_take, Nat.min_eq_left hk] at hvP
            subst hvP
            go_wp2_with fail
            refine wp_region_grow2 5 (by kernel_rfl) (by kernel_rfl) (by kernel_rfl) [SPred.val (.pointer (some ⟨L, 1, none⟩)), SPred.val (.slice AP k cP), SPred.val (.slice Pp p.length cp), SPred.word W.heap.size pt, SPred.lit1 W.heap.size 27 pt] ?_ ?_
            · refine ⟨fun u ρ w2 hb2 hd => ?_, fun u ρ w2 hb2 hd => ?_, fun u ρ w2 hb2 hd => ?_, fun u ρ w2 hb2 hd => ?_, fun u ρ w2 hb2 hd => ?_, trivial⟩
              · simp only [growFr, List.getElem?_cons_succ, List.getElem?_cons_zero, Option.bind_some, Act.put, List.setIfInBounds_toArray, List.set_cons_succ, List.set_cons_zero]
                go_wp2_with fail
                exact ⟨rfl, _, rfl, Bel.refl _, rfl⟩
              · have h1 : u 0 = _ := hd 0 (by kernel_rfl)
                obtain ⟨y0, y1, _, _⟩ := (L1.to hb2).cells
                simp only [growFr, List.getElem?_cons_succ, List.getElem?_cons_zero, Option.bind_some, Act.put, List.setIfInBounds_toArray, List.set_cons_succ, List.set_cons_zero, h1]
                go_wp2_with fail
                exact ⟨rfl, _, rfl, Bel.refl _, rfl⟩
              · simp only [growFr, List.getElem?_cons_succ, List.getElem?_cons_zero, Option.bind_some, Act.put, List.setIfInBounds_toArray, List.set_cons_succ, List.set_cons_zero]
                go_wp2_with fail
                exact ⟨rfl, _, rfl, Bel.refl _, rfl⟩
              · have h1 : u 2 = _ := hd 2 (by kernel_rfl)
                simp only [growFr, List.getElem?_cons_succ, List.getElem?_cons_zero, Option.bind_some, Act.put, List.setIfInBounds_toArray, List.set_cons_succ, List.set_cons_zero, h1]
                go_wp2_with fail
                refine (cutIntS_c _ _ _ _ 5 _ (hpr.to hb2) _ rfl (by rw [HPT.out]; omega) _ rfl).mono ?_
                rw [HPT.out]
                rintro e w3 ⟨v3, rfl, ho3, hb3⟩
                go_wp2_with fail
                obtain ⟨A3, c3, rfl, r3⟩ := ho3.rdW
                have hs2 := hb2.size
                exact ⟨rfl, _, rfl, hb3, A3, c3, rfl, r3.mono (fun k hk => ⟨by omega, hk.2⟩)⟩
              · obtain ⟨A4, c4, h1, r4⟩ : (SPred.word W.heap.size pt).φ (u 3) (ρ 3).1 (ρ 3).2 w2 := hd 3 (by kernel_rfl)
                simp only [growFr, List.getElem?_cons_succ, List.getElem?_cons_zero, Option.bind_some, Act.put, List.setIfInBounds_toArray, List.set_cons_succ, List.set_cons_zero, h1]
                go_wp2_with fail
                have hal : Bel w2 (w2.alloc (.cells #[.slice A4 pt.length c4] 27)) := (Bel.refl _).alloc _
                have hs2 := hb2.size
                refine ⟨rfl, _, rfl, hal, rfl, hs2, by simp, A4, c4, heap_alloc_new w2 _, ((r4.bound).to hal).mono (fun k hk => ⟨hk.1.1, hk.2⟩)⟩
            · intro u ρ w2 hb2 hall hdj
              have h0 : u 0 = _ := (hall 0 (by omega)).1
              have h1 : u 1 = _ := (hall 1 (by omega)).1
              have h2 : u 2 = _ := (hall 2 (by omega)).1
              obtain ⟨A4, c4, h3, r4⟩ : (SPred.word W.heap.size pt).φ (u 3) (ρ 3).1 (ρ 3).2 w2 := (hall 3 (by omega)).1
              obtain ⟨h4, hlo, hlt4, hR⟩ := SPred.lit1_rd (hall 4 (by omega)).1
              simp only [List.drop_succ_cons, List.drop_zero, growFr, List.getElem?_cons_succ, List.getElem?_cons_zero, Option.bind_some, Act.put, List.setIfInBounds_toArray, List.set_cons_succ, List.set_cons_zero, h0, h1, h2, h3, h4]
              have L2 := L1.to hb2
              have HO := Lib.hid (hO.to hb2)
              have hO' := Lib.hid (fun j hj => hO.lt (k := j) hj)
              have hbW2 := hbW.trans hb2
              have hr22 := hr2.to hb2
              have hL2 := hb2.size
              generalize (ρ 4).1 = q at *
              clear hall hdj r4 h0 h1 h2 h3 h4 L1 hO hbW hr2
              have HR := Lib.hid hR.bags
              clear hR
              go_wp2_with (at_builtin; refine wp_append bagT (w0 := W1) 28 27 (.slice none 0 0) 24 rfl _ _ rfl Tryz.underlying28 info_bag rfl (fun k => W5.heap.size ≤ k) (fun j => W.heap.size ≤ j ∧ j < q + 1) (.slice AP k cP) ((ps.take k).map (·.take 5)) [pt] (some ⟨q, 0, none⟩) 1 1 rfl rfl rfl HO.out HR.out (bagT.rdS (fun j hj _ => ⟨by omega, fun e => by have := hO'.out j e.symm; omega⟩)) hbW2 (by simp [maxLen]; omega) (by simp; omega) ?_; rintro v6 w6 ho6 hb6 hg6 hf6; rw [← HT.out] at ho6; obtain ⟨A6, c6, hv6⟩ := ho6.form; rw [List.length_map, List.length_take, Nat.min_eq_left (by omega)] at hv6; subst hv6; have L6 : Box w6 30 L (.slice A2 a.length c2) (.slice AP k cP) := (hg6.block L (by omega) (fun e => by have := HV.out L e.symm; omega)).trans L2; obtain ⟨y0, y1, k0, k1⟩ := L6.cells)
              have hu6 := Upd.one w6 L 1 (.slice A6 (k + 1) c6)
              have hv7 : ∀ j, (Value.slice A6 (k + 1) c6).ownBlock = some j → W5.heap.size ≤ j := fun j hj => by
                rcases hf6 with e | e
                · exact HV.out j (e.symm.trans hj)
                · rw [e] at hj; injection hj with hj; omega
              go_roundw
              case rel => exact ⟨k + 1, _, .slice A6 (k + 1) c6, rfl, by omega, by go_num, (fun j hj hjL => (hu6.block j hjL).trans ((hg6.block j (by omega) (fun e => by have := HV.out j e.symm; omega)).trans ((hb2.block (by omega)).trans (HOLD.out j hj hjL))) : ∀ j, j < W5.heap.size → j ≠ L → _), by rw [hu6.size]; have := hg6.size; omega, L6.set1 _, (hr22.step (w' := w6) (fun j hj hlj => hg6.block j hlj (fun e => by have := HV.out j e.symm; omega))).upd hu6 (fun h => by omega),
                  ho6.step (fun j hj => hu6.block j (by have := hv7 j hj; omega)) (fun j hj _ _ => hu6.block j (by omega)), hv7, hb6.upd hu6 hWL⟩
              case measure => simp [intOf]; omega
          · obtain rfl : k = ps.length := by omega
            rw [List.take_length] at hO
            have hml : (ps.map (·.take 5)).length = ps.length := List.length_map _
            obtain ⟨qs', hqs⟩ : ∃ qs', ps.map (·.take 5) = qs' := ⟨_, rfl⟩
            rw [hqs] at hO hml
            have HQS := Lib.hid hqs
            clear hqs
            obtain ⟨AP, cP, rfl, rP⟩ := hO.rd
            have rP' : Rd bagT W (fun j => W0.heap.size < j) AP cP qs' := rP.mono (fun j hj => by
              rcases hj with hj | hj
              · omega
              · have := HV.out j hj.symm; omega)
            obtain ⟨x0, x1, _, _⟩ := L1.cells
            have hb0W := hB1.trans hbW
            have HY := Lib.hid (show linT.rd W (fun j => W0.heap.size < j) (a, qs') [.slice A2 a.length c2, .slice AP qs'.length cP] from lin_mk (hr2.mono (fun j hj => hj.1)) rP')
            have HOW := Lib.hid (HOS.out.to hb0W)
            have HOL := Lib.hid (fun k hk => HOS.out.lt (k := k) hk)
            have hbwB := HB0.out.trans hb0W
            have hsB := HB0.out.size
            clear hlt hO rP HV hml hr2 rP' L1 HOLD
            go_wp2_with (at_builtin; refine wp_append1 linT (w0 := wB) 25 30 (.agg #[.slice none 0 0, .slice none 0 0]) 48 rfl _ _ rfl Tryz.underlying25 info_lin rfl (Ge wB.heap.size) (.slice AS ko cS) (rawM (ls.take ko) 5 3) (a, qs') [.slice A2 a.length c2, .slice AP qs'.length cP] rfl rfl HOW.out (linT.rdS (fun j hj _ => ⟨by unfold Ge; omega, fun e => by have := HOL.out j e.symm; omega⟩) _ _ HY.out) hbwB (by rw [HLS.out]; unfold maxLen; omega) (by rw [HLS.out]; omega) ?_; rintro v7 w7 ho7 hb7 _ _; obtain ⟨A7, c7, hv7⟩ := ho7.form; rw [List.length_append, HLS.out, List.length_singleton] at hv7; subst hv7)
            rw [show rawM (ls.take ko) 5 3 ++ [(a, qs')] = rawM (ls.take (ko + 1)) 5 3 by rw [HTO.out, HA.out, HPS.out, HQS.out]] at ho7
            go_roundw
            case rel => exact ⟨ko + 1, _, A7, c7, rfl, by omega, by go_num, rfl, ho7, hb7⟩
            case measure => simp [intOf]; omega
      · obtain rfl : ko = ls.length := by omega
        rw [List.take_length] at hoS
        obtain ⟨AZ, cZ, eZ, rZ⟩ := hoS.rdGe
        injection eZ with z1 z2 z3
        clear z2
        subst z1 z3
        have HLN := Lib.hid (show (rawM ls 5 3).length = ls.length by unfold rawM; rw [List.length_map])
        have HZ := Lib.hid rZ
        have hbz := hbB.trans hbS
        have hsB := hbB.size
        clear hoS rZ
        go_wp2
        go_ret
        rw [HU.out]
        exact ⟨_, rfl, ⟨AS, cS, by rw [HLN.out]; rfl, HZ.out.mono (fun k hk => by unfold Ge at *; omega)⟩, hbz⟩
  · have HU := Lib.hid (show ofRaw l nn how 3 4 5 3 = playSem nn by unfold ofRaw; rw [if_neg h0])
    have e0 : (how.tmod 3 != 0) = true := by simp [h0]
    clear h0 HC
    go_enter Tryz.func25, Tryz.ntmps25
    go_wp2_with fail
    refine HP.out.mono ?_
    rintro e w1 ⟨v1, rfl, r1, hb1⟩
    obtain ⟨A1, c1, rfl, hr1⟩ := r1
    go_wp2
    go_ret
    rw [HU.out]
    exact ⟨_, rfl, ⟨A1, c1, rfl, hr1⟩, hb1⟩
end Go.Proofs.YtbfbhacdllhddaaGreat
