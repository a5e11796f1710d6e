/- Walks: semi.copied, semi.same. -/
import Derived.Test.YtmdcgekiiopohaaGreatME
import Derived.Test.YtmdcgekiiopohaaGreatMD
import Derived.Test.YtmdcgekiiopohaaGreatMA
import Derived.Test.YtmdcgekiiopohaaGreatMC
import Derived.Shelf.SlSortCmp.WholeK
import Derived.Shelf.SlSortCmp.NoneTotal
set_option linter.unusedVariables false
set_option linter.unusedSimpArgs false
set_option linter.all false
namespace Go.Proofs.YtmdcgekiiopohaaGreat
open Go.RowKit Go.Cb Go.Sort
set_option maxRecDepth 100000 in
set_option maxHeartbeats 8000000 in
theorem copied_c (S0 S1 : Nat → Prop) (A0 A1 : Option Addr) (c0 c1 : Nat) (x : Lin) (w : World) (h0 : Rd intT w S0 A0 c0 x.1) (h1 : Rd bagT w S1 A1 c1 x.2)
    (n0 n1 : Nat) (hn0 : n0 = x.1.length) (hn1 : n1 = x.2.length) (hl0 : x.1.length ≤ 4294967296) (hl : x.2.length ≤ 4294967296) (hl3 : ∀ p ∈ x.2, p.length ≤ 4294967296) :
    Calls Tryz.prog 52 #[.agg #[.slice A0 n0 c0, .slice A1 n1 c1]] w fun e w' => ∃ v, e = .returned v ∧ LinRes w.heap.size w' v x ∧ Bel w w' := by
  obtain ⟨a, ps⟩ := x
  dsimp only at *
  subst hn0 hn1
  have Hl3 := Lib.hid hl3
  have lm := h1.lenMax
  obtain ⟨hB1, hX, hY, hsz⟩ := twoBoxes w #[.slice A0 a.length c0, .slice A1 ps.length c1] #[.slice none 0 0, .slice none 0 0] 30
  have X := (Box.new w 30 (.slice A0 a.length c0) (.slice A1 ps.length c1)).to ((Bel.refl _).alloc (.cells #[.slice none 0 0, .slice none 0 0] 30))
  have R := Box.new (w.alloc (.cells #[.slice A0 a.length c0, .slice A1 ps.length c1] 30)) 30 (.slice none 0 0) (.slice none 0 0)
  rw [show (w.alloc (.cells #[.slice A0 a.length c0, .slice A1 ps.length c1] 30)).heap.size = w.heap.size + 1 by simp] at R
  have p0 := (h0.to hB1).all
  have p1 := (h1.to hB1).all
  clear h0 h1 hl3 hX hY
  obtain ⟨x0, x1, _, _⟩ := X.cells
  go_enter Tryz.func52, Tryz.ntmps52
  go_wp2_with fail
  refine (clone_c _ _ _ _ _ p0 _ rfl (by omega)).mono ?_
  rintro e w1 ⟨v1, rfl, ho1, hb1⟩
  obtain ⟨A2, c2, rfl, hr2⟩ := ho1.rdW
  have L0 := Box.new w1 30 (.slice A2 a.length c2) (.slice none 0 0)
  have hal : Bel w1 (w1.alloc (.cells #[.slice A2 a.length c2, .slice none 0 0] 30)) := (Bel.refl _).alloc _
  have hbW := hb1.trans hal
  have hr2 := hr2.to hal
  generalize hW1 : (w.alloc (.cells #[.slice A0 a.length c0, .slice A1 ps.length c1] 30)).alloc (.cells #[.slice none 0 0, .slice none 0 0] 30) = W1 at *
  clear hW1 x0 x1
  obtain ⟨xx0, xx1, _, _⟩ := (X.to hbW).cells
  have h1s := hb1.size
  go_wp2_with fail
  clear xx0 xx1
  generalize w1.alloc (.cells #[.slice A2 a.length c2, .slice none 0 0] 30) = W5 at *
  clear ho1
  replace hr2 : RdW W5 (fun k => w.heap.size + 1 < k ∧ k < w1.heap.size) A2 c2 a := hr2.mono (fun k hk => ⟨by omega, by omega⟩)
  obtain ⟨L, hLe⟩ : ∃ L, w1.heap.size = L := ⟨_, rfl⟩
  have hWL : W1.heap.size ≤ L := by omega
  rw [hLe] at L0 hr2 ⊢
  clear hLe h1s hb1 hal
  go_loopw [13] (fun v wr => ∃ (k : Nat) (W : World) (vP : Value), W = wr ∧ k ≤ ps.length ∧ v = .int .i64 k ∧
      Box W 30 L (.slice A2 a.length c2) vP ∧ RdW W (fun k => w.heap.size + 1 < k ∧ k < L) A2 c2 a ∧ Own wbT 27 W W1.heap.size (fun k => L < k) vP (ps.take k) ∧ Hid (∀ j, vP.ownBlock = some j → L < j) ∧ Bel W1 W) (fun v _ => ps.length - (intOf v).toNat)
  case atStart => exact ⟨0, _, .slice none 0 0, rfl, Nat.zero_le _, rfl, L0, hr2, Own.nil _ _ _ _ _, ((fun j hj => by cases hj) : ∀ j, (Value.slice none 0 0).ownBlock = some j → L < j), hbW⟩
  case round =>
    clear L0 hr2 hbW
    obtain ⟨k, W, vP, rfl, hk, rfl, L1, hr2, hO, HV, hbW⟩ := hrel
    have hLW := L1.lt
    by_cases hlt : k < ps.length
    · obtain ⟨ad, Pp, cp, rfl, hpc, hpr⟩ := (p1.to hbW).row hlt
      have hl3 := Hl3.out ps[k] (List.getElem_mem hlt)
      obtain ⟨p, hpe⟩ : ∃ p, ps[k] = p := ⟨_, rfl⟩
      have HT := Lib.hid (show ps.take (k + 1) = ps.take k ++ [p] by rw [List.take_add_one, List.getElem?_eq_getElem hlt, hpe]; rfl)
      rw [hpe] at hpc hpr hl3
      clear hpe
      obtain ⟨AP, cP, hvP⟩ := hO.form
      rw [List.length_take, Nat.min_eq_left hk] at hvP
      subst hvP
      go_wp2_with fail
      refine wp_region_grow2 5 (by kernel_rfl) (by kernel_rfl) (by kernel_rfl) [SPred.val (.pointer (some ⟨L, 1, none⟩)), SPred.val (.slice AP k cP), SPred.val (.slice Pp p.length cp), SPred.word W.heap.size p, SPred.lit1 W.heap.size 27 p] ?_ ?_
      · refine ⟨fun u ρ w2 hb2 hd => ?_, fun u ρ w2 hb2 hd => ?_, fun u ρ w2 hb2 hd => ?_, fun u ρ w2 hb2 hd => ?_, fun u ρ w2 hb2 hd => ?_, trivial⟩
        · simp only [growFr, List.getElem?_cons_succ, List.getElem?_cons_zero, Option.bind_some, Act.put, List.setIfInBounds_toArray, List.set_cons_succ, List.set_cons_zero]
          go_wp2_with fail
          exact ⟨rfl, _, rfl, Bel.refl _, rfl⟩
        · have h1 : u 0 = _ := hd 0 (by kernel_rfl)
          obtain ⟨y0, y1, _, _⟩ := (L1.to hb2).cells
          simp only [growFr, List.getElem?_cons_succ, List.getElem?_cons_zero, Option.bind_some, Act.put, List.setIfInBounds_toArray, List.set_cons_succ, List.set_cons_zero, h1]
          go_wp2_with fail
          exact ⟨rfl, _, rfl, Bel.refl _, rfl⟩
        · simp only [growFr, List.getElem?_cons_succ, List.getElem?_cons_zero, Option.bind_some, Act.put, List.setIfInBounds_toArray, List.set_cons_succ, List.set_cons_zero]
          go_wp2_with fail
          exact ⟨rfl, _, rfl, Bel.refl _, rfl⟩
        · have h1 : u 2 = _ := hd 2 (by kernel_rfl)
          simp only [growFr, List.getElem?_cons_succ, List.getElem?_cons_zero, Option.bind_some, Act.put, List.setIfInBounds_toArray, List.set_cons_succ, List.set_cons_zero, h1]
          go_wp2_with fail
          refine (clone_c _ _ _ _ _ (hpr.to hb2) _ rfl (by omega)).mono ?_
          rintro e w3 ⟨v3, rfl, ho3, hb3⟩
          go_wp2_with fail
          obtain ⟨A3, c3, rfl, r3⟩ := ho3.rdW
          have hs2 := hb2.size
          exact ⟨rfl, _, rfl, hb3, A3, c3, rfl, r3.mono (fun k hk => ⟨by omega, hk.2⟩)⟩
        · obtain ⟨A4, c4, h1, r4⟩ : (SPred.word W.heap.size p).φ (u 3) (ρ 3).1 (ρ 3).2 w2 := hd 3 (by kernel_rfl)
          simp only [growFr, List.getElem?_cons_succ, List.getElem?_cons_zero, Option.bind_some, Act.put, List.setIfInBounds_toArray, List.set_cons_succ, List.set_cons_zero, h1]
          go_wp2_with fail
          have hal : Bel w2 (w2.alloc (.cells #[.slice A4 p.length c4] 27)) := (Bel.refl _).alloc _
          have hs2 := hb2.size
          refine ⟨rfl, _, rfl, hal, rfl, hs2, by simp, A4, c4, heap_alloc_new w2 _, ((r4.bound).to hal).mono (fun k hk => ⟨hk.1.1, hk.2⟩)⟩
      · intro u ρ w2 hb2 hall hdj
        have h0 : u 0 = _ := (hall 0 (by omega)).1
        have h1 : u 1 = _ := (hall 1 (by omega)).1
        have h2 : u 2 = _ := (hall 2 (by omega)).1
        obtain ⟨A4, c4, h3, r4⟩ : (SPred.word W.heap.size p).φ (u 3) (ρ 3).1 (ρ 3).2 w2 := (hall 3 (by omega)).1
        obtain ⟨h4, hlo, hlt4, hR⟩ := SPred.lit1_rd (hall 4 (by omega)).1
        simp only [List.drop_succ_cons, List.drop_zero, growFr, List.getElem?_cons_succ, List.getElem?_cons_zero, Option.bind_some, Act.put, List.setIfInBounds_toArray, List.set_cons_succ, List.set_cons_zero, h0, h1, h2, h3, h4]
        have L2 := L1.to hb2
        have HO := Lib.hid (hO.to hb2)
        have hO' := Lib.hid (fun j hj => hO.lt (k := j) hj)
        have hbW2 := hbW.trans hb2
        have hr22 := hr2.to hb2
        have hL2 := hb2.size
        generalize (ρ 4).1 = q at *
        clear hall hdj r4 h0 h1 h2 h3 h4 L1 hO hbW hr2
        have HR := Lib.hid hR
        clear hR
        go_wp2_with (at_builtin; refine wp_append wbT (w0 := W1) 28 27 (.slice none 0 0) 24 rfl _ _ rfl Tryz.underlying28 info_bag rfl (fun k => L < k) (fun j => W.heap.size ≤ j ∧ j < q + 1) (.slice AP k cP) (ps.take k) [p] (some ⟨q, 0, none⟩) 1 1 rfl rfl rfl HO.out HR.out (wbT.rdS (fun j hj _ => ⟨by omega, fun e => by have := hO'.out j e.symm; omega⟩)) hbW2 (by simp [maxLen]; omega) (by simp; omega) ?_; rintro v6 w6 ho6 hb6 hg6 hf6; rw [← HT.out] at ho6; obtain ⟨A6, c6, hv6⟩ := ho6.form; rw [List.length_take, Nat.min_eq_left (by omega)] at hv6; subst hv6; have L6 : Box w6 30 L (.slice A2 a.length c2) (.slice AP k cP) := (hg6.block L (by omega) (fun e => by have := HV.out L e.symm; omega)).trans L2; obtain ⟨y0, y1, k0, k1⟩ := L6.cells)
        have hu6 := Upd.one w6 L 1 (.slice A6 (k + 1) c6)
        have hv7 : ∀ j, (Value.slice A6 (k + 1) c6).ownBlock = some j → L < j := fun j hj => by
          rcases hf6 with e | e
          · exact HV.out j (e.symm.trans hj)
          · rw [e] at hj; injection hj with hj; omega
        go_roundw
        case rel => exact ⟨k + 1, _, .slice A6 (k + 1) c6, rfl, by omega, by go_num, L6.set1 _, (hr22.step' (w' := w6) (fun j hj => hg6.block j (by omega) (fun e => by have := HV.out j e.symm; omega))).upd hu6 (fun h => by omega),
            ho6.step (fun j hj => hu6.block j (by have := hv7 j hj; omega)) (fun j hj _ _ => hu6.block j (by omega)), hv7, hb6.upd hu6 hWL⟩
        case measure => simp [intOf]; omega
    · obtain rfl : k = ps.length := by omega
      rw [List.take_length] at hO
      obtain ⟨AP, cP, rfl, rP⟩ := hO.rd
      have rP' : Rd wbT W (fun j => w.heap.size + 1 < j) AP cP ps := rP.mono (fun j hj => by
        rcases hj with hj | hj
        · omega
        · have := HV.out j hj.symm; omega)
      obtain ⟨x0, x1, _, _⟩ := L1.cells
      have R6 := R.to hbW
      obtain ⟨y0, y1, k0, k1⟩ := R6.cells
      obtain ⟨z0, z1, m0, m1⟩ := (R6.set0 (.slice A2 a.length c2)).cells
      obtain ⟨u0, u1, n0, n1⟩ := ((R6.set0 (.slice A2 a.length c2)).set1 (.slice AP ps.length cP)).cells
      have hu := (Upd.one W (w.heap.size + 1) 0 (.slice A2 a.length c2)).set (p := ⟨w.heap.size + 1, 1, none⟩) rfl (.slice AP ps.length cP)
      clear hlt hO rP HV
      go_wp2_with fail
      (try simp only [Exit.inBlock, Exit.then])
      refine bodyPost_ret (v := .agg #[.slice A2 a.length c2, .slice AP ps.length cP]) ?_ rfl ?_
      · rw [results_cell1 rfl]
        go_simp
      · exact ⟨_, rfl, ⟨_, _, _, _, rfl, (hr2.upd hu (fun h => by omega)).mono (fun _ h => by unfold Ge; omega), (rP'.upd hu (fun h => by omega)).mono (fun _ h => by unfold Ge; omega)⟩, (hB1.trans hbW).upd hu (by omega)⟩
theorem same1_c (S S' : Nat → Prop) (A B : Option Addr) (ca cb : Nat) (a b : List Int) (w : World) (ha : Rd intT w S A ca a) (hb : Rd intT w S' B cb b) (n m : Nat) (hn : n = a.length) (hm : m = b.length) :
    Calls Tryz.prog 82 #[.slice A n ca, .slice B m cb] w fun e w' => e = .returned (.bool (decide (a = b))) ∧ Bel w w' := by
  have C := Lib.hid (equalB_c S S' A B ca cb a b w ha hb n m hn hm)
  clear ha hb hn hm
  generalize decide (a = b) = r at *
  go_enter Tryz.func82, Tryz.ntmps82
  go_wp2_with fail
  refine C.out.mono ?_
  rintro e w1 ⟨rfl, hd⟩
  go_wp2
  go_ret
  exact ⟨rfl, hd.bel⟩
set_option maxHeartbeats 2000000 in
theorem equalBags_c (S S' : Nat → Prop) (A B : Option Addr) (ca cb : Nat) (a b : List (List Int)) (w : World) (ha : Rd bagT w S A ca a) (hb : Rd bagT w S' B cb b) (n m : Nat) (hn : n = a.length) (hm : m = b.length) :
    Calls Tryz.prog 81 #[.slice A n ca, .slice B m cb, .func (.func 82) #[] #[]] w fun e w' => e = .returned (.bool (decide (a = b))) ∧ Bel w w' := by
  subst hn hm
  have la := ha.lenMax
  have lb := hb.lenMax
  have hcf : ∀ args w, (callFunc 82 args).run Tryz.prog w = .ok (.enter 82 args) w := fun _ _ => by kernel_rfl
  by_cases hl : a.length = b.length
  · have hlc : ((a.length : Int) != (b.length : Int)) = false := by simp; omega
    have Hl := Lib.hid hl
    clear hl
    go_enter Tryz.func81, Tryz.ntmps81
    go_wp2
    go_loopw [17] (fun v wr => ∃ (k : Nat) (W : World), W = wr ∧ k ≤ a.length ∧ v = .int .i64 k ∧ Hid (a.take k = b.take k) ∧ Bel w W) (fun v _ => a.length - (intOf v).toNat)
    case atStart => exact ⟨0, _, rfl, Nat.zero_le _, rfl, rfl, Bel.refl _⟩
    case round =>
      obtain ⟨k, W, rfl, hk, rfl, hp, hbl⟩ := hrel
      by_cases hlt : k < a.length
      · have hltb : k < b.length := by rw [← Hl.out]; exact hlt
        obtain ⟨ad, Pp, cp, rfl, hpc, hpr⟩ := (ha.to hbl).row hlt
        obtain ⟨bd, Qq, cq, rfl, hqc, hqr⟩ := (hb.to hbl).row hltb
        have k1 : (k : Int) < (b.length : Int) := by omega
        have Q2 := same1_c _ _ _ _ _ _ _ _ _ hpr hqr _ _ rfl rfl
        by_cases he : a[k] = b[k]
        · have Hs := Lib.hid (take_snoc hp.out hlt hltb he)
          rw [decide_eq_true he] at Q2
          have HQ := Lib.hid Q2
          clear he Q2
          go_wp2_with fail
          refine HQ.out.mono ?_
          rintro e w3 ⟨rfl, hb3⟩
          go_wp2
          go_roundw
          case rel => exact ⟨k + 1, _, rfl, by omega, by go_num, Hs.out, hbl.trans hb3⟩
          case measure => simp [intOf]; omega
        · have Hs := Lib.hid (show decide (a = b) = false from decide_eq_false (fun e => he (by subst e; rfl)))
          rw [decide_eq_false he] at Q2
          have HQ := Lib.hid Q2
          clear he Q2
          go_wp2_with fail
          refine HQ.out.mono ?_
          rintro e w3 ⟨rfl, hb3⟩
          go_wp2
          go_ret
          exact ⟨by rw [Hs.out]; rfl, hbl.trans hb3⟩
      · obtain rfl : k = a.length := by omega
        have Hs := Lib.hid (show decide (a = b) = true from decide_eq_true (take_all hp.out Hl.out))
        go_wp2
        go_ret
        exact ⟨by rw [Hs.out]; rfl, hbl⟩
  · have hlc : ((a.length : Int) != (b.length : Int)) = true := by simp; omega
    have Hs := Lib.hid (show decide (a = b) = false from decide_eq_false (fun e => hl (by rw [e])))
    clear hl
    go_enter Tryz.func81, Tryz.ntmps81
    go_wp2
    go_ret
    exact ⟨by rw [Hs.out]; rfl, Bel.refl _⟩
set_option maxHeartbeats 2000000 in
theorem same_c (S0 S1 S2 S3 : Nat → Prop) (A0 A1 B0 B1 : Option Addr) (c0 c1 d0 d1 : Nat) (x y : Lin) (w : World) (h0 : Rd intT w S0 A0 c0 x.1) (h1 : Rd bagT w S1 A1 c1 x.2) (g0 : Rd intT w S2 B0 d0 y.1) (g1 : Rd bagT w S3 B1 d1 y.2)
    (n0 n1 m0 m1 : Nat) (hn0 : n0 = x.1.length) (hn1 : n1 = x.2.length) (hm0 : m0 = y.1.length) (hm1 : m1 = y.2.length) :
    Calls Tryz.prog 55 #[.agg #[.slice A0 n0 c0, .slice A1 n1 c1], .agg #[.slice B0 m0 d0, .slice B1 m1 d1]] w fun e w' => e = .returned (.bool (decide (x = y))) ∧ Bel w w' := by
  obtain ⟨a, ps⟩ := x
  obtain ⟨b, qs⟩ := y
  dsimp only at *
  subst hn0 hn1 hm0 hm1
  obtain ⟨hB1, hX, hY, hsz⟩ := twoBoxes w #[.slice A0 a.length c0, .slice A1 ps.length c1] #[.slice B0 b.length d0, .slice B1 qs.length d1] 30
  have h0 := (h0.to hB1).all
  have h1 := (h1.to hB1).all
  have g0 := (g0.to hB1).all
  have g1 := (g1.to hB1).all
  have Q := equalB_c _ _ _ _ _ _ _ _ _ h0 g0 _ _ rfl rfl
  go_enter Tryz.func55, Tryz.ntmps55
  go_wp2_with fail
  generalize (w.alloc (.cells #[.slice A0 a.length c0, .slice A1 ps.length c1] 30)).alloc (.cells #[.slice B0 b.length d0, .slice B1 qs.length d1] 30) = W1 at *
  generalize w.heap.size = g at *
  have x1 : W1.cell? ⟨g, 1, none⟩ = some (.slice A1 ps.length c1) := hX 1
  have y1 : W1.cell? ⟨g + 1, 1, none⟩ = some (.slice B1 qs.length d1) := hY 1
  clear hX hY
  by_cases hab : a = b
  · rw [decide_eq_true hab] at Q
    have Hab := Lib.hid hab
    clear hab
    refine Q.mono ?_
    rintro e w2 ⟨rfl, hd2⟩
    have hb2 := hd2.bel
    have Q2 := equalBags_c _ _ _ _ _ _ _ _ _ (h1.to hb2) (g1.to hb2) _ _ rfl rfl
    have Hr := Lib.hid (show decide ((a, ps) = (b, qs)) = decide (ps = qs) by rw [Hab.out]; simp)
    have x1 := cell_keep x1 (hb2.block (by simp only; omega))
    have y1 := cell_keep y1 (hb2.block (by simp only; omega))
    generalize decide (ps = qs) = r at *
    have HQ := Lib.hid Q2
    clear Q2
    go_wp2_with fail
    refine HQ.out.mono ?_
    rintro e w3 ⟨rfl, hb3⟩
    go_wp2
    go_ret
    exact ⟨by rw [Hr.out]; rfl, (hB1.trans hb2).trans hb3⟩
  · rw [decide_eq_false hab] at Q
    have Hr := Lib.hid (show decide ((a, ps) = (b, qs)) = false from decide_eq_false (fun e => hab (by injection e)))
    clear hab
    refine Q.mono ?_
    rintro e w2 ⟨rfl, hd2⟩
    go_wp2
    go_ret
    exact ⟨by rw [Hr.out]; rfl, hB1.trans hd2.bel⟩
end Go.Proofs.YtmdcgekiiopohaaGreat

/- The library: worlds that have grown: draws, and blocks behind. -/
namespace Go.Cb
open Go.RowKit Go.Sort
structure Grw (w w' : World) : Prop where mk :: (out : ∃ (q : Nat) (os : Array Obj), w' = grow (w.drewN q) os)
theorem Grw.refl (w : World) : Grw w w := ⟨0, #[], by rw [grow_empty]; rfl⟩
theorem Grw.trans {a b c : World} (h : Grw a b) (k : Grw b c) : Grw a c := by
  obtain ⟨q, os, rfl⟩ := h.out
  obtain ⟨q', os', rfl⟩ := k.out
  refine ⟨q + q', os ++ os', ?_⟩
  show grow (grow ((a.drewN q).drewN q') os) os' = _
  rw [grow_grow, World.drewN_drewN]
theorem Grw.alloc {a b : World} (h : Grw a b) (o : Obj) : Grw a (b.alloc o) := h.trans ⟨0, #[o], by
  show { b with heap := b.heap.push o } = { b with heap := b.heap ++ #[o], drawn := b.drawn + 0 }
  simp⟩
theorem Grw.drewN {a b : World} (h : Grw a b) (n : Nat) : Grw a (b.drewN n) := h.trans ⟨n, #[], by rw [grow_empty]⟩
theorem Grw.drew {a b : World} (h : Grw a b) : Grw a b.drew := h.drewN 1
theorem Grw.bel {w w' : World} (h : Grw w w') : Bel w w' := by
  obtain ⟨q, os, rfl⟩ := h.out
  exact ⟨⟨rfl, rfl, rfl, by simp [grow, World.drewN], fun k hk => by
    show (w.heap ++ os)[k]? = w.heap[k]?
    rw [Array.getElem?_append_left hk]⟩⟩
instance {w w' : World} : Coe (Grw w w') (Bel w w') := ⟨Grw.bel⟩
theorem Grw.size {a b : World} (h : Grw a b) : a.heap.size ≤ b.heap.size := h.bel.size
theorem Grw.block {a b : World} (h : Grw a b) {k : Nat} (hk : k < a.heap.size) : b.heap[k]? = a.heap[k]? := h.bel.block hk
theorem twoBoxesG (w : World) (a b : Array Value) (t : TypeId) :
    Grw w ((w.alloc (.cells a t)).alloc (.cells b t)) ∧ (∀ i, ((w.alloc (.cells a t)).alloc (.cells b t)).cell? ⟨w.heap.size, i, none⟩ = a[i]?) ∧
    (∀ i, ((w.alloc (.cells a t)).alloc (.cells b t)).cell? ⟨w.heap.size + 1, i, none⟩ = b[i]?) ∧ ((w.alloc (.cells a t)).alloc (.cells b t)).heap.size = w.heap.size + 2 := by
  obtain ⟨_, h⟩ := twoBoxes w a b t
  exact ⟨((Grw.refl _).alloc _).alloc _, h⟩
end Go.Cb

/- Walks: linear sets right, and their order: the worlds have but grown. -/
namespace Go.Proofs.YtmdcgekiiopohaaGreat
open Go.RowKit Go.Cb
theorem bagCompareBG_c (S S' : Nat → Prop) (A B : Option Addr) (ca cb : Nat) (a b : List Int) (w : World) (ha : Rd intT w S A ca a) (hb : Rd intT w S' B cb b) (n m : Nat) (hn : n = a.length) (hm : m = b.length) :
    Calls Tryz.prog 74 #[.slice A n ca, .slice B m cb] w fun e w' => e = .returned (.int .i64 (cmpB a b)) ∧ Grw w w' :=
  (bagCompare_c S S' A B ca cb a b w ha hb n m hn hm).mono fun _ _ ⟨h1, h2⟩ => ⟨h1, h2 ▸ Grw.refl _⟩

set_option maxHeartbeats 4000000 in
theorem linRightG_c (S S' : Nat → Prop) (A B : Option Addr) (ca cb : Nat) (b : List Int) (ps : List (List Int)) (w : World) (h0 : Rd intT w S A ca b) (h1 : Rd bagT w S' B cb ps) (n m : Nat) (hn : n = b.length) (hm : m = ps.length) :
    Calls Tryz.prog 48 #[.agg #[.slice A n ca, .slice B m cb]] w fun e w' => e = .returned (.bool (rightL (b, ps))) ∧ Grw w w' := by
  subst hn hm
  have lm := h1.lenMax
  cases hR : rightB b with
  | false =>
    have Hr := Lib.hid (rightL_no (l := (b, ps)) hR)
    go_enter Tryz.func48, Tryz.ntmps48
    go_wp2_with fail
    refine (right_c _ _ _ _ _ (h0.to ((Grw.refl _).alloc _).bel) _ rfl).mono ?_
    rintro e w' ⟨rfl, rfl⟩
    go_wp2_with fail
    go_ret
    exact ⟨by rw [Hr.out]; rfl, (Grw.refl _).alloc _⟩
  | true =>
    have HR := Lib.hid hR
    go_enter Tryz.func48, Tryz.ntmps48
    go_wp2_with fail
    refine (right_c _ _ _ _ _ (h0.to ((Grw.refl _).alloc _).bel) _ rfl).mono ?_
    rintro e w' ⟨rfl, rfl⟩
    go_wp2_with fail
    have hB1 : Grw w (w.alloc (.cells #[.slice A b.length ca, .slice B ps.length cb] 30)) := (Grw.refl _).alloc _
    have hC1 : (w.alloc (.cells #[.slice A b.length ca, .slice B ps.length cb] 30)).cell? ⟨w.heap.size, 1, none⟩ = some (.slice B ps.length cb) := cellAt (heap_alloc_new w _) 1
    have hS1 : w.heap.size < (w.alloc (.cells #[.slice A b.length ca, .slice B ps.length cb] 30)).heap.size := by simp
    clear hR h0
    generalize w.alloc (.cells #[.slice A b.length ca, .slice B ps.length cb] 30) = W1 at *
    generalize w.heap.size = g at *
    have h1 := h1.to hB1.bel
    go_loopw [2, 12] (fun v2 v12 wr => ∃ k : Nat, k ≤ ps.length ∧ v12 = .int .i64 k ∧ v2 = .bool false ∧ Hid (okTo ps k = true) ∧ Grw W1 wr) (fun _ v12 _ => ps.length - (intOf v12).toNat)
    case atStart => exact ⟨0, Nat.zero_le _, rfl, rfl, rfl, Grw.refl _⟩
    case round =>
      obtain ⟨k, hk, rfl, rfl, hp, hbl⟩ := hrel
      have hC1 := cell_keep hC1 (hbl.block hS1)
      have h1 := h1.to hbl.bel
      by_cases hlt : k < ps.length
      · obtain ⟨ad, P1, c1, rfl, hc1, hr1⟩ := h1.row hlt
        obtain ⟨p, hpe⟩ : ∃ p, ps[k] = p := ⟨_, rfl⟩
        rw [hpe] at hc1 hr1
        have lp := hr1.lenMax
        have Hpe := Lib.hid hpe
        clear hpe
        cases p with
        | nil =>
          have Hb := Lib.hid (rightL_bad (l := (b, ps)) hlt (by unfold okAt; rw [getDl_of hlt, Hpe.out]; rfl))
          go_wp2_with (go_at_call 20; refine (right_c _ _ _ _ _ hr1 _ rfl).mono ?_; rw [show rightB [] = true from rfl]; rintro e w' ⟨rfl, rfl⟩)
          go_ret
          exact ⟨by rw [Hb.out]; rfl, hB1.trans hbl⟩
        | cons x p =>
          cases hq : rightB (x :: p) with
          | false =>
            have Hb := Lib.hid (rightL_bad (l := (b, ps)) hlt (by unfold okAt; rw [getDl_of hlt, Hpe.out, hq]; rfl))
            go_wp2_with (go_at_call 20; refine (right_c _ _ _ _ _ hr1 _ rfl).mono ?_; rw [hq]; rintro e w' ⟨rfl, rfl⟩)
            go_ret
            exact ⟨by rw [Hb.out]; rfl, hB1.trans hbl⟩
          | true =>
            by_cases hk0 : 0 < k
            · obtain ⟨ad2, P2, c2, he2, hc2, hr2⟩ := h1.row (k := k - 1) (by omega)
              injection he2 with he2
              subst he2
              have hs := okTo_succ ps k
              rw [hp.out, okAt_next hlt hk0, Hpe.out, hq] at hs
              obtain ⟨q, hqe⟩ : ∃ q, ps[k - 1] = q := ⟨_, rfl⟩
              rw [hqe] at hc2 hr2 hs
              have Hs := Lib.hid hs
              have Hqe := Lib.hid hqe
              clear hs hqe
              by_cases hcm : cmpB q (x :: p) < 0
              · have hcd : decide (0 ≤ cmpB q (x :: p)) = false := decide_eq_false (by omega)
                have Hs2 := Lib.hid (show okTo ps (k + 1) = true from by rw [Hs.out, decide_eq_true hcm]; rfl)
                go_wp2_with (first
                  | (go_at_call 20; refine (right_c _ _ _ _ _ hr1 _ rfl).mono ?_; rw [hq]; rintro e w' ⟨rfl, rfl⟩)
                  | (go_at_call 74; refine (bagCompareBG_c _ _ _ _ _ _ _ _ _ hr2 hr1 _ _ rfl rfl).mono ?_; rintro e w5 ⟨rfl, hb5⟩))
                go_roundw
                case rel => exact ⟨k + 1, by omega, by go_num, rfl, Hs2.out, by first | exact hbl | exact hbl.trans hb5⟩
                case measure => simp [intOf]; omega
              · have hcd : decide (0 ≤ cmpB q (x :: p)) = true := decide_eq_true (by omega)
                have Hb := Lib.hid (rightL_bad (l := (b, ps)) hlt (by rw [okAt_next hlt hk0, Hpe.out, hq, Hqe.out, decide_eq_false hcm]; rfl))
                go_wp2_with (first
                  | (go_at_call 20; refine (right_c _ _ _ _ _ hr1 _ rfl).mono ?_; rw [hq]; rintro e w' ⟨rfl, rfl⟩)
                  | (go_at_call 74; refine (bagCompareBG_c _ _ _ _ _ _ _ _ _ hr2 hr1 _ _ rfl rfl).mono ?_; rintro e w5 ⟨rfl, hb5⟩))
                go_ret
                exact ⟨by rw [Hb.out]; rfl, by first | exact hB1.trans hbl | exact (hB1.trans hbl).trans hb5⟩
            · have Hs := Lib.hid (show okTo ps (k + 1) = true from by rw [okTo_succ, hp.out, okAt_first hlt hk0, Hpe.out, hq]; rfl)
              go_wp2_with (go_at_call 20; refine (right_c _ _ _ _ _ hr1 _ rfl).mono ?_; rw [hq]; rintro e w' ⟨rfl, rfl⟩)
              go_roundw
              case rel => exact ⟨k + 1, by omega, by go_num, rfl, Hs.out, hbl⟩
              case measure => simp [intOf]; omega
      · obtain rfl : k = ps.length := by omega
        have Hb := Lib.hid (rightL_yes (l := (b, ps)) HR.out hp.out)
        go_wp2
        go_ret
        exact ⟨by rw [Hb.out]; rfl, hB1.trans hbl⟩

set_option maxRecDepth 100000 in
set_option maxHeartbeats 4000000 in
theorem linCompareG_c (S0 S1 S2 S3 : Nat → Prop) (A0 A1 B0 B1 : Option Addr) (c0 c1 d0 d1 : Nat) (x y : Lin) (w : World) (h0 : Rd intT w S0 A0 c0 x.1) (h1 : Rd bagT w S1 A1 c1 x.2) (g0 : Rd intT w S2 B0 d0 y.1) (g1 : Rd bagT w S3 B1 d1 y.2)
    (n0 n1 m0 m1 : Nat) (hn0 : n0 = x.1.length) (hn1 : n1 = x.2.length) (hm0 : m0 = y.1.length) (hm1 : m1 = y.2.length) :
    Calls Tryz.prog 49 #[.agg #[.slice A0 n0 c0, .slice A1 n1 c1], .agg #[.slice B0 m0 d0, .slice B1 m1 d1]] w fun e w' => e = .returned (.int .i64 (cmpLin x y)) ∧ Grw w w' := by
  obtain ⟨a, ps⟩ := x
  obtain ⟨b, qs⟩ := y
  dsimp only at *
  subst hn0 hn1 hm0 hm1
  have l1 := h1.lenMax
  have l2 := g1.lenMax
  obtain ⟨hB1, hX, hY, hsz⟩ := twoBoxesG w #[.slice A0 a.length c0, .slice A1 ps.length c1] #[.slice B0 b.length d0, .slice B1 qs.length d1] 30
  have h0 := h0.to hB1.bel
  have g0 := g0.to hB1.bel
  have h1 := h1.to hB1.bel
  have g1 := g1.to hB1.bel
  have Q1 := linRightG_c _ _ _ _ _ _ _ _ _ h0 h1 _ _ rfl rfl
  cases hA : rightL (a, ps) with
  | false =>
    have He := Lib.hid (cmpLin_no1 (y := (b, qs)) hA)
    rw [hA] at Q1
    clear hA
    go_enter Tryz.func49, Tryz.ntmps49
    go_wp2_with fail
    generalize (w.alloc (.cells #[.slice A0 a.length c0, .slice A1 ps.length c1] 30)).alloc (.cells #[.slice B0 b.length d0, .slice B1 qs.length d1] 30) = W1 at *
    generalize w.heap.size = g at *
    clear hX hY
    refine Q1.mono ?_
    rintro e w' ⟨rfl, hb⟩
    go_wp2_with fail
    go_ret
    exact ⟨by rw [He.out]; rfl, hB1.trans hb⟩
  | true =>
    rw [hA] at Q1
    cases hB : rightL (b, qs) with
    | false =>
      have He := Lib.hid (cmpLin_no2 (x := (a, ps)) hB)
      have HB := Lib.hid hB
      clear hA hB
      go_enter Tryz.func49, Tryz.ntmps49
      go_wp2_with fail
      generalize (w.alloc (.cells #[.slice A0 a.length c0, .slice A1 ps.length c1] 30)).alloc (.cells #[.slice B0 b.length d0, .slice B1 qs.length d1] 30) = W1 at *
      generalize w.heap.size = g at *
      have hY0 : W1.cell? ⟨g + 1, 0, none⟩ = some (.slice B0 b.length d0) := hY 0
      have hY1 : W1.cell? ⟨g + 1, 1, none⟩ = some (.slice B1 qs.length d1) := hY 1
      clear hX hY
      refine Q1.mono ?_
      rintro e w2 ⟨rfl, hb⟩
      have hY0 := cell_keep hY0 (hb.block (by simp only; omega))
      have hY1 := cell_keep hY1 (hb.block (by simp only; omega))
      have Q2 := linRightG_c _ _ _ _ _ _ _ _ _ (g0.to hb.bel) (g1.to hb.bel) _ _ rfl rfl
      rw [HB.out] at Q2
      go_wp2_with fail
      refine Q2.mono ?_
      rintro e w3 ⟨rfl, hb3⟩
      go_wp2_with fail
      go_ret
      exact ⟨by rw [He.out]; rfl, (hB1.trans hb).trans hb3⟩
    | true =>
      have He := Lib.hid (cmpLin_yes hA hB)
      have HB := Lib.hid hB
      clear hA hB
      go_enter Tryz.func49, Tryz.ntmps49
      go_wp2_with fail
      generalize (w.alloc (.cells #[.slice A0 a.length c0, .slice A1 ps.length c1] 30)).alloc (.cells #[.slice B0 b.length d0, .slice B1 qs.length d1] 30) = W1 at *
      generalize w.heap.size = g at *
      have hX0 : W1.cell? ⟨g, 0, none⟩ = some (.slice A0 a.length c0) := hX 0
      have hX1 : W1.cell? ⟨g, 1, none⟩ = some (.slice A1 ps.length c1) := hX 1
      have hY0 : W1.cell? ⟨g + 1, 0, none⟩ = some (.slice B0 b.length d0) := hY 0
      have hY1 : W1.cell? ⟨g + 1, 1, none⟩ = some (.slice B1 qs.length d1) := hY 1
      clear hX hY
      refine Q1.mono ?_
      rintro e w2 ⟨rfl, hb⟩
      have hX0 := cell_keep hX0 (hb.block (by simp only; omega))
      have hX1 := cell_keep hX1 (hb.block (by simp only; omega))
      have hY0 := cell_keep hY0 (hb.block (by simp only; omega))
      have hY1 := cell_keep hY1 (hb.block (by simp only; omega))
      have Q2 := linRightG_c _ _ _ _ _ _ _ _ _ (g0.to hb.bel) (g1.to hb.bel) _ _ rfl rfl
      rw [HB.out] at Q2
      go_wp2_with fail
      refine Q2.mono ?_
      rintro e w3 ⟨rfl, hb3⟩
      have hb13 := hb.trans hb3
      have hs2 := hb.size
      have hX0 := cell_keep hX0 (hb3.block (by simp only; omega))
      have hX1 := cell_keep hX1 (hb3.block (by simp only; omega))
      have hY0 := cell_keep hY0 (hb3.block (by simp only; omega))
      have hY1 := cell_keep hY1 (hb3.block (by simp only; omega))
      go_wp2_with fail
      refine wp_region_still_tail 17 (by kernel_rfl) (by kernel_rfl) ?_
      simp only [List.take_succ_cons, List.take_zero, List.drop_succ_cons, List.drop_zero]
      change wpStill _ _ w3.drew (fun a' => wpList _ _ _ _ a' w3.drew) _ _
      have hb4 : Grw W1 w3.drew := hb13.drew
      have hbw : Grw w3 w3.drew := (Grw.refl _).drew
      have hX0 := cell_keep hX0 (hbw.block (by have := hb3.size; simp only; omega))
      have hX1 := cell_keep hX1 (hbw.block (by have := hb3.size; simp only; omega))
      have hY0 := cell_keep hY0 (hbw.block (by have := hb3.size; simp only; omega))
      have hY1 := cell_keep hY1 (hbw.block (by have := hb3.size; simp only; omega))
      clear hbw
      generalize w3.drew = w4 at *
      have R1 := (bagCompare_c _ _ _ _ _ _ _ _ _ (h0.to hb4.bel) (g0.to hb4.bel) _ _ rfl rfl).mono fun _ _ (h : _ ∧ _) => (⟨h.1, h.2.symm⟩ : _ ∧ _)
      have R2 := (compareBags_c _ _ _ _ _ _ _ _ _ (h1.to hb4.bel) (g1.to hb4.bel) _ _ rfl rfl).mono fun _ _ (h : _ ∧ _) => (⟨h.1, h.2.symm⟩ : _ ∧ _)
      have R3 := (cmpCompare_c (ps.length : Int) (qs.length : Int) w4).mono fun _ _ (h : _ ∧ _) => (⟨h.1, h.2.symm⟩ : _ ∧ _)
      repeat (first | still_step | still_call R1 | still_call R2 | still_call R3)
      refine wpStill_nil ?_
      generalize hB4 : cmpB a b = z0 at *
      generalize cmpI (ps.length : Int) (qs.length : Int) = z1 at *
      generalize cmpBy cmpB ps qs = z2 at *
      clear hB4 R1 R2 R3 hX0 hX1 hY0 hY1
      go_wp2_with fail
      refine (orL_c _ _ _ [z0, z1, z2] _ (Rd.lit (enc := Value.int .i64) w4 3 [z0, z1, z2] (by simp [maxLen])) _ rfl).mono ?_
      rintro e w5 ⟨rfl, rfl⟩
      go_wp2_with fail
      go_ret
      exact ⟨by rw [He.out, or3_list]; rfl, hB1.trans (hb4.alloc _)⟩
end Go.Proofs.YtmdcgekiiopohaaGreat

/- slices.SortFunc over linear sets: the library's contract at a row of the call's own. -/
namespace Go.Proofs
open Go.Shelf Go.RowKit Go.Lib Go.Sort
def Tryz.pdqS_ren : Go.Shelf.Ren := ⟨fun | 14 => 79 | 20 => 94 | 21 => 95 | 22 => 96 | 23 => 97 | 24 => 98 | 25 => 99 | 26 => 100 | 27 => 101 | 46 => 112 | 47 => 113 | 48 => 114 | 49 => 115 | 50 => 116 | 15 => 26 | 57 => 120 | 28 => 56 | 29 => 57 | n => n, fun | 24 => 30 | 22 => 23 | 3 => 3 | 25 => 90 | 4 => 4 | 0 => 0 | 46 => 129 | 45 => 128 | 50 => 56 | 66 => 139 | 39 => 65 | 55 => 98 | 70 => 143 | 76 => 147 | 77 => 148 | 53 => 96 | 5 => 5 | 9 => 9 | n => n, fun | n => n⟩
theorem Tryz.pdqS : Go.Proofs.SlLaysF0.n14 Tryz.prog Tryz.pdqS_ren := {
  mixed := by kernel_rfl
  f14 := ⟨Tryz.f79.name, by decide, Tryz.func79.trans (congrArg some (by kernel_rfl))⟩
  f15 := Tryz.func26.trans (congrArg some (by kernel_rfl))
  f20 := ⟨Tryz.f94.name, by decide, Tryz.func94.trans (congrArg some (by kernel_rfl))⟩
  f21 := ⟨Tryz.f95.name, by decide, Tryz.func95.trans (congrArg some (by kernel_rfl))⟩
  f22 := ⟨Tryz.f96.name, by decide, Tryz.func96.trans (congrArg some (by kernel_rfl))⟩
  f23 := ⟨Tryz.f97.name, by decide, Tryz.func97.trans (congrArg some (by kernel_rfl))⟩
  f24 := ⟨Tryz.f98.name, by decide, Tryz.func98.trans (congrArg some (by kernel_rfl))⟩
  f25 := ⟨Tryz.f99.name, by decide, Tryz.func99.trans (congrArg some (by kernel_rfl))⟩
  f26 := ⟨Tryz.f100.name, by decide, Tryz.func100.trans (congrArg some (by kernel_rfl))⟩
  f27 := ⟨Tryz.f101.name, by decide, Tryz.func101.trans (congrArg some (by kernel_rfl))⟩
  f28 := Tryz.func56.trans (congrArg some (by kernel_rfl))
  f29 := Tryz.func57.trans (congrArg some (by kernel_rfl))
  f46 := ⟨Tryz.f112.name, by decide, Tryz.func112.trans (congrArg some (by kernel_rfl))⟩
  f47 := Tryz.func113.trans (congrArg some (by kernel_rfl))
  f48 := Tryz.func114.trans (congrArg some (by kernel_rfl))
  f49 := ⟨Tryz.f115.name, by decide, Tryz.func115.trans (congrArg some (by kernel_rfl))⟩
  f50 := ⟨Tryz.f116.name, by decide, Tryz.func116.trans (congrArg some (by kernel_rfl))⟩
  f57 := ⟨Tryz.f120.name, by decide, Tryz.func120.trans (congrArg some (by kernel_rfl))⟩
  t0 := Tryz.underlying0
  a0 := Tryz.isAgg0
  z0 := Tryz.sizeOf0
  v0 := Tryz.zeroValue0
  t3 := Tryz.underlying3
  a3 := Tryz.isAgg3
  z3 := Tryz.sizeOf3
  v3 := Tryz.zeroValue3
  t4 := Tryz.underlying4
  a4 := Tryz.isAgg4
  z4 := Tryz.sizeOf4
  v4 := Tryz.zeroValue4
  t5 := Tryz.underlying5
  a5 := Tryz.isAgg5
  z5 := Tryz.sizeOf5
  v5 := Tryz.zeroValue5
  t9 := Tryz.underlying9
  a9 := Tryz.isAgg9
  z9 := Tryz.sizeOf9
  v9 := Tryz.zeroValue9
  t22 := Tryz.underlying23
  a22 := Tryz.isAgg23
  z22 := Tryz.sizeOf23
  v22 := Tryz.zeroValue23
  t25 := Tryz.underlying90
  a25 := Tryz.isAgg90
  z25 := Tryz.sizeOf90
  v25 := Tryz.zeroValue90
  t39 := Tryz.underlying65
  a39 := Tryz.isAgg65
  z39 := Tryz.sizeOf65
  v39 := Tryz.zeroValue65
  t45 := Tryz.underlying128
  a45 := Tryz.isAgg128
  z45 := Tryz.sizeOf128
  v45 := Tryz.zeroValue128
  t46 := Tryz.underlying129
  a46 := Tryz.isAgg129
  z46 := Tryz.sizeOf129
  v46 := Tryz.zeroValue129
  t50 := Tryz.underlying56
  a50 := Tryz.isAgg56
  z50 := Tryz.sizeOf56
  v50 := Tryz.zeroValue56
  t53 := Tryz.underlying96
  a53 := Tryz.isAgg96
  z53 := Tryz.sizeOf96
  v53 := Tryz.zeroValue96
  t55 := Tryz.underlying98
  a55 := Tryz.isAgg98
  z55 := Tryz.sizeOf98
  v55 := Tryz.zeroValue98
  t66 := Tryz.underlying139
  a66 := Tryz.isAgg139
  z66 := Tryz.sizeOf139
  v66 := Tryz.zeroValue139
  t70 := Tryz.underlying143
  a70 := Tryz.isAgg143
  z70 := Tryz.sizeOf143
  v70 := Tryz.zeroValue143
  t76 := Tryz.underlying147
  a76 := Tryz.isAgg147
  z76 := Tryz.sizeOf147
  v76 := Tryz.zeroValue147
  t77 := Tryz.underlying148
  a77 := Tryz.isAgg148
  z77 := Tryz.sizeOf148
  v77 := Tryz.zeroValue148 }
end Go.Proofs
namespace Go.Proofs.YtmdcgekiiopohaaGreat
open Go.RowKit Go.Cb Go.Sort Go.Proofs Go.Shelf
/-- A linear set where it lies: it reads so in w, outside of block g; its words may be written to. -/
abbrev LinAt (w : World) (S : Nat → Prop) (g : Nat) : Type := { x : (Option Addr × Nat) × (Option Addr × Nat) × Lin // (RdW w (fun q => (S q ∧ q ≠ g) ∧ q < w.heap.size) x.1.1 x.1.2 x.2.2.1 ∧ Rd wbT w (fun q => (S q ∧ q ≠ g) ∧ q < w.heap.size) x.2.1.1 x.2.1.2 x.2.2.2) ∧ rightL x.2.2 = true }
instance (w : World) (S : Nat → Prop) (g : Nat) : Inhabited (LinAt w S g) := ⟨⟨((none, 0), (none, 0), ([], [])), ⟨RdW.nil _ _ _ _ (by decide), Rd.nil _ _ _ _ _ (by decide)⟩, rfl⟩⟩
def encS {w : World} {S : Nat → Prop} {g : Nat} (x : LinAt w S g) : List Value := [.slice x.1.1.1 x.1.2.2.1.length x.1.1.2, .slice x.1.2.1.1 x.1.2.2.2.length x.1.2.1.2]
def cfS {w : World} {S : Nat → Prop} {g : Nat} (x y : LinAt w S g) : Int := cmpLin x.1.2.2 y.1.2.2
theorem swoS {w : World} {S : Nat → Prop} {g : Nat} : SWO (ltOf (cfS (w := w) (S := S) (g := g))) where
  irrefl := fun x => decide_eq_false (by show ¬ cmpLin _ _ < 0; have := cmpLin_neg x.1.2.2 x.1.2.2; omega)
  trans := fun x y z h1 h2 => decide_eq_true (linO.ltt x.2.2 y.2.2 z.2.2 (of_decide_eq_true h1) (of_decide_eq_true h2))
  ntrans := fun x y z h1 h2 => decide_eq_false (by
    have h1 : ¬ cmpLin x.1.2.2 y.1.2.2 < 0 := of_decide_eq_false h1
    have h2 : ¬ cmpLin y.1.2.2 z.1.2.2 < 0 := of_decide_eq_false h2
    show ¬ cmpLin x.1.2.2 z.1.2.2 < 0
    have a1 := cmpLin_neg x.1.2.2 y.1.2.2
    have a2 := cmpLin_neg y.1.2.2 z.1.2.2
    have a3 := cmpLin_neg x.1.2.2 z.1.2.2
    have := cmpLin_trans z.2.2 y.2.2 x.2.2 (by omega) (by omega)
    omega)
theorem sortWK_heap {α : Type} [Inhabited α] (enc : α → List Value) (k : Nat) (w : World) (g m : Nat) (dk : Array α) (os : Array Obj) {i : Nat} (hk : i < w.heap.size) (hne : i ≠ g) : (sortWorldK enc k w g 0 m dk os).heap[i]? = w.heap[i]? :=
  sortW_heap id w g 0 m (flatK enc k dk) os hk hne
theorem cmpS {w : World} {S : Nat → Prop} {g : Nat} (n : Nat) : CmpLays Tryz.prog 49 #[] (encS (w := w) (S := S) (g := g)) 2 cfS g 0 n w := fun m os dk _ x y => by
  have hx0 := x.2.1.1.rd.step' (w' := sortWorldK encS 2 w g 0 m dk os) (fun k hk => sortWK_heap encS 2 w g m dk os hk.2 hk.1.2)
  have hx1 := x.2.1.2.bags.step' (w' := sortWorldK encS 2 w g 0 m dk os) (fun k hk => sortWK_heap encS 2 w g m dk os hk.2 hk.1.2)
  have hy0 := y.2.1.1.rd.step' (w' := sortWorldK encS 2 w g 0 m dk os) (fun k hk => sortWK_heap encS 2 w g m dk os hk.2 hk.1.2)
  have hy1 := y.2.1.2.bags.step' (w' := sortWorldK encS 2 w g 0 m dk os) (fun k hk => sortWK_heap encS 2 w g m dk os hk.2 hk.1.2)
  exact (linCompareG_c _ _ _ _ _ _ _ _ _ _ _ _ x.1.2.2 y.1.2.2 _ hx0 hx1 hy0 hy1 _ _ _ _ rfl rfl rfl rfl).mono fun e w' ⟨he, hg⟩ => ⟨he, hg.out⟩
theorem own_srow {w : World} {base n c : Nat} {e : TypeId} {A : Option Addr} {S : Nat → Prop} {xs : SemS} (h : Own wlinT e w base S (.slice A n c) xs) {k : Nat} (hk : k < xs.length) :
    ∃ g A0 c0 A1 c1, A = some ⟨g, 0, none⟩ ∧ base ≤ g ∧ g < w.heap.size ∧ w.cell? ⟨g, k * 2, none⟩ = some (.slice A0 xs[k].1.length c0) ∧ w.cell? ⟨g, k * 2 + 1, none⟩ = some (.slice A1 xs[k].2.length c1) ∧ RdW w (fun q => S q ∧ q ≠ g) A0 c0 xs[k].1 ∧ Rd wbT w (fun q => S q ∧ q ≠ g) A1 c1 xs[k].2 ∧ ∀ i, w.frozen? ⟨g, i, none⟩ = false := by
  obtain ⟨A', c', he, _⟩ := h.rd
  injection he with e1 e2 e3
  subst e1 e2 e3
  obtain ⟨g, rfl, hg1, hg2⟩ := h.addr (by omega)
  obtain ⟨inner, ho, hr⟩ := h
  have hil : inner.length = xs.length * 2 := ho.1
  obtain ⟨cs0, cs1, hcs, ⟨A0, c0, rfl, r0⟩, ⟨A1, c1, rfl, r1⟩⟩ := hr k xs[k] (List.getElem?_eq_getElem hk)
  have h1 : (inner.drop (k * 2)).take 2 = [.slice A0 xs[k].1.length c0, .slice A1 xs[k].2.length c1] := hcs
  have g0 : inner[k * 2 + 0]? = some (.slice A0 xs[k].1.length c0) := by
    have : ((inner.drop (k * 2)).take 2)[0]? = some (.slice A0 xs[k].1.length c0) := by rw [h1]; rfl
    rwa [List.getElem?_take, if_pos (by omega), List.getElem?_drop] at this
  have g1 : inner[k * 2 + 1]? = some (.slice A1 xs[k].2.length c1) := by
    have : ((inner.drop (k * 2)).take 2)[1]? = some (.slice A1 xs[k].2.length c1) := by rw [h1]; rfl
    rwa [List.getElem?_take, if_pos (by omega), List.getElem?_drop] at this
  have f0 := ho.cells (g := g) rfl _ _ g0
  have f1 := ho.cells (g := g) rfl _ _ g1
  rw [add_plain] at f0 f1
  exact ⟨g, A0, c0, A1, c1, rfl, hg1, hg2, f0, f1, r0.mono (fun q hq => ⟨hq.1, fun e => hq.2 (by rw [e]; rfl)⟩), r1.mono (fun q hq => ⟨hq.1, fun e => hq.2 (by rw [e]; rfl)⟩), fun i => World.ownsRow.frozenAt ho i⟩
set_option maxHeartbeats 2000000 in
set_option maxRecDepth 100000 in
theorem sortFn_c {α : Type} [Inhabited α] (enc : α → List Value) (hk : ∀ x, (enc x).length = 2) (h1 : ∀ x, ∀ v ∈ enc x, v.oneCell' = true) (cf : α → α → Int) (hO : SWO (ltOf cf)) {g c : Nat} (d : Array α) (w : World) (hcmp : CmpLays Tryz.prog 49 #[] enc 2 cf g 0 d.size w) (hH : HoldsK enc 2 w g 0 d) (hblk : g < w.heap.size) (hsz : d.size < 4611686018427387904) :
    Calls Tryz.prog 53 #[.slice (some ⟨g, 0, none⟩) d.size c, .func (.func 49) #[] #[]] w fun e w' =>
      e = .returned (.tuple #[]) ∧ ∃ d' n os, PermIn 0 d.size d d' ∧ SortedIn (ltOf cf) 0 d.size d' ∧ w' = sortWorldK enc 2 w g 0 n d' os := by
  have hlim : Lib.bitLen d.size < 4611686018427387904 := Nat.lt_of_le_of_lt (Lib.bitLen_le d.size 62 (by omega) (by omega)) (by omega)
  have hp := AnyQ.pdqsortCmpFunc_all Tryz.pdqS 2 (fun _ => by kernel_rfl) (fun _ => by kernel_rfl) enc cf 49 #[] hO g 0 c d w (enters_of Tryz.func49 (by kernel_rfl) rfl) hcmp ⟨hk, h1, hH, hblk⟩ (d.size + 1) 0 d.size (Lib.bitLen d.size) d w (by omega) rfl (SWK.start hH) (Nat.zero_le _) (Nat.le_refl _) hsz hlim (Or.inl rfl)
  have hl : Calls Tryz.prog 26 #[.int .u64 (d.size : Int)] w fun e w' => e = .returned (.int .i64 (Lib.bitLen d.size : Nat)) ∧ w' = w := by
    have h := Any.bits_Len (SlLaysF0.n15.bits { Tryz.pdqS with }) (d.size : Int) w (by omega) (by omega)
    rwa [Int.toNat_natCast] at h
  change Calls Tryz.prog 79 _ _ _ at hp
  have wr : IntKind.u64.wrap (d.size : Int) = d.size := by simp [IntKind.wrap, IntKind.bits, IntKind.signed]; omega
  have HP := Lib.hid hp
  have HL := Lib.hid hl
  have HS := Lib.hid (pdq_sorts (ltOf cf) hO d 0 d.size (Lib.bitLen d.size) true true (Nat.zero_le _) (Nat.le_refl _) (Or.inl rfl))
  clear hp hl hH hcmp h1 hlim hk hO
  go_enter Tryz.func53, Tryz.ntmps53
  go_wp2_with fail
  refine HL.out.mono ?_
  rintro e w1 ⟨rfl, rfl⟩
  go_wp2_with fail
  refine HP.out.mono ?_
  rintro e w2 ⟨rfl, n, os, rfl⟩
  go_wp2
  go_end0
  exact ⟨rfl, _, n, os, HS.out.1, HS.out.2, rfl⟩
set_option maxHeartbeats 2000000 in
/-- slices.SortFunc(s, lin.Compare) over right linear sets: what it held, sorted. -/
theorem sortS_c {w : World} {base g c n : Nat} {S : Nat → Prop} {xs : SemS} (h : Own wlinT 30 w base S (.slice (some ⟨g, 0, none⟩) n c) xs) (hn : n = xs.length) (hr : ∀ p ∈ xs, rightL p = true) (hsm : n < 4611686018427387904) :
    Calls Tryz.prog 53 #[.slice (some ⟨g, 0, none⟩) n c, .func (.func 49) #[] #[]] w fun e w' =>
      e = .returned (.tuple #[]) ∧ ∃ ys, ys.Perm xs ∧ (ys.Pairwise fun x y => ¬ cmpLin y x < 0) ∧ Own wlinT 30 w' base S (.slice (some ⟨g, 0, none⟩) n c) ys ∧ w.grownBy w' (some g) := by
  subst hn
  have hgl : g < w.heap.size := h.lt rfl
  have hex : ∀ i : Fin xs.length, ∃ a : LinAt w S g, a.1.2.2 = xs[i] ∧ w.cell? ⟨g, i.1 * 2, none⟩ = (encS a)[0]? ∧ w.cell? ⟨g, i.1 * 2 + 1, none⟩ = (encS a)[1]? := fun i => by
    obtain ⟨g', A0, c0, A1, c1, e1, _, _, f0, f1, r0, r1, _⟩ := own_srow h i.2
    obtain rfl : g = g' := by injection e1 with e1; injection e1
    exact ⟨⟨((A0, c0), (A1, c1), xs[i]), ⟨r0.bound, r1.bound⟩, hr _ (List.getElem_mem _)⟩, rfl, f0, f1⟩
  obtain ⟨f, hf⟩ := Classical.axiomOfChoice hex
  obtain ⟨d, hd⟩ : ∃ d : Array (LinAt w S g), d = Array.ofFn f := ⟨_, rfl⟩
  have hds : d.size = xs.length := by rw [hd, Array.size_ofFn]
  have hdj : ∀ j (hj : j < xs.length), d[j]! = f ⟨j, hj⟩ := fun j hj => by rw [getElem!_pos d j (by omega)]; simp [hd]
  obtain ⟨inner, ho, hr2⟩ := h
  have hfz : ∀ j, w.frozen? ⟨g, j, none⟩ = false := fun j => World.ownsRow.frozenAt ho j
  have hH : HoldsK encS 2 w g 0 d := fun t ht => by
    rw [size_flatK] at ht
    obtain ⟨q, r, hr3, rfl⟩ : ∃ q r, r < 2 ∧ t = q * 2 + r := ⟨t / 2, t % 2, Nat.mod_lt _ (by omega), by omega⟩
    have hq : q < xs.length := by omega
    rw [get_flatK _ _ _ _ ht, Nat.zero_add, show (q * 2 + r) / 2 = q by omega, show (q * 2 + r) % 2 = r by omega, hdj q hq]
    refine ⟨?_, hfz _⟩
    obtain ⟨_, h0, h1⟩ := hf ⟨q, hq⟩
    have h01 : r = 0 ∨ r = 1 := by omega
    show w.cell? ⟨g, q * 2 + r, none⟩ = some (id _)
    rcases h01 with rfl | rfl
    · exact h0
    · exact h1
  have hcon := sortFn_c encS (fun _ => rfl) (fun x v hv => by
    simp only [encS, List.mem_cons, List.not_mem_nil, or_false] at hv
    rcases hv with rfl | rfl <;> rfl) cfS swoS d w (cmpS d.size) hH hgl (by omega) (c := c)
  rw [hds] at hcon
  refine hcon.mono ?_
  rintro e w' ⟨rfl, d', m, os, hp, hs, rfl⟩
  have hd's : d'.size = xs.length := by rw [hp.1, hds]
  have hmap : d.toList.map (fun a => a.1.2.2) = xs := by
    apply List.ext_getElem?
    intro k
    by_cases hk : k < xs.length
    · have e1 : d[k]'(by omega) = f ⟨k, hk⟩ := by rw [← hdj k hk, getElem!_pos d k (by omega)]
      rw [List.getElem?_map, Array.getElem?_toList, Array.getElem?_eq_getElem (by omega), e1, List.getElem?_eq_getElem hk]
      show some (f ⟨k, hk⟩).1.2.2 = _
      rw [(hf ⟨k, hk⟩).1]; rfl
    · rw [List.getElem?_eq_none (by rw [List.length_map, Array.length_toList]; omega), List.getElem?_eq_none (by omega)]
  have hperm : (d'.toList.map fun a => a.1.2.2).Perm xs := by
    have h3 := hp.2.2
    rw [show d'.extract 0 xs.length = d' by rw [← hd's]; simp, show d.extract 0 xs.length = d by rw [← hds]; simp] at h3
    have h4 := h3.map (fun a : LinAt w S g => a.1.2.2)
    rw [hmap] at h4
    exact h4
  have hlen : (d'.toList.map fun a => a.1.2.2).length = xs.length := by rw [List.length_map, Array.length_toList]; exact hd's
  have hgrow : w.grownBy (sortWorldK encS 2 w g 0 m d' os) (some g) := ⟨rfl, rfl, rfl, by
    show w.heap.size ≤ ((putRow id (Sort.ahead w m) g 0 (flatK encS 2 d')).heap ++ os).size
    rw [Array.size_append, Go.Sort.size_putRow]
    show w.heap.size ≤ w.heap.size + os.size
    omega, fun k hk hne => sortWK_heap encS 2 w g m d' os hk (fun e => hne (by rw [e]))⟩
  have hflat : ∀ j (hj : j < d'.size), ((flatK encS 2 d').toList.drop (j * 2)).take 2 = encS d'[j] := fun j hj => by
    have hsz := size_flatK encS 2 d'
    apply List.ext_getElem?
    intro i
    by_cases hi : i < 2
    · have hlt : j * 2 + i < (flatK encS 2 d').size := by rw [hsz]; omega
      have hi2 : i < (encS d'[j]).length := hi
      have e5 : (flatK encS 2 d')[j * 2 + i]! = (encS d'[j])[i] := by
        rw [get_flatK _ _ _ _ (by omega), show (j * 2 + i) / 2 = j by omega, show (j * 2 + i) % 2 = i by omega, getElem!_pos d' j hj, getElem!_pos (encS d'[j]) i hi2]
      rw [List.getElem?_take, if_pos hi, List.getElem?_drop, Array.getElem?_toList, Array.getElem?_eq_getElem hlt, List.getElem?_eq_getElem hi2, ← e5, getElem!_pos (flatK encS 2 d') (j * 2 + i) hlt]
    · rw [List.getElem?_eq_none (by simp; omega), List.getElem?_eq_none (show (encS d'[j]).length ≤ i by show 2 ≤ i; omega)]
  refine ⟨rfl, _, hperm, ?_, ⟨(flatK encS 2 d').toList, ?_, fun j x hj => ?_⟩, hgrow⟩
  · refine List.pairwise_iff_getElem.2 fun i j hi hj hij => ?_
    rw [hlen] at hi hj
    have h5 := hs i j (Nat.zero_le _) hij hj
    rw [getElem!_pos d' j (by omega), getElem!_pos d' i (by omega)] at h5
    have h6 : ¬ cmpLin (d'[j]'(by omega)).1.2.2 (d'[i]'(by omega)).1.2.2 < 0 := of_decide_eq_false h5
    simpa using h6
  · refine ⟨by rw [Array.length_toList, size_flatK, hd's, hlen]; rfl, ?_⟩
    rcases ho.2 with ⟨e1, e2⟩ | ⟨g', cap, cur, e1, b1, b2, b3, b4, b5, b6⟩
    · injection e1 with e1; cases e1
    · injection e1 with e1 _ e3
      injection e1 with e1
      injection e1 with e1
      subst e1 e3
      have hsz2 : wlinT.sz = 2 := rfl
      rw [hsz2] at b5
      refine .inr ⟨g, c, _, by rw [hlen], b1, sortW_row id w g m (flatK encS 2 d') os b2, by rw [hlen]; exact b3, b4, ?_, ?_⟩
      · unfold putCells
        rw [Array.size_mapIdx, hsz2]; exact b5
      · rw [hlen, hsz2]
        have := putC_take id cur (flatK encS 2 d') (by rw [size_flatK]; omega)
        rw [size_flatK, hd's] at this
        rw [this]
        simp
  · rw [List.getElem?_map, Array.getElem?_toList] at hj
    obtain ⟨a, ha, rfl⟩ := Option.map_eq_some_iff.1 hj
    obtain ⟨hja, rfl⟩ := Array.getElem?_eq_some_iff.1 ha
    have e1 : ((flatK encS 2 d').toList.drop (j * wlinT.sz)).take wlinT.sz = encS d'[j] := hflat j hja
    rw [e1]
    have q0 := (d'[j].2.1.1.step' (fun k hk => sortWK_heap encS 2 w g m d' os hk.2 hk.1.2)).mono (S' := fun k => S k ∧ some k ≠ (Value.slice (some ⟨g, 0, none⟩) xs.length c).ownBlock) (fun k hk => ⟨hk.1.1, fun e => hk.1.2 (Option.some.inj e)⟩)
    have q1 := (d'[j].2.1.2.step' (fun k hk => sortWK_heap encS 2 w g m d' os hk.2 hk.1.2)).mono (S' := fun k => S k ∧ some k ≠ (Value.slice (some ⟨g, 0, none⟩) xs.length c).ownBlock) (fun k hk => ⟨hk.1.1, fun e => hk.1.2 (Option.some.inj e)⟩)
    exact ⟨[_], [_], rfl, ⟨_, _, rfl, q0⟩, ⟨_, _, rfl, q1⟩⟩
end Go.Proofs.YtmdcgekiiopohaaGreat

/- Walks: slices.CompactFunc over linear sets, slices.SortFunc of none. -/
namespace Go.Cb
open Go.RowKit
theorem setL_get {cs xs : List Value} {o : Nat} (h : o + cs.length ≤ xs.length) (k : Nat) : (setL xs o cs)[k]? = if k < o then xs[k]? else if k < o + cs.length then cs[k - o]? else xs[k]? := by
  rw [setL_eq cs xs o h, List.append_assoc, List.getElem?_append, List.length_take, Nat.min_eq_left (by omega)]
  by_cases h1 : k < o
  · rw [if_pos h1, if_pos h1, List.getElem?_take, if_pos h1]
  · rw [if_neg h1, if_neg h1, List.getElem?_append]
    by_cases h2 : k < o + cs.length
    · rw [if_pos h2, if_pos (by omega)]
    · rw [if_neg h2, if_neg (by omega), List.getElem?_drop]
      congr 1; omega
theorem bel_grown {w w' : World} {row : Option Nat} (h : Bel w w') : w.grownBy w' row := ⟨h.out.os, h.out.tape, h.out.output, h.size, fun _ hk _ => h.block hk⟩
section
variable {α : Type} {d : Ty α} {e : TypeId} {w : World} {base g n cap : Nat} {S : Nat → Prop} {xs : List α}
/-- A store into a row, of all the cells of one of its elements. -/
theorem Own.setK (h : Own d e w base S (.slice (some ⟨g, 0, none⟩) n cap) xs) (hn : n = xs.length) {i : Nat} (hi : i < n) {x : α} {us : List Value} (hul : us.length = d.sz) (hu : d.rd w (fun k => S k ∧ k ≠ g) x us) :
    Own d e (w.setCells g (i * d.sz) us) base S (.slice (some ⟨g, 0, none⟩) n cap) (xs.set i x) ∧ w.grownBy (w.setCells g (i * d.sz) us) (some g) := by
  subst hn
  obtain ⟨inner, ho, hr⟩ := h
  obtain ⟨h2, hg, _⟩ := ownsRow_setCells us (i * d.sz) w inner ho
  have hil : inner.length = xs.length * d.sz := ho.1
  have hle : i * d.sz + d.sz ≤ xs.length * d.sz := by rw [← Nat.succ_mul]; exact Nat.mul_le_mul_right _ hi
  have hget := fun t => setL_get (cs := us) (xs := inner) (o := i * d.sz) (by rw [hul]; omega) t
  rw [hul] at hget
  have keep : ∀ y cs, d.rd w (fun k => S k ∧ k ≠ g) y cs → d.rd (w.setCells g (i * d.sz) us) (fun k => S k ∧ some k ≠ (Value.slice (some ⟨g, 0, none⟩) xs.length cap).ownBlock) y cs := fun y cs hy =>
    d.mono (fun q hq => ⟨hq.1, fun e => hq.2 (by injection e)⟩) (d.rd_step hy (fun q hq hlt => hg.block q hlt (fun e => hq.2 (by injection e))))
  refine ⟨⟨_, by rw [List.length_set]; exact h2, fun j y hj => ?_⟩, hg⟩
  by_cases e1 : j = i
  · subst e1
    rw [List.getElem?_set_self hi] at hj
    injection hj with hj
    subst hj
    have : ((setL inner (j * d.sz) us).drop (j * d.sz)).take d.sz = us := by
      apply List.ext_getElem?
      intro t
      rw [List.getElem?_take]
      by_cases ht : t < d.sz
      · rw [if_pos ht, List.getElem?_drop, hget, if_neg (by omega), if_pos (by omega)]
        congr 1; omega
      · rw [if_neg ht, List.getElem?_eq_none (by omega)]
    rw [this]
    exact keep _ _ hu
  · rw [List.getElem?_set_ne (fun h => e1 h.symm)] at hj
    have h4 := hr j y hj
    have : ((setL inner (i * d.sz) us).drop (j * d.sz)).take d.sz = (inner.drop (j * d.sz)).take d.sz := by
      apply List.ext_getElem?
      intro t
      rw [List.getElem?_take, List.getElem?_take]
      by_cases ht : t < d.sz
      · rw [if_pos ht, if_pos ht, List.getElem?_drop, List.getElem?_drop, hget]
        rcases Nat.lt_or_gt_of_ne e1 with h5 | h5
        · have : (j + 1) * d.sz ≤ i * d.sz := Nat.mul_le_mul_right _ h5
          rw [Nat.succ_mul] at this
          rw [if_pos (by omega)]
        · have : (i + 1) * d.sz ≤ j * d.sz := Nat.mul_le_mul_right _ h5
          rw [Nat.succ_mul] at this
          rw [if_neg (by omega), if_neg (by omega)]
      · rw [if_neg ht, if_neg ht]
    rw [this]
    exact keep _ _ (d.mono (fun q hq => ⟨hq.1, fun e => hq.2 (by rw [e]; rfl)⟩) h4)
/-- What stands from k on, overwritten: the row up to k. -/
theorem Own.clearK (h : Own d e w base S (.slice (some ⟨g, 0, none⟩) n cap) xs) (hn : n = xs.length) {k : Nat} (hk : k ≤ n) {cs : List Value} (hcs : k * d.sz + cs.length ≤ n * d.sz) :
    Own d e (w.setCells g (k * d.sz) cs) base S (.slice (some ⟨g, 0, none⟩) k cap) (xs.take k) ∧ w.grownBy (w.setCells g (k * d.sz) cs) (some g) := by
  subst hn
  obtain ⟨inner, ho, hr⟩ := h
  obtain ⟨r1, g1, _⟩ := ownsRow_setCells cs (k * d.sz) w inner ho
  have hil : inner.length = xs.length * d.sz := ho.1
  have r2 := ownsRow_prefix r1 hk
  rw [setL_take] at r2
  refine ⟨⟨inner.take (k * d.sz), by rw [List.length_take, Nat.min_eq_left hk]; exact r2, fun j x hj => ?_⟩, g1⟩
  have hj2 : j < k := by have := (List.getElem?_eq_some_iff.1 hj).1; rw [List.length_take] at this; omega
  rw [List.getElem?_take, if_pos hj2] at hj
  have h1 := hr j x hj
  have hle : j * d.sz + d.sz ≤ k * d.sz := by rw [← Nat.succ_mul]; exact Nat.mul_le_mul_right _ hj2
  rw [List.drop_take, List.take_take, Nat.min_eq_left (by omega)]
  exact d.rd_step h1 (fun q hq hlt => g1.block q hlt hq.2)
end
theorem zeroCells2 (z : Value) (x y : Value) (hz : z.cells = #[x, y]) (hx : x.oneCell' = true) (hy : y.oneCell' = true) (m : Nat) :
    (Builtin.zeroCells z.cells m).toList.length = m * 2 ∧ ∀ v ∈ (Builtin.zeroCells z.cells m).toList, v.oneCell' = true := by
  rw [hz]
  refine ⟨by simp [Builtin.zeroCells], fun v hv => ?_⟩
  simp only [Builtin.zeroCells, Array.toList_map, List.mem_map] at hv
  obtain ⟨i, _, rfl⟩ := hv
  have : i % 2 = 0 ∨ i % 2 = 1 := by omega
  rcases this with h | h
  · show (#[x, y][i % 2]!).oneCell' = true
    rw [h]; exact hx
  · show (#[x, y][i % 2]!).oneCell' = true
    rw [h]; exact hy
theorem run_clearK {P : Program} (w : World) (t e ty : TypeId) (z : Value) (zs : List Value) (ht : P.underlying t = some (.slice e)) (hv : ∀ w, (zeroValue e).run P w = .ok z w) (m : Nat) (hm : 0 < m) (hzc : (Builtin.zeroCells z.cells m).toList = zs) (h1 : ∀ v ∈ zs, v.oneCell' = true) (b o c : Nat)
    (hc : ∀ j, j < zs.length → (w.cell? ⟨b, o + j, none⟩).isSome = true) (hf : ∀ j, j < zs.length → w.frozen? ⟨b, o + j, none⟩ = false) :
    (Builtin.clear_ #[t] ty #[.slice (some ⟨b, o, none⟩) m c]).run P w = .ok (.tuple #[]) (w.setCells b o zs) := by
  have hst := run_storeCells_cells (P := P) b o zs 0 w (by simpa using hc) (by simpa using hf) h1
  simp only [Nat.add_zero] at hst
  obtain ⟨k, rfl⟩ : ∃ k, m = k + 1 := ⟨m - 1, by omega⟩
  simp [Builtin.clear_, run_underlying ht, hv, hzc, hst]
end Go.Cb
namespace Go.Proofs.YtmdcgekiiopohaaGreat
open Go.RowKit Go.Cb Go.Sort Go.Shelf
theorem zero_lin (w : World) : (zeroValue 30).run Tryz.prog w = .ok (.agg #[.slice none 0 0, .slice none 0 0]) w := by kernel_rfl
theorem sortSNil_c (p : Option Addr) (cap : Nat) (w : World) :
    Calls Tryz.prog 53 #[.slice p 0 cap, .func (.func 49) #[] #[]] w fun e w' => e = .returned (.tuple #[]) ∧ w' = w := by
  have hl : Calls Tryz.prog 26 #[.int .u64 0] w fun e w' => e = .returned (.int .i64 0) ∧ w' = w := by
    have h := Any.bits_Len (SlLaysF0.n15.bits { Tryz.pdqS with }) 0 w (by omega) (by omega)
    exact h
  have hp := AnyF.pdqsortCmpFunc_none { Tryz.pdqS with } p cap 0 (.func (.func 49) #[] #[]) w
  change Calls Tryz.prog 79 _ _ _ at hp
  have HP := Lib.hid hp
  have HL := Lib.hid hl
  clear hp hl
  go_enter Tryz.func53, Tryz.ntmps53
  go_wp2_with fail
  refine HL.out.mono ?_
  rintro e w1 ⟨rfl, rfl⟩
  go_wp2_with fail
  refine HP.out.mono ?_
  rintro e w2 ⟨rfl, rfl⟩
  go_wp2
  go_end0
  exact ⟨rfl, rfl⟩
end Go.Proofs.YtmdcgekiiopohaaGreat

/- Walks: slices.CompactFunc over linear sets. -/
namespace Go.Proofs.YtmdcgekiiopohaaGreat
open Go.RowKit Go.Cb Go.Sort
set_option maxHeartbeats 4000000 in
set_option maxRecDepth 100000 in
theorem compactS_c {w : World} {base c n : Nat} {A : Option Addr} {S : Nat → Prop} {xs : SemS} (h : Own wlinT 30 w base S (.slice A n c) xs) (hn : n = xs.length) :
    Calls Tryz.prog 54 #[.slice A n c, .func (.func 55) #[] #[]] w fun e w' =>
      e = .returned (.slice A (cmpctO xs).length c) ∧ Own wlinT 30 w' base S (.slice A (cmpctO xs).length c) (cmpctO xs) ∧ w.grownBy w' (Value.slice A n c).ownBlock := by
  have hcf : ∀ (args : Array Value) (w : World), (callFunc 55 args).run Tryz.prog w = .ok (.enter 55 args) w := fun _ _ => by kernel_rfl
  have hcap : n ≤ c ∧ c ≤ 9223372036854775807 := by
    obtain ⟨A', c', he, hr⟩ := h.rd
    injection he with e1 e2 e3
    have h1 := hr.cap
    have h2 := hr.capMax
    unfold maxLen at h2
    subst e3
    omega
  obtain ⟨hc1, hc2⟩ := hcap
  have HH := Lib.hid h
  have HN := Lib.hid hn
  clear h hn
  by_cases h2 : n < 2
  · have Hs := Lib.hid (show cmpctO xs = xs by
      have := HN.out
      rcases xs with _ | ⟨x, _ | ⟨y, r⟩⟩
      · rfl
      · rfl
      · simp at this; omega)
    have d1 : decide ((n : Int) < 2) = true := decide_eq_true (by omega)
    go_enter Tryz.func54, Tryz.ntmps54
    go_wp2
    go_ret
    refine ⟨by rw [Hs.out, ← HN.out]; rfl, by rw [Hs.out, ← HN.out]; exact HH.out, ⟨rfl, rfl, rfl, Nat.le_refl _, fun _ _ _ => rfl⟩⟩
  · have d1 : decide ((n : Int) < 2) = false := decide_eq_false (by omega)
    go_enter Tryz.func54, Tryz.ntmps54
    go_wp2
    go_loopw [5] (fun v5 wr => ∃ (k : Nat) (W : World), W = wr ∧ 1 ≤ k ∧ k ≤ n ∧ v5 = .int .i64 k ∧ Hid (cmpctO (xs.take k) = xs.take k) ∧ Bel w W) (fun v5 _ => n - (intOf v5).toNat)
    case atStart => exact ⟨1, _, rfl, Nat.le_refl _, by omega, rfl, (by
      have := HN.out
      rcases xs with _ | ⟨x, r⟩
      · rfl
      · rfl : cmpctO (xs.take 1) = xs.take 1), Bel.refl _⟩
    case round =>
      obtain ⟨k, W, rfl, hk1, hkn, rfl, HP, hd⟩ := hrel
      by_cases hlt : k < n
      · have hown := HH.out.to hd
        obtain ⟨g, A0, c0, A1, c1, rfl, hg1, hg2, x0, x1, r0, r1, hf0⟩ := own_srow hown (k := k) (by rw [← HN.out]; exact hlt)
        obtain ⟨g', B0, d0, B1, d1', e', _, _, y0, y1, q0, q1, _⟩ := own_srow hown (k := k - 1) (by rw [← HN.out]; omega)
        obtain rfl : g = g' := by injection e' with e'; injection e'
        obtain ⟨x, hx⟩ : ∃ x, xs[k]'(by rw [← HN.out]; exact hlt) = x := ⟨_, rfl⟩
        obtain ⟨y, hy⟩ : ∃ y, xs[k - 1]'(by rw [← HN.out]; omega) = y := ⟨_, rfl⟩
        have HX := Lib.hid (show xs[k]? = some x by rw [List.getElem?_eq_getElem (by rw [← HN.out]; exact hlt), hx])
        have HY := Lib.hid (show xs[k - 1]? = some y by rw [List.getElem?_eq_getElem (by rw [← HN.out]; omega), hy])
        rw [hx] at x0 x1 r0 r1
        rw [hy] at y0 y1 q0 q1
        have hw : IntKind.i64.wrap ((k : Int) - 1) = ((k - 1 : Nat) : Int) := by rw [IntKind.wrap_i64]; omega
        have hct := cmpctO_take hk1 HY.out HX.out
        have X0 := cellReg x0
        have X1 := cellReg x1
        have Y0 := cellReg y0
        have Y1 := cellReg y1
        have hDR := Lib.hid (show ∀ (q : Nat) (os : Array Obj), Own wlinT 30 (grow (redrawn W q) os) base S (.slice (some ⟨g, 0, none⟩) n c) xs from fun q os => hown.to (bel_regrown _ _ _))
        obtain ⟨z, hz⟩ : ∃ z, decide (x = y) = z := ⟨_, rfl⟩
        have K1 := Lib.hid (show ∀ W', Bel W W' → Calls Tryz.prog 55 #[.agg #[.slice A0 x.1.length c0, .slice A1 x.2.length c1], .agg #[.slice B0 y.1.length d0, .slice B1 y.2.length d1']] W' fun e w' => e = .returned (.bool z) ∧ Bel W' w' from fun W' h => by
          have := same_c _ _ _ _ _ _ _ _ _ _ _ _ x y W' (r0.rd.to h) (r1.bags.to h) (q0.rd.to h) (q1.bags.to h) _ _ _ _ rfl rfl rfl rfl
          rw [hz] at this
          exact this)
        clear hx hy r0 r1 q0 q1 e' x0 x1 y0 y1 hown
        cases z with
        | true =>
          have he := of_decide_eq_true hz
          rw [if_pos he.symm, HP.out] at hct
          have HC := Lib.hid hct
          clear he hct hz
          have hb1 : ¬ (c = k) := by omega
          have hb2 : (k : Int) ≤ (n : Int) := by omega
          go_wp2_with fail
          refine wp_region_quiet_below (by kernel_rfl) (by kernel_rfl) ?_
          repeat (go_big_quiet_step (first | with_reducible exact callsReg K1.out))
          refine wpQuiet_nil ?_
          intro _ hw'
          obtain ⟨⟨dq, oq⟩, hw''⟩ := hw'
          subst hw''
          clear K1
          go_wp2
          go_loopw [5, 7] (fun v5 v7 wr => ∃ (kk j : Nat) (W2 : World) (ys : SemS), W2 = wr ∧ 1 ≤ j ∧ j ≤ n - k ∧ v5 = .int .i64 kk ∧ v7 = .int .i64 j ∧ kk + 1 ≤ k + j ∧ Hid (kk = (cmpctO (xs.take (k + j))).length) ∧ Hid (ys.length = n) ∧ Own wlinT 30 W2 base S (.slice (some ⟨g, 0, none⟩) n c) ys ∧ Hid (ys.take kk = cmpctO (xs.take (k + j))) ∧ Hid (∀ i, k + j - 1 ≤ i → ys[i]? = xs[i]?) ∧ w.grownBy W2 (some g)) (fun _ v7 _ => n - k - (intOf v7).toNat)
          case atStart => exact ⟨k, 1, _, xs, rfl, Nat.le_refl _, by omega, rfl, rfl, Nat.le_refl _, (by rw [HC.out, List.length_take, ← HN.out]; omega : k = (cmpctO (xs.take (k + 1))).length), HN.out.symm, hDR.out _ _, HC.out.symm, (fun i _ => rfl : ∀ i, k + 1 - 1 ≤ i → xs[i]? = xs[i]?), bel_grown (hd.trans (bel_regrown _ _ _))⟩
          case round =>
            clear hf0 hDR X0 X1 Y0 Y1
            obtain ⟨kk, j, W2, ys, rfl, hj1, hjn, rfl, rfl, hkj, HKK, HYL, hO, HT, HE, hG⟩ := hrel
            by_cases hjl : j < n - k
            · obtain ⟨g2, A2, c2, A3, c3, e2, _, _, x0, x1, r0, r1, _⟩ := own_srow hO (k := k + j) (by rw [HYL.out]; omega)
              obtain rfl : g = g2 := by injection e2 with e2; injection e2
              obtain ⟨g3, B2, d2, B3, d3, e3, _, _, y0, y1, q0, q1, _⟩ := own_srow hO (k := k + (j - 1)) (by rw [HYL.out]; omega)
              obtain rfl : g = g3 := by injection e3 with e3; injection e3
              obtain ⟨g4, B4, d4, B5, d5, e4, _, hg4, z0, z1, _, _, hfk⟩ := own_srow hO (k := kk) (by rw [HYL.out]; omega)
              obtain rfl : g = g4 := by injection e4 with e4; injection e4
              obtain ⟨u, hu⟩ : ∃ u, ys[k + j]'(by rw [HYL.out]; omega) = u := ⟨_, rfl⟩
              obtain ⟨z, hz⟩ : ∃ z, ys[k + (j - 1)]'(by rw [HYL.out]; omega) = z := ⟨_, rfl⟩
              have HU := Lib.hid (show xs[k + j]? = some u by rw [← HE.out (k + j) (by omega), List.getElem?_eq_getElem (by rw [HYL.out]; omega), hu])
              have HZ := Lib.hid (show xs[k + (j - 1)]? = some z by rw [← HE.out (k + (j - 1)) (by omega), List.getElem?_eq_getElem (by rw [HYL.out]; omega), hz])
              rw [hu] at x0 x1 r0 r1
              rw [hz] at y0 y1 q0 q1
              rw [Nat.add_mul] at x0 x1 y0 y1
              have hw2 : IntKind.i64.wrap ((j : Int) - 1) = ((j - 1 : Nat) : Int) := by rw [IntKind.wrap_i64]; omega
              have hct2 := cmpctO_take (l := xs) (k := k + j) (by omega) (by rw [show k + j - 1 = k + (j - 1) by omega]; exact HZ.out) HU.out
              clear hu hz e2 e3 e4
              have X0 := cellReg x0
              have X1 := cellReg x1
              have Y0 := cellReg y0
              have Y1 := cellReg y1
              have Z0 := cellReg z0
              have Z1 := cellReg z1
              obtain ⟨b, hb⟩ : ∃ b, decide (u = z) = b := ⟨_, rfl⟩
              have K2 := Lib.hid (show ∀ W', Bel W2 W' → Calls Tryz.prog 55 #[.agg #[.slice A2 u.1.length c2, .slice A3 u.2.length c3], .agg #[.slice B2 z.1.length d2, .slice B3 z.2.length d3]] W' fun e w' => e = .returned (.bool b) ∧ Bel W' w' from fun W' h => by
                have := same_c _ _ _ _ _ _ _ _ _ _ _ _ u z W' (r0.rd.to h) (r1.bags.to h) (q0.rd.to h) (q1.bags.to h) _ _ _ _ rfl rfl rfl rfl
                rw [hb] at this
                exact this)
              have hDO := Lib.hid (show ∀ (q : Nat) (os : Array Obj), Own wlinT 30 (grow (redrawn W2 q) os) base S (.slice (some ⟨g, 0, none⟩) n c) ys from fun q os => hO.to (bel_regrown _ _ _))
              have hDS := Lib.hid (show ∀ (q : Nat) (os : Array Obj), wlinT.rd (grow (redrawn W2 q) os) (fun k => S k ∧ k ≠ g) u [.slice A2 u.1.length c2, .slice A3 u.2.length c3] from fun q os => ⟨[_], [_], rfl, ⟨_, _, rfl, r0.to (bel_regrown _ _ _)⟩, ⟨_, _, rfl, r1.to (bel_regrown _ _ _)⟩⟩)
              have hFR := fun (q : Nat) (os : Array Obj) (i : Nat) => (own_srow (hDO.out q os) (k := kk) (by have := HYL.out; omega)).elim fun g9 h9 => by
                obtain ⟨_, _, _, _, e9, _, _, _, _, _, _, f9⟩ := h9
                obtain rfl : g = g9 := by injection e9 with e9; injection e9
                exact f9 i
              clear x0 x1 y0 y1 z0 z1 q0 q1 r0 r1 hO
              cases b with
              | true =>
                have he := of_decide_eq_true hb
                rw [if_pos he.symm] at hct2
                have HC2 := Lib.hid hct2
                clear he hct2 hb
                go_wp2_with fail
                refine wp_region_quiet_below (by kernel_rfl) (by kernel_rfl) ?_
                repeat (go_big_quiet_step (first | with_reducible exact callsReg K2.out))
                refine wpQuiet_nil ?_
                intro _ hw'
                obtain ⟨⟨dq, oq⟩, hw''⟩ := hw'
                subst hw''
                clear K2
                go_wp2
                go_roundw
                case rel => exact ⟨kk, j + 1, _, ys, rfl, by omega, by omega, rfl, by go_num, by omega, (by rw [show k + (j + 1) = k + j + 1 by omega, HC2.out]; exact HKK.out : kk = (cmpctO (xs.take (k + (j + 1)))).length), HYL.out, hDO.out _ _, (by rw [show k + (j + 1) = k + j + 1 by omega, HC2.out]; exact HT.out : ys.take kk = cmpctO (xs.take (k + (j + 1)))), (fun i hi => HE.out i (by omega) : ∀ i, k + (j + 1) - 1 ≤ i → ys[i]? = xs[i]?), grown_trans hG (bel_grown (bel_regrown _ _ _))⟩
                case measure => simp [intOf]; omega
              | false =>
                have he := of_decide_eq_false hb
                rw [if_neg (fun h => he h.symm)] at hct2
                have HC2 := Lib.hid hct2
                clear he hct2 hb
                go_wp2_with fail
                refine wp_region_quiet_below (by kernel_rfl) (by kernel_rfl) ?_
                repeat (go_big_quiet_step (first | with_reducible exact callsReg K2.out))
                refine wpQuiet_nil ?_
                intro _ hw'
                obtain ⟨⟨dq, oq⟩, hw''⟩ := hw'
                subst hw''
                clear K2
                have hst := Lib.hid (Own.setK (hDO.out dq oq) HYL.out.symm (i := kk) (by omega) (x := u) (us := [.slice A2 u.1.length c2, .slice A3 u.2.length c3]) rfl (hDS.out dq oq))
                have hF := hFR dq oq
                go_wp2
                go_roundw
                case rel => exact ⟨kk + 1, j + 1, _, ys.set kk u, rfl, by omega, by omega, by go_num, by go_num, by omega, (by rw [show k + (j + 1) = k + j + 1 by omega, HC2.out, List.length_append, ← HKK.out]; rfl : kk + 1 = (cmpctO (xs.take (k + (j + 1)))).length), (by rw [List.length_set]; exact HYL.out : (ys.set kk u).length = n), hst.out.1, (by rw [show k + (j + 1) = k + j + 1 by omega, HC2.out, set_take (by rw [HYL.out]; omega), HT.out] : (ys.set kk u).take (kk + 1) = cmpctO (xs.take (k + (j + 1)))), (fun i hi => by rw [List.getElem?_set_ne (by omega)]; exact HE.out i (by omega) : ∀ i, k + (j + 1) - 1 ≤ i → (ys.set kk u)[i]? = xs[i]?), grown_trans (grown_trans hG (bel_grown (bel_regrown _ _ _))) hst.out.2⟩
                case measure => simp [intOf]; omega
            · have hjk : k + j = n := by omega
              have htx : xs.take n = xs := List.take_of_length_le (by rw [← HN.out]; exact Nat.le_refl _)
              have HK2 := Lib.hid (show kk = (cmpctO xs).length by have := HKK.out; rw [hjk, htx] at this; exact this)
              have HT2 := Lib.hid (show ys.take kk = cmpctO xs by have := HT.out; rw [hjk, htx] at this; exact this)
              clear htx
              obtain ⟨zs, hzs⟩ : ∃ zs, (Builtin.zeroCells (Value.agg #[.slice none 0 0, .slice none 0 0]).cells (n - kk)).toList = zs := ⟨_, rfl⟩
              obtain ⟨zl, z1⟩ := zeroCells2 (Value.agg #[.slice none 0 0, .slice none 0 0]) (.slice none 0 0) (.slice none 0 0) rfl rfl rfl (n - kk)
              rw [hzs] at zl z1
              have hcl := fun ty c0 => run_clearK (P := Tryz.prog) W2 24 30 ty (.agg #[.slice none 0 0, .slice none 0 0]) zs Tryz.underlying24 zero_lin (n - kk) (by omega) hzs z1 g (kk * 2) c0
                (fun i hi => by
                  have h01 : i % 2 = 0 ∨ i % 2 = 1 := by omega
                  obtain ⟨g5, _, _, _, _, e5, _, _, h5, h6, _, _, _⟩ := own_srow hO (k := kk + i / 2) (by rw [HYL.out]; omega)
                  obtain rfl : g = g5 := by injection e5 with e5; injection e5
                  rcases h01 with h01 | h01
                  · rw [show kk * 2 + i = (kk + i / 2) * 2 by omega, h5]; rfl
                  · rw [show kk * 2 + i = (kk + i / 2) * 2 + 1 by omega, h6]; rfl)
                (fun i hi => by
                  obtain ⟨g5, _, _, _, _, e5, _, _, _, _, _, _, h5⟩ := own_srow hO (k := kk) (by rw [HYL.out]; omega)
                  obtain rfl : g = g5 := by injection e5 with e5; injection e5
                  exact h5 _)
              obtain ⟨o1, g1⟩ := Own.clearK hO HYL.out.symm (k := kk) (by omega) (cs := zs) (by show kk * 2 + zs.length ≤ n * 2; rw [zl]; omega)
              rw [HT2.out] at o1
              have hG2 := grown_trans hG g1
              have hb3 : ¬ (c = kk) := by omega
              have hb4 : (kk : Int) ≤ (n : Int) := by omega
              have hb5 : kk ≤ c := by omega
              have hb6 : (kk : Int) ≤ (c : Int) := by omega
              have HO1 := Lib.hid o1
              clear o1 g1 hO hjk zl z1 hzs
              go_wp2
              go_ret
              exact ⟨by rw [← HK2.out]; rfl, by rw [← HK2.out]; exact HO1.out, hG2⟩
        | false =>
          have he := of_decide_eq_false hz
          rw [if_neg (fun h => he h.symm), HP.out] at hct
          have HC := Lib.hid (show cmpctO (xs.take (k + 1)) = xs.take (k + 1) by rw [hct, List.take_add_one, HX.out]; rfl)
          clear he hct hz
          go_wp2_with fail
          refine wp_region_quiet_below (by kernel_rfl) (by kernel_rfl) ?_
          repeat (go_big_quiet_step (first | with_reducible exact callsReg K1.out))
          refine wpQuiet_nil ?_
          intro _ hw'
          obtain ⟨⟨dq, oq⟩, hw''⟩ := hw'
          subst hw''
          clear K1
          go_wp2
          go_roundw
          case rel => exact ⟨k + 1, _, rfl, by omega, by omega, by go_num, HC.out, hd.trans (bel_regrown _ _ _)⟩
          case measure => simp [intOf]; omega
      · obtain rfl : k = n := by omega
        have Hs := Lib.hid (show cmpctO xs = xs by have := HP.out; rw [List.take_of_length_le (by rw [← HN.out]; exact Nat.le_refl _)] at this; exact this)
        go_wp2
        go_ret
        exact ⟨by rw [Hs.out, ← HN.out]; rfl, by rw [Hs.out, ← HN.out]; exact HH.out.to hd, bel_grown hd⟩
end Go.Proofs.YtmdcgekiiopohaaGreat

/- Walks: semi.Of, semi.Same. -/
namespace Go.Cb
open Go.RowKit
theorem lit_rd {b : Nat} {w : World} {A0 A1 : Option Addr} {c0 c1 : Nat} {x : Lin} (r0 : RdW w (Ge b) A0 c0 x.1) (r1 : Rd wbT w (Ge b) A1 c1 x.2) (hb : b ≤ w.heap.size) (t : TypeId) :
    Rd wlinT (w.alloc (.cells #[.slice A0 x.1.length c0, .slice A1 x.2.length c1] t)) (Ge b) (some ⟨w.heap.size, 0, none⟩) 1 [x] := by
  have hal : Bel w (w.alloc (.cells #[.slice A0 x.1.length c0, .slice A1 x.2.length c1] t)) := (Bel.refl _).alloc _
  have h3 := heap_alloc_new w (.cells #[.slice A0 x.1.length c0, .slice A1 x.2.length c1] t)
  refine ⟨by simp, by decide, fun j y hj => ?_⟩
  rcases j with _ | j
  · obtain rfl : x = y := by simpa using hj
    refine ⟨_, [.slice A0 x.1.length c0, .slice A1 x.2.length c1], rfl, hb, ⟨[_], [_], rfl, ⟨_, _, rfl, r0.to hal⟩, ⟨_, _, rfl, r1.to hal⟩⟩, fun i u hu => ?_⟩
    rw [add_plain, cellAt h3, show 0 * wlinT.sz + i = i by omega]
    rcases i with _ | _ | i
    · exact hu
    · exact hu
    · simp at hu
  · simp at hj
theorem Own.toGrown {α : Type} {d : Ty α} {e : TypeId} {w w' : World} {base : Nat} {S : Nat → Prop} {v : Value} {xs : List α} (hb : Bel w w') (h : Own d e w base S v xs) : Own d e w' base S v xs := h.to hb
end Go.Cb
namespace Go.Proofs.YtmdcgekiiopohaaGreat
open Go.RowKit Go.Cb Go.Sort Go.Shelf
set_option maxRecDepth 100000 in
set_option maxHeartbeats 8000000 in
theorem semiOf_c (S : Nat → Prop) (A : Option Addr) (c : Nat) (l : SemS) (w : World) (h : Rd linT w S A c l) (n : Nat) (hn : n = l.length) (hl : l.length ≤ 4294967296) (hl3 : ∀ x ∈ l, x.2.length ≤ 4294967296) :
    Calls Tryz.prog 25 #[.slice A n c] w fun e w' => ∃ v, e = .returned (.tuple #[v, .bool (ofS l).2]) ∧ Own wlinT 30 w' w.heap.size (Ge w.heap.size) v (ofS l).1 ∧ Bel w w' := by
  subst hn
  have lm := h.lenMax
  have HL3 := Lib.hid hl3
  clear hl3
  go_enter Tryz.func25, Tryz.ntmps25
  go_wp2
  go_loopw [2, 8] (fun v2 v8 wr => ∃ (k : Nat) (W : World) (AO : Option Addr) (cO : Nat), W = wr ∧ k ≤ l.length ∧ v8 = .int .i64 k ∧ v2 = .slice AO k cO ∧ Hid (∀ y ∈ l.take k, rightL y = true) ∧
      Own wlinT 30 W w.heap.size (Ge w.heap.size) (.slice AO k cO) (l.take k) ∧ Bel w W) (fun _ v8 _ => l.length - (intOf v8).toNat)
  case atStart => exact ⟨0, _, none, 0, rfl, Nat.zero_le _, rfl, rfl, (fun y hy => by simp at hy : ∀ y ∈ l.take 0, rightL y = true), Own.nil _ _ _ _ _, Bel.refl _⟩
  case round =>
    obtain ⟨k, W, AO, cO, rfl, hk, rfl, rfl, HR, hO, hb⟩ := hrel
    by_cases hlt : k < l.length
    · obtain ⟨ad, A0, c0, A1, c1, rfl, g0, g1, r0, r1⟩ := (h.to hb).lrow hlt
      obtain ⟨x, hx⟩ : ∃ x, l[k] = x := ⟨_, rfl⟩
      have HX := Lib.hid (show l[k]? = some x by rw [List.getElem?_eq_getElem hlt, hx])
      have HT := Lib.hid (show l.take (k + 1) = l.take k ++ [x] by rw [List.take_add_one, HX.out]; rfl)
      have hx2 := HL3.out l[k] (List.getElem_mem hlt)
      rw [hx] at g0 g1 r0 r1 hx2
      have hal : Bel W (W.alloc (.cells #[.slice A0 x.1.length c0, .slice A1 x.2.length c1] 30)) := (Bel.refl _).alloc _
      have T := Box.new W 30 (.slice A0 x.1.length c0) (.slice A1 x.2.length c1)
      have hb1 := hb.trans hal
      replace r0 := (r0.to hal).all
      replace r1 := (r1.to hal).all
      have HO := Lib.hid (hO.to hal)
      have HG := Lib.hid (fun j hj => hO.lt (k := j) hj)
      have hbs := hb.size
      obtain ⟨t0, t1, _, _⟩ := T.cells
      clear hx hO
      go_wp2_with fail
      clear g0 g1 t0 t1
      generalize W.alloc (.cells #[.slice A0 x.1.length c0, .slice A1 x.2.length c1] 30) = W1 at *
      have hTl := T.lt
      generalize W.heap.size = TG at *
      have Q1 := linRight_c _ _ _ _ _ _ x.1 x.2 W1 r0 r1 _ _ rfl rfl
      rw [show ((x.1, x.2) : Lin) = x from rfl] at Q1
      cases hr : rightL x with
      | false =>
        have He := Lib.hid (ofS_no (List.mem_of_getElem? HX.out) hr)
        rw [hr] at Q1
        have HQ1 := Lib.hid Q1
        clear hr Q1
        refine HQ1.out.mono ?_
        rintro e w2 ⟨rfl, hb2⟩
        go_wp2
        go_ret2
        exact ⟨.slice none 0 0, by rw [He.out]; rfl, by rw [He.out]; exact Own.nil _ _ _ _ _, hb1.trans hb2⟩
      | true =>
        have HR2 := Lib.hid (all_snocL HX.out HR.out hr)
        have hxb : x.1.length ≤ 4294967296 := by
          have := hr
          obtain ⟨xa, xp⟩ := x
          have := right_len (rightL_iff.1 this).1
          show xa.length ≤ _
          omega
        have HX3 := Lib.hid (show ∀ p ∈ x.2, p.length ≤ 4294967296 from fun p hp => by
          obtain ⟨xa, xp⟩ := x
          have := right_len ((rightL_iff.1 hr).2.each p hp).2
          omega)
        rw [hr] at Q1
        have HQ1 := Lib.hid Q1
        clear hr Q1
        refine HQ1.out.mono ?_
        rintro e w2 ⟨rfl, hb2⟩
        clear HQ1
        have T2 := T.to hb2
        obtain ⟨t0, t1, _, _⟩ := T2.cells
        go_wp2_with fail
        clear t0 t1
        refine (copied_c _ _ _ _ _ _ x w2 (r0.to hb2) (r1.to hb2) _ _ rfl rfl hxb hx2 HX3.out).mono ?_
        rintro e w3 ⟨v3, rfl, ⟨B0, d0, B1, d1, rfl, q0, q1⟩, hb3⟩
        have hal3 : Bel w3 (w3.alloc (.cells #[.slice B0 x.1.length d0, .slice B1 x.2.length d1] 30)) := (Bel.refl _).alloc _
        have hb13 := hb1.trans (hb2.trans (hb3.trans hal3))
        have HR3 := Lib.hid (lit_rd q0 q1 hb3.size 30)
        have HO3 := Lib.hid (HO.out.to (hb2.trans (hb3.trans hal3)))
        have h2s := hb2.size
        clear q0 q1 T T2 r0 r1 HO
        go_wp2_with (at_builtin; refine wp_append wlinT (w0 := w) 24 30 (.agg #[.slice none 0 0, .slice none 0 0]) 48 rfl _ _ rfl Tryz.underlying24 info_lin rfl (Ge w.heap.size) (Ge w2.heap.size) (.slice AO k cO) (l.take k) [x] (some ⟨w3.heap.size, 0, none⟩) 1 1 rfl rfl rfl HO3.out HR3.out (wlinT.rdS (fun j hj _ => ⟨by unfold Ge at *; omega, fun e => by have := HG.out j e.symm; unfold Ge at *; omega⟩)) hb13 (by simp [maxLen]; omega) (by simp; omega) ?_; rintro v6 w6 ho6 hb6 _ _; rw [← HT.out] at ho6; obtain ⟨A6, c6, hv6⟩ := ho6.form; rw [List.length_take, Nat.min_eq_left (by omega)] at hv6; subst hv6)
        go_roundw
        case rel => exact ⟨k + 1, _, A6, c6, rfl, by omega, by go_num, rfl, HR2.out, ho6, hb6⟩
        case measure => simp [intOf]; omega
    · obtain rfl : k = l.length := by omega
      rw [List.take_length] at hO
      have HRl := Lib.hid (show ∀ y ∈ l, rightL y = true by have := HR.out; rwa [List.take_length] at this)
      clear HR hlt HL3
      rcases Nat.eq_zero_or_pos l.length with h0 | h0
      · obtain rfl : l = [] := List.eq_nil_of_length_eq_zero h0
        go_wp2_with fail
        refine (sortSNil_c _ _ _).mono ?_
        rintro e w2 ⟨rfl, rfl⟩
        go_wp2_with fail
        refine (compactS_c hO rfl).mono ?_
        rintro e w3 ⟨rfl, ho3, hg3⟩
        go_wp2
        go_ret2
        exact ⟨_, rfl, ho3, hb.grown hg3 (fun j hj => hO.ge hj)⟩
      · obtain ⟨g, rfl, hg1, hg2⟩ := hO.addr h0
        go_wp2_with fail
        refine (sortS_c hO rfl HRl.out (by omega)).mono ?_
        rintro e w2 ⟨rfl, ys, hp, hs, ho2, hg⟩
        have HF := Lib.hid (ofS_sorted HRl.out hp hs)
        have hpl := hp.length_eq
        have hg2s := hg.size
        go_wp2_with fail
        refine (compactS_c ho2 hpl.symm).mono ?_
        rintro e w3 ⟨rfl, ho3, hg3⟩
        go_wp2
        go_ret2
        refine ⟨_, by rw [HF.out]; rfl, by rw [HF.out]; exact ho3, ?_⟩
        exact (hb.grown hg (fun j hj => by obtain rfl : g = j := Option.some.inj hj; exact hg1)).grown hg3 (fun j hj => by obtain rfl : g = j := Option.some.inj hj; exact hg1)
end Go.Proofs.YtmdcgekiiopohaaGreat
