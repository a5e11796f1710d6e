/- Walks: linear sets alike; points; their order. -/
import Derived.Test.YtghdleofbkalbaaLin1
import Derived.Test.YtghdleofbkalbaaPure6
import Derived.StillTailTactics
namespace Go.Proofs.Ytghdleofbkalbaa
open Go.RowKit Go.Cb

set_option maxHeartbeats 2000000 in
theorem sameBag_c (S S' : Nat → Prop) (A B : Option Addr) (ca cb : Nat) (a b : List Int) (w : World) (ha : Rd intT w S A ca a) (hb : Rd intT w S' B cb b) (n m : Nat) (hn : n = a.length) (hm : m = b.length) :
    Calls Try.prog 33 #[.slice A n ca, .slice B m cb] w fun e w' => e = .returned (.bool (decide (a = b))) ∧ Dr w w' := by
  subst hn hm
  have la := ha.lenMax
  have lb := hb.lenMax
  by_cases hl : a.length = b.length
  · have hlb : (a.length == b.length) = true := by simpa using hl
    have hlc : ((a.length : Int) != (b.length : Int)) = false := by simp; omega
    have Hl := Lib.hid hl
    clear hl
    go_enter Try.func33, Try.ntmps33
    go_wp2
    go_loopw [13] (fun v wr => ∃ k : Nat, k ≤ a.length ∧ v = .int .i64 k ∧ Hid (∀ i, i < k → a.getD i 0 = b.getD i 0) ∧ Dr w wr) (fun v _ => a.length - (intOf v).toNat)
    case atStart => exact ⟨0, Nat.zero_le _, rfl, fun i hi => absurd hi (by omega), Dr.refl _⟩
    case round =>
      obtain ⟨k, hk, rfl, hp, hbl⟩ := hrel
      by_cases hlt : k < a.length
      · have hltb : k < b.length := by rw [← Hl.out]; exact hlt
        obtain ⟨ad, rfl, hca⟩ := (ha.to hbl.bel).int hlt
        obtain ⟨bd, rfl, hcb⟩ := (hb.to hbl.bel).int hltb
        cases he : (a[k] == b[k]) with
        | true =>
          have Hs := Lib.hid (agree_snoc hlt hltb hp (beq_iff_eq.1 he))
          have he2 : (a[k] != b[k]) = false := by rw [bne, he]; rfl
          go_wp2
          go_quiet (fail)
          go_wp2
          go_roundw
          case rel => exact ⟨k + 1, by omega, by go_num, Hs.out, hbl.drewN _⟩
          case measure => simp [intOf]; omega
        | false =>
          have Hs := Lib.hid (show decide (a = b) = false from decide_eq_false (fun e => by subst e; simp at he))
          have he2 : (a[k] != b[k]) = true := by rw [bne, he]; rfl
          go_wp2
          go_quiet (fail)
          go_wp2
          go_ret
          exact ⟨by rw [Hs.out]; rfl, hbl.drewN _⟩
      · have Hs := Lib.hid (show decide (a = b) = true from decide_eq_true (list_ext Hl.out (fun i hi => hp i (by omega))))
        go_wp2
        go_ret
        exact ⟨by rw [Hs.out]; rfl, hbl⟩
  · have hlb : (a.length == b.length) = false := by simpa using hl
    have hlc : ((a.length : Int) != (b.length : Int)) = true := by simp; omega
    have Hs := Lib.hid (show decide (a = b) = false from decide_eq_false (fun e => hl (by rw [e])))
    clear hl
    go_enter Try.func33, Try.ntmps33
    go_wp2
    go_ret
    exact ⟨by rw [Hs.out]; rfl, Dr.refl _⟩

set_option maxHeartbeats 4000000 in
theorem sameLin_c (S0 S1 S2 S3 : Nat → Prop) (A0 A1 B0 B1 : Option Addr) (c0 c1 d0 d1 : Nat) (x y : Lin) (w : World) (h0 : Rd intT w S0 A0 c0 x.1) (h1 : Rd bagT w S1 A1 c1 x.2) (g0 : Rd intT w S2 B0 d0 y.1) (g1 : Rd bagT w S3 B1 d1 y.2)
    (n0 n1 m0 m1 : Nat) (hn0 : n0 = x.1.length) (hn1 : n1 = x.2.length) (hm0 : m0 = y.1.length) (hm1 : m1 = y.2.length) :
    Calls Try.prog 10 #[.agg #[.slice A0 n0 c0, .slice A1 n1 c1], .agg #[.slice B0 m0 d0, .slice B1 m1 d1]] w fun e w' => e = .returned (.bool (decide (x = y))) ∧ Bel w w' := by
  obtain ⟨a, ps⟩ := x
  obtain ⟨b, qs⟩ := y
  dsimp only at *
  subst hn0 hn1 hm0 hm1
  have l1 := h1.lenMax
  have l2 := g1.lenMax
  obtain ⟨hB1, hX, hY, hsz⟩ := twoBoxes w #[.slice A0 a.length c0, .slice A1 ps.length c1] #[.slice B0 b.length d0, .slice B1 qs.length d1] 26
  have Q0 := sameBag_c _ _ _ _ _ _ _ _ _ (h0.to hB1) (g0.to hB1) _ _ rfl rfl
  have h1 := h1.to hB1
  have g1 := g1.to hB1
  by_cases hab : a = b
  · rw [decide_eq_true hab] at Q0
    by_cases hl : ps.length = qs.length
    · have hlc : ((ps.length : Int) != (qs.length : Int)) = false := by simp; omega
      have Hab := Lib.hid hab
      have Hl := Lib.hid hl
      clear hab hl
      go_enter Try.func10, Try.ntmps10
      go_wp2_with fail
      generalize (w.alloc (.cells #[.slice A0 a.length c0, .slice A1 ps.length c1] 26)).alloc (.cells #[.slice B0 b.length d0, .slice B1 qs.length d1] 26) = W1 at *
      generalize w.heap.size = g at *
      have hX1 : W1.cell? ⟨g, 1, none⟩ = some (.slice A1 ps.length c1) := hX 1
      have hY1 : W1.cell? ⟨g + 1, 1, none⟩ = some (.slice B1 qs.length d1) := hY 1
      clear hX hY
      refine Q0.mono ?_
      rintro e w' ⟨rfl, q, rfl⟩
      go_wp2_with fail
      go_loopw [24] (fun v wr => ∃ k : Nat, k ≤ ps.length ∧ v = .int .i64 k ∧ Hid (ps.take k = qs.take k) ∧ Bel W1 wr) (fun v _ => ps.length - (intOf v).toNat)
      case atStart => exact ⟨0, Nat.zero_le _, rfl, rfl, (Bel.refl _).drewN _⟩
      case round =>
        obtain ⟨k, hk, rfl, hp, hbl⟩ := hrel
        by_cases hlt : k < ps.length
        · have hltb : k < qs.length := by rw [← Hl.out]; exact hlt
          obtain ⟨ad, P, cp, rfl, hpc, hpr⟩ := (h1.to hbl).row hlt
          obtain ⟨bd, Q, cq, rfl, hqc, hqr⟩ := (g1.to hbl).row hltb
          have hX1 := cell_keep hX1 (hbl.block (by simp only; omega))
          have hY1 := cell_keep hY1 (hbl.block (by simp only; omega))
          have Q2 := fun n => sameBag_c _ _ _ _ _ _ _ _ _ (hpr.to ((Bel.refl _).drewN n)) (hqr.to ((Bel.refl _).drewN n)) _ _ rfl rfl
          have k1 : (k : Int) < (ps.length : Int) := by omega
          have k2 : (k : Int) < (qs.length : Int) := by omega
          by_cases he : ps[k] = qs[k]
          · have Hs := Lib.hid (take_snoc hp.out hlt hltb he)
            simp only [decide_eq_true he] at Q2
            clear he
            go_wp2
            go_quiet ((go_at_call 33; exact Calls.quiet_of (Q2 _)))
            go_wp2
            go_roundw
            case rel => exact ⟨k + 1, by omega, by go_num, Hs.out, hbl.drewN _⟩
            case measure => simp [intOf]; omega
          · have Hs := Lib.hid (show decide ((a, ps) = (b, qs)) = false from decide_eq_false (fun e => he (by injection e with _ e; subst e; rfl)))
            simp only [decide_eq_false he] at Q2
            clear he
            go_wp2
            go_quiet ((go_at_call 33; exact Calls.quiet_of (Q2 _)))
            go_wp2
            go_ret
            exact ⟨by rw [Hs.out]; rfl, hB1.trans (hbl.drewN _)⟩
        · have Hs := Lib.hid (show decide ((a, ps) = (b, qs)) = true from decide_eq_true (by
            obtain rfl : k = ps.length := by omega
            rw [Hab.out, take_all hp.out Hl.out]))
          have hX1 := cell_keep hX1 (hbl.block (by simp only; omega))
          go_wp2
          go_ret
          exact ⟨by rw [Hs.out]; rfl, hB1.trans hbl⟩
    · have hlc : ((ps.length : Int) != (qs.length : Int)) = true := by simp; omega
      have Hs := Lib.hid (show decide ((a, ps) = (b, qs)) = false from decide_eq_false (fun e => hl (by injection e with _ e; rw [e])))
      clear hl hab
      go_enter Try.func10, Try.ntmps10
      go_wp2_with fail
      generalize (w.alloc (.cells #[.slice A0 a.length c0, .slice A1 ps.length c1] 26)).alloc (.cells #[.slice B0 b.length d0, .slice B1 qs.length d1] 26) = W1 at *
      generalize w.heap.size = g at *
      have hX1 : W1.cell? ⟨g, 1, none⟩ = some (.slice A1 ps.length c1) := hX 1
      have hY1 : W1.cell? ⟨g + 1, 1, none⟩ = some (.slice B1 qs.length d1) := hY 1
      clear hX hY
      refine Q0.mono ?_
      rintro e w' ⟨rfl, q, rfl⟩
      go_wp2_with fail
      go_ret
      exact ⟨by rw [Hs.out]; rfl, hB1.drewN _⟩
  · have Hs := Lib.hid (show decide ((a, ps) = (b, qs)) = false from decide_eq_false (fun e => hab (by injection e with e _)))
    rw [decide_eq_false hab] at Q0
    clear hab
    go_enter Try.func10, Try.ntmps10
    go_wp2_with fail
    generalize (w.alloc (.cells #[.slice A0 a.length c0, .slice A1 ps.length c1] 26)).alloc (.cells #[.slice B0 b.length d0, .slice B1 qs.length d1] 26) = W1 at *
    generalize w.heap.size = g at *
    clear hX hY
    refine Q0.mono ?_
    rintro e w' ⟨rfl, q, rfl⟩
    go_wp2_with fail
    go_ret
    exact ⟨by rw [Hs.out]; rfl, hB1.drewN _⟩

set_option maxHeartbeats 2000000 in
theorem point_c (S S' : Nat → Prop) (A B : Option Addr) (ca cb : Nat) (b : List Int) (ps : List (List Int)) (w : World) (h0 : Rd intT w S A ca b) (h1 : Rd bagT w S' B cb ps) (n m : Nat) (hn : n = b.length) (hm : m = ps.length) :
    Calls Try.prog 20 #[.agg #[.slice A n ca, .slice B m cb]] w fun e w' => e = .returned (.bool (rightL (b, ps) && ps.isEmpty)) ∧ Bel w w' := by
  subst hn hm
  have lm := h1.lenMax
  have hC1 : (w.alloc (.cells #[.slice A b.length ca, .slice B ps.length cb] 26)).cell? ⟨w.heap.size, 1, none⟩ = some (.slice B ps.length cb) := cellAt (heap_alloc_new w _) 1
  have hB1 : Bel w (w.alloc (.cells #[.slice A b.length ca, .slice B ps.length cb] 26)) := (Bel.refl _).alloc _
  have hS1 : w.heap.size < (w.alloc (.cells #[.slice A b.length ca, .slice B ps.length cb] 26)).heap.size := by simp
  have Q := linRight_c _ _ _ _ _ _ _ _ _ (h0.to hB1) (h1.to hB1) _ _ rfl rfl
  generalize rightL (b, ps) = r at *
  go_enter Try.func20, Try.ntmps20
  go_wp2_with fail
  clear h0 h1
  generalize w.alloc (.cells #[.slice A b.length ca, .slice B ps.length cb] 26) = W1 at *
  generalize w.heap.size = g at *
  refine Q.mono ?_
  rintro e w' ⟨rfl, hb⟩
  have hC2 := cell_keep hC1 (hb.block hS1)
  cases r
  · go_wp2_with fail
    go_ret
    exact ⟨by simp, hB1.trans hb⟩
  · cases ps
    · go_wp2_with fail
      go_ret
      exact ⟨by simp <;> omega, hB1.trans hb⟩
    · go_wp2_with fail
      go_ret
      exact ⟨by simp <;> omega, hB1.trans hb⟩
set_option maxHeartbeats 2000000 in
theorem refPoint_c (S S' : Nat → Prop) (A B : Option Addr) (ca cb : Nat) (b : List Int) (ps : List (List Int)) (w : World) (h0 : Rd intT w S A ca b) (h1 : Rd bagT w S' B cb ps) (n m : Nat) (hn : n = b.length) (hm : m = ps.length) :
    Calls Try.prog 26 #[.agg #[.slice A n ca, .slice B m cb]] w fun e w' => e = .returned (.bool (rightL (b, ps) && ps.isEmpty)) ∧ Bel w w' := by
  subst hn hm
  have lm := h1.lenMax
  have hC1 : (w.alloc (.cells #[.slice A b.length ca, .slice B ps.length cb] 26)).cell? ⟨w.heap.size, 1, none⟩ = some (.slice B ps.length cb) := cellAt (heap_alloc_new w _) 1
  have hB1 : Bel w (w.alloc (.cells #[.slice A b.length ca, .slice B ps.length cb] 26)) := (Bel.refl _).alloc _
  have hS1 : w.heap.size < (w.alloc (.cells #[.slice A b.length ca, .slice B ps.length cb] 26)).heap.size := by simp
  have Q := refRightLin_c _ _ _ _ _ _ _ _ _ (h0.to hB1) (h1.to hB1) _ _ rfl rfl
  generalize rightL (b, ps) = r at *
  go_enter Try.func26, Try.ntmps26
  go_wp2_with fail
  clear h0 h1
  generalize w.alloc (.cells #[.slice A b.length ca, .slice B ps.length cb] 26) = W1 at *
  generalize w.heap.size = g at *
  refine Q.mono ?_
  rintro e w' ⟨rfl, hb⟩
  have hC2 := cell_keep hC1 (hb.block hS1)
  cases r
  · go_wp2_with fail
    go_ret
    exact ⟨by simp, hB1.trans hb⟩
  · cases ps
    · go_wp2_with fail
      go_ret
      exact ⟨by simp <;> omega, hB1.trans hb⟩
    · go_wp2_with fail
      go_ret
      exact ⟨by simp <;> omega, hB1.trans hb⟩

set_option maxHeartbeats 2000000 in
theorem orL_c (S : Nat → Prop) (A : Option Addr) (c : Nat) (l : List Int) (w : World) (h : Rd intT w S A c l) (n : Nat) (hn : n = l.length) :
    Calls Try.prog 29 #[.slice A n c] w fun e w' => e = .returned (.int .i64 (orL l)) ∧ w = w' := by
  subst hn
  have lm := h.lenMax
  go_enter Try.func29, Try.ntmps29
  go_wp2
  go_loop [8] (fun v => ∃ k : Nat, k ≤ l.length ∧ v = .int .i64 k ∧ Hid (orL l = orL (l.drop k))) (fun v => l.length - (intOf v).toNat)
  case atStart => exact ⟨0, Nat.zero_le _, rfl, rfl⟩
  case round =>
    obtain ⟨k, hk, rfl, hp⟩ := hrel
    by_cases hlt : k < l.length
    · obtain ⟨ad, rfl, hc⟩ := h.int hlt
      have Hs := Lib.hid (hp.out.trans (orL_at hlt))
      obtain ⟨x, hx⟩ : ∃ x, l[k] = x := ⟨_, rfl⟩
      rw [hx] at hc Hs
      clear hx
      by_cases h0 : x = 0
      · subst h0
        go_wp2
        go_round
        case rel => exact ⟨k + 1, by omega, by go_num, by have := Hs.out; rwa [if_pos rfl] at this⟩
        case measure => simp [intOf]; omega
      · have hn : (x != 0) = true := by simp [h0]
        have He := Lib.hid (show orL l = x from by rw [Hs.out, if_neg h0])
        clear h0
        go_wp2
        go_ret
        exact ⟨by rw [He.out]; rfl, rfl⟩
    · have He := Lib.hid (show orL l = 0 from by rw [hp.out, List.drop_eq_nil_of_le (by omega)]; rfl)
      go_wp2
      go_ret
      exact ⟨by rw [He.out]; rfl, rfl⟩

set_option maxHeartbeats 2000000 in
theorem compareBags_c (S S' : Nat → Prop) (A B : Option Addr) (ca cb : Nat) (a b : List (List Int)) (w : World) (ha : Rd bagT w S A ca a) (hb : Rd bagT w S' B cb b) (n m : Nat) (hn : n = a.length) (hm : m = b.length) :
    Calls Try.prog 32 #[.slice A n ca, .slice B m cb, .func (.func 30) #[] #[]] w fun e w' => e = .returned (.int .i64 (cmpBy cmpB a b)) ∧ w = w' := by
  subst hn hm
  have la := ha.lenMax
  have lb := hb.lenMax
  have hcf : ∀ args w, (callFunc 30 args).run Try.prog w = .ok (.enter 30 args) w := fun _ _ => by kernel_rfl
  go_enter Try.func32, Try.ntmps32
  go_wp2
  go_loop [13] (fun v => ∃ k : Nat, k ≤ a.length ∧ k ≤ b.length ∧ v = .int .i64 k ∧ Hid (agreeTo cmpB a b k)) (fun v => a.length - (intOf v).toNat)
  case atStart => exact ⟨0, Nat.zero_le _, Nat.zero_le _, rfl, agreeTo_zero _ _ _⟩
  case round =>
    obtain ⟨k, hka, hkb, rfl, hp⟩ := hrel
    by_cases h1 : k < a.length
    · obtain ⟨ad, P, cp, rfl, hpc, hpr⟩ := ha.row h1
      by_cases h2 : k < b.length
      · obtain ⟨bd, Q, cq, rfl, hqc, hqr⟩ := hb.row h2
        have Q2 := bagCompare_c _ _ _ _ _ _ _ _ _ hpr hqr _ _ rfl rfl
        by_cases he : cmpB a[k] b[k] = 0
        · have Hs := Lib.hid (agreeTo_snoc hp.out h1 h2 he)
          rw [he] at Q2
          clear he
          go_wp2_with (go_at_call 30; refine Q2.mono ?_; rintro e w' ⟨rfl, rfl⟩)
          go_round
          case rel => exact ⟨k + 1, by omega, by omega, by go_num, Hs.out⟩
          case measure => simp [intOf]; omega
        · have Hr := Lib.hid (cmpBy_at h1 h2 hp.out he)
          have hz : (cmpB a[k] b[k] == 0) = false := by rw [beq_eq_false_iff_ne]; exact he
          clear he
          go_wp2_with (go_at_call 30; refine Q2.mono ?_; rintro e w' ⟨rfl, rfl⟩)
          go_ret
          exact ⟨by rw [Hr.out]; rfl, rfl⟩
      · have Hr := Lib.hid (cmpBy_long (f := cmpB) (a := a) (b := b) (by omega) (agreeTo_le hp.out (by omega)))
        go_wp2
        go_ret
        exact ⟨by rw [Hr.out]; rfl, rfl⟩
    · by_cases h2 : k < b.length
      · have Hr := Lib.hid (cmpBy_short (f := cmpB) (a := a) (b := b) (by omega) (agreeTo_le hp.out (by omega)))
        go_wp2
        go_ret
        exact ⟨by rw [Hr.out]; rfl, rfl⟩
      · have Hr := Lib.hid (cmpBy_same (f := cmpB) (a := a) (b := b) (by omega) (agreeTo_le hp.out (by omega)))
        go_wp2
        go_ret
        exact ⟨by rw [Hr.out]; rfl, rfl⟩
set_option maxRecDepth 100000 in
set_option maxHeartbeats 4000000 in
theorem linCompare_c (S0 S1 S2 S3 : Nat → Prop) (A0 A1 B0 B1 : Option Addr) (c0 c1 d0 d1 : Nat) (x y : Lin) (w : World) (h0 : Rd intT w S0 A0 c0 x.1) (h1 : Rd bagT w S1 A1 c1 x.2) (g0 : Rd intT w S2 B0 d0 y.1) (g1 : Rd bagT w S3 B1 d1 y.2)
    (n0 n1 m0 m1 : Nat) (hn0 : n0 = x.1.length) (hn1 : n1 = x.2.length) (hm0 : m0 = y.1.length) (hm1 : m1 = y.2.length) :
    Calls Try.prog 9 #[.agg #[.slice A0 n0 c0, .slice A1 n1 c1], .agg #[.slice B0 m0 d0, .slice B1 m1 d1]] w fun e w' => e = .returned (.int .i64 (cmpLin x y)) ∧ Bel w w' := by
  obtain ⟨a, ps⟩ := x
  obtain ⟨b, qs⟩ := y
  dsimp only at *
  subst hn0 hn1 hm0 hm1
  have l1 := h1.lenMax
  have l2 := g1.lenMax
  obtain ⟨hB1, hX, hY, hsz⟩ := twoBoxes w #[.slice A0 a.length c0, .slice A1 ps.length c1] #[.slice B0 b.length d0, .slice B1 qs.length d1] 26
  have h0 := h0.to hB1
  have g0 := g0.to hB1
  have h1 := h1.to hB1
  have g1 := g1.to hB1
  have Q1 := linRight_c _ _ _ _ _ _ _ _ _ h0 h1 _ _ rfl rfl
  cases hA : rightL (a, ps) with
  | false =>
    have He := Lib.hid (cmpLin_no1 (y := (b, qs)) hA)
    rw [hA] at Q1
    clear hA
    go_enter Try.func9, Try.ntmps9
    go_wp2_with fail
    generalize (w.alloc (.cells #[.slice A0 a.length c0, .slice A1 ps.length c1] 26)).alloc (.cells #[.slice B0 b.length d0, .slice B1 qs.length d1] 26) = W1 at *
    generalize w.heap.size = g at *
    clear hX hY
    refine Q1.mono ?_
    rintro e w' ⟨rfl, hb⟩
    go_wp2_with fail
    go_ret
    exact ⟨by rw [He.out]; rfl, hB1.trans hb⟩
  | true =>
    rw [hA] at Q1
    cases hB : rightL (b, qs) with
    | false =>
      have He := Lib.hid (cmpLin_no2 (x := (a, ps)) hB)
      have HB := Lib.hid hB
      clear hA hB
      go_enter Try.func9, Try.ntmps9
      go_wp2_with fail
      generalize (w.alloc (.cells #[.slice A0 a.length c0, .slice A1 ps.length c1] 26)).alloc (.cells #[.slice B0 b.length d0, .slice B1 qs.length d1] 26) = W1 at *
      generalize w.heap.size = g at *
      have hY0 : W1.cell? ⟨g + 1, 0, none⟩ = some (.slice B0 b.length d0) := hY 0
      have hY1 : W1.cell? ⟨g + 1, 1, none⟩ = some (.slice B1 qs.length d1) := hY 1
      clear hX hY
      refine Q1.mono ?_
      rintro e w2 ⟨rfl, hb⟩
      have hY0 := cell_keep hY0 (hb.block (by simp only; omega))
      have hY1 := cell_keep hY1 (hb.block (by simp only; omega))
      have Q2 := linRight_c _ _ _ _ _ _ _ _ _ (g0.to hb) (g1.to hb) _ _ rfl rfl
      rw [HB.out] at Q2
      go_wp2_with fail
      refine Q2.mono ?_
      rintro e w3 ⟨rfl, hb3⟩
      go_wp2_with fail
      go_ret
      exact ⟨by rw [He.out]; rfl, (hB1.trans hb).trans hb3⟩
    | true =>
      have He := Lib.hid (cmpLin_yes hA hB)
      have HB := Lib.hid hB
      clear hA hB
      go_enter Try.func9, Try.ntmps9
      go_wp2_with fail
      generalize (w.alloc (.cells #[.slice A0 a.length c0, .slice A1 ps.length c1] 26)).alloc (.cells #[.slice B0 b.length d0, .slice B1 qs.length d1] 26) = W1 at *
      generalize w.heap.size = g at *
      have hX0 : W1.cell? ⟨g, 0, none⟩ = some (.slice A0 a.length c0) := hX 0
      have hX1 : W1.cell? ⟨g, 1, none⟩ = some (.slice A1 ps.length c1) := hX 1
      have hY0 : W1.cell? ⟨g + 1, 0, none⟩ = some (.slice B0 b.length d0) := hY 0
      have hY1 : W1.cell? ⟨g + 1, 1, none⟩ = some (.slice B1 qs.length d1) := hY 1
      clear hX hY
      refine Q1.mono ?_
      rintro e w2 ⟨rfl, hb⟩
      have hX0 := cell_keep hX0 (hb.block (by simp only; omega))
      have hX1 := cell_keep hX1 (hb.block (by simp only; omega))
      have hY0 := cell_keep hY0 (hb.block (by simp only; omega))
      have hY1 := cell_keep hY1 (hb.block (by simp only; omega))
      have Q2 := linRight_c _ _ _ _ _ _ _ _ _ (g0.to hb) (g1.to hb) _ _ rfl rfl
      rw [HB.out] at Q2
      go_wp2_with fail
      refine Q2.mono ?_
      rintro e w3 ⟨rfl, hb3⟩
      have hb13 := hb.trans hb3
      have hs2 := hb.size
      have hX0 := cell_keep hX0 (hb3.block (by simp only; omega))
      have hX1 := cell_keep hX1 (hb3.block (by simp only; omega))
      have hY0 := cell_keep hY0 (hb3.block (by simp only; omega))
      have hY1 := cell_keep hY1 (hb3.block (by simp only; omega))
      go_wp2_with fail
      refine wp_region_still_tail 17 (by kernel_rfl) (by kernel_rfl) ?_
      simp only [List.take_succ_cons, List.take_zero, List.drop_succ_cons, List.drop_zero]
      change wpStill _ _ w3.drew (fun a' => wpList _ _ _ _ a' w3.drew) _ _
      have hb4 : Bel W1 w3.drew := hb13.drew
      have hbw : Bel w3 w3.drew := (Bel.refl _).drew
      have hX0 := cell_keep hX0 (hbw.block (by have := hb3.size; simp only; omega))
      have hX1 := cell_keep hX1 (hbw.block (by have := hb3.size; simp only; omega))
      have hY0 := cell_keep hY0 (hbw.block (by have := hb3.size; simp only; omega))
      have hY1 := cell_keep hY1 (hbw.block (by have := hb3.size; simp only; omega))
      clear hbw
      generalize w3.drew = w4 at *
      have R1 := (bagCompare_c _ _ _ _ _ _ _ _ _ (h0.to hb4) (g0.to hb4) _ _ rfl rfl).mono fun _ _ (h : _ ∧ _) => (⟨h.1, h.2.symm⟩ : _ ∧ _)
      have R2 := (compareBags_c _ _ _ _ _ _ _ _ _ (h1.to hb4) (g1.to hb4) _ _ rfl rfl).mono fun _ _ (h : _ ∧ _) => (⟨h.1, h.2.symm⟩ : _ ∧ _)
      have R3 := (cmpCompare_c (ps.length : Int) (qs.length : Int) w4).mono fun _ _ (h : _ ∧ _) => (⟨h.1, h.2.symm⟩ : _ ∧ _)
      repeat (first | still_step | still_call R1 | still_call R2 | still_call R3)
      refine wpStill_nil ?_
      generalize hB4 : cmpB a b = z0 at *
      generalize cmpI (ps.length : Int) (qs.length : Int) = z1 at *
      generalize cmpBy cmpB ps qs = z2 at *
      clear hB4 R1 R2 R3 hX0 hX1 hY0 hY1
      go_wp2_with fail
      refine (orL_c _ _ _ [z0, z1, z2] _ (Rd.lit (enc := Value.int .i64) w4 3 [z0, z1, z2] (by simp [maxLen])) _ rfl).mono ?_
      rintro e w5 ⟨rfl, rfl⟩
      go_wp2_with fail
      go_ret
      exact ⟨by rw [He.out, or3_list]; rfl, hB1.trans (hb4.alloc _)⟩
end Go.Proofs.Ytghdleofbkalbaa
