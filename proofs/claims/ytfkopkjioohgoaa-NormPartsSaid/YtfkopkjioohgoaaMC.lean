/- Walks: linear sets that are right. -/
import Derived.Test.YtfkopkjioohgoaaMB
import Derived.Test.YtfkopkjioohgoaaMA
import Derived.StillTailTactics
import Derived.Laws.ResultCell
import Derived.Lib.AppendZerosOnto
set_option linter.unusedVariables false
set_option linter.unusedSimpArgs false
namespace Go.Proofs.Ytfkopkjioohgoaa
open Go.RowKit Go.Cb

theorem bagCompareB_c (S S' : Nat → Prop) (A B : Option Addr) (ca cb : Nat) (a b : List Int) (w : World) (ha : Rd intT w S A ca a) (hb : Rd intT w S' B cb b) (n m : Nat) (hn : n = a.length) (hm : m = b.length) :
    Calls Try.prog 47 #[.slice A n ca, .slice B m cb] w fun e w' => e = .returned (.int .i64 (cmpB a b)) ∧ Bel w w' :=
  (bagCompare_c S S' A B ca cb a b w ha hb n m hn hm).mono fun _ _ ⟨h1, h2⟩ => ⟨h1, h2 ▸ Bel.refl _⟩
set_option maxHeartbeats 4000000 in
theorem linRight_c (S S' : Nat → Prop) (A B : Option Addr) (ca cb : Nat) (b : List Int) (ps : List (List Int)) (w : World) (h0 : Rd intT w S A ca b) (h1 : Rd bagT w S' B cb ps) (n m : Nat) (hn : n = b.length) (hm : m = ps.length) :
    Calls Try.prog 31 #[.agg #[.slice A n ca, .slice B m cb]] w fun e w' => e = .returned (.bool (rightL (b, ps))) ∧ Bel w w' := by
  subst hn hm
  have lm := h1.lenMax
  cases hR : rightB b with
  | false =>
    have Hr := Lib.hid (rightL_no (l := (b, ps)) hR)
    go_enter Try.func31, Try.ntmps31
    go_wp2_with fail
    refine (right_c _ _ _ _ _ (h0.to ((Bel.refl _).alloc _)) _ rfl).mono ?_
    rintro e w' ⟨rfl, rfl⟩
    go_wp2_with fail
    go_ret
    exact ⟨by rw [Hr.out]; rfl, (Bel.refl _).alloc _⟩
  | true =>
    have HR := Lib.hid hR
    go_enter Try.func31, Try.ntmps31
    go_wp2_with fail
    refine (right_c _ _ _ _ _ (h0.to ((Bel.refl _).alloc _)) _ rfl).mono ?_
    rintro e w' ⟨rfl, rfl⟩
    go_wp2_with fail
    have hB1 : Bel w (w.alloc (.cells #[.slice A b.length ca, .slice B ps.length cb] 46)) := (Bel.refl _).alloc _
    have hC1 : (w.alloc (.cells #[.slice A b.length ca, .slice B ps.length cb] 46)).cell? ⟨w.heap.size, 1, none⟩ = some (.slice B ps.length cb) := cellAt (heap_alloc_new w _) 1
    have hS1 : w.heap.size < (w.alloc (.cells #[.slice A b.length ca, .slice B ps.length cb] 46)).heap.size := by simp
    clear hR h0
    generalize w.alloc (.cells #[.slice A b.length ca, .slice B ps.length cb] 46) = W1 at *
    generalize w.heap.size = g at *
    have h1 := h1.to hB1
    go_loopw [2, 12] (fun v2 v12 wr => ∃ k : Nat, k ≤ ps.length ∧ v12 = .int .i64 k ∧ v2 = .bool false ∧ Hid (okTo ps k = true) ∧ Bel W1 wr) (fun _ v12 _ => ps.length - (intOf v12).toNat)
    case atStart => exact ⟨0, Nat.zero_le _, rfl, rfl, rfl, Bel.refl _⟩
    case round =>
      obtain ⟨k, hk, rfl, rfl, hp, hbl⟩ := hrel
      have hC1 := cell_keep hC1 (hbl.block hS1)
      have h1 := h1.to hbl
      by_cases hlt : k < ps.length
      · obtain ⟨ad, P1, c1, rfl, hc1, hr1⟩ := h1.row hlt
        obtain ⟨p, hpe⟩ : ∃ p, ps[k] = p := ⟨_, rfl⟩
        rw [hpe] at hc1 hr1
        have lp := hr1.lenMax
        have Hpe := Lib.hid hpe
        clear hpe
        cases p with
        | nil =>
          have Hb := Lib.hid (rightL_bad (l := (b, ps)) hlt (by unfold okAt; rw [getDl_of hlt, Hpe.out]; rfl))
          go_wp2_with (go_at_call 46; refine (right_c _ _ _ _ _ hr1 _ rfl).mono ?_; rw [show rightB [] = true from rfl]; rintro e w' ⟨rfl, rfl⟩)
          go_ret
          exact ⟨by rw [Hb.out]; rfl, hB1.trans hbl⟩
        | cons x p =>
          cases hq : rightB (x :: p) with
          | false =>
            have Hb := Lib.hid (rightL_bad (l := (b, ps)) hlt (by unfold okAt; rw [getDl_of hlt, Hpe.out, hq]; rfl))
            go_wp2_with (go_at_call 46; refine (right_c _ _ _ _ _ hr1 _ rfl).mono ?_; rw [hq]; rintro e w' ⟨rfl, rfl⟩)
            go_ret
            exact ⟨by rw [Hb.out]; rfl, hB1.trans hbl⟩
          | true =>
            by_cases hk0 : 0 < k
            · obtain ⟨ad2, P2, c2, he2, hc2, hr2⟩ := h1.row (k := k - 1) (by omega)
              injection he2 with he2
              subst he2
              have hs := okTo_succ ps k
              rw [hp.out, okAt_next hlt hk0, Hpe.out, hq] at hs
              obtain ⟨q, hqe⟩ : ∃ q, ps[k - 1] = q := ⟨_, rfl⟩
              rw [hqe] at hc2 hr2 hs
              have Hs := Lib.hid hs
              have Hqe := Lib.hid hqe
              clear hs hqe
              by_cases hcm : cmpB q (x :: p) < 0
              · have hcd : decide (0 ≤ cmpB q (x :: p)) = false := decide_eq_false (by omega)
                have Hs2 := Lib.hid (show okTo ps (k + 1) = true from by rw [Hs.out, decide_eq_true hcm]; rfl)
                go_wp2_with (first
                  | (go_at_call 46; refine (right_c _ _ _ _ _ hr1 _ rfl).mono ?_; rw [hq]; rintro e w' ⟨rfl, rfl⟩)
                  | (go_at_call 47; refine (bagCompareB_c _ _ _ _ _ _ _ _ _ hr2 hr1 _ _ rfl rfl).mono ?_; rintro e w5 ⟨rfl, hb5⟩))
                go_roundw
                case rel => exact ⟨k + 1, by omega, by go_num, rfl, Hs2.out, by first | exact hbl | exact hbl.trans hb5⟩
                case measure => simp [intOf]; omega
              · have hcd : decide (0 ≤ cmpB q (x :: p)) = true := decide_eq_true (by omega)
                have Hb := Lib.hid (rightL_bad (l := (b, ps)) hlt (by rw [okAt_next hlt hk0, Hpe.out, hq, Hqe.out, decide_eq_false hcm]; rfl))
                go_wp2_with (first
                  | (go_at_call 46; refine (right_c _ _ _ _ _ hr1 _ rfl).mono ?_; rw [hq]; rintro e w' ⟨rfl, rfl⟩)
                  | (go_at_call 47; refine (bagCompareB_c _ _ _ _ _ _ _ _ _ hr2 hr1 _ _ rfl rfl).mono ?_; rintro e w5 ⟨rfl, hb5⟩))
                go_ret
                exact ⟨by rw [Hb.out]; rfl, by first | exact hB1.trans hbl | exact (hB1.trans hbl).trans hb5⟩
            · have Hs := Lib.hid (show okTo ps (k + 1) = true from by rw [okTo_succ, hp.out, okAt_first hlt hk0, Hpe.out, hq]; rfl)
              go_wp2_with (go_at_call 46; refine (right_c _ _ _ _ _ hr1 _ rfl).mono ?_; rw [hq]; rintro e w' ⟨rfl, rfl⟩)
              go_roundw
              case rel => exact ⟨k + 1, by omega, by go_num, rfl, Hs.out, hbl⟩
              case measure => simp [intOf]; omega
      · obtain rfl : k = ps.length := by omega
        have Hb := Lib.hid (rightL_yes (l := (b, ps)) HR.out hp.out)
        go_wp2
        go_ret
        exact ⟨by rw [Hb.out]; rfl, hB1.trans hbl⟩
end Go.Proofs.Ytfkopkjioohgoaa

/- Walks: linear sets alike; points; their order. -/
namespace Go.Proofs.Ytfkopkjioohgoaa
open Go.RowKit Go.Cb

set_option maxHeartbeats 2000000 in
theorem sameBag_c (S S' : Nat → Prop) (A B : Option Addr) (ca cb : Nat) (a b : List Int) (w : World) (ha : Rd intT w S A ca a) (hb : Rd intT w S' B cb b) (n m : Nat) (hn : n = a.length) (hm : m = b.length) :
    Calls Try.prog 45 #[.slice A n ca, .slice B m cb] w fun e w' => e = .returned (.bool (decide (a = b))) ∧ Dr w w' := by
  subst hn hm
  have la := ha.lenMax
  have lb := hb.lenMax
  by_cases hl : a.length = b.length
  · have hlb : (a.length == b.length) = true := by simpa using hl
    have hlc : ((a.length : Int) != (b.length : Int)) = false := by simp; omega
    have Hl := Lib.hid hl
    clear hl
    go_enter Try.func45, Try.ntmps45
    go_wp2
    go_loopw [13] (fun v wr => ∃ k : Nat, k ≤ a.length ∧ v = .int .i64 k ∧ Hid (∀ i, i < k → a.getD i 0 = b.getD i 0) ∧ Dr w wr) (fun v _ => a.length - (intOf v).toNat)
    case atStart => exact ⟨0, Nat.zero_le _, rfl, fun i hi => absurd hi (by omega), Dr.refl _⟩
    case round =>
      obtain ⟨k, hk, rfl, hp, hbl⟩ := hrel
      by_cases hlt : k < a.length
      · have hltb : k < b.length := by rw [← Hl.out]; exact hlt
        obtain ⟨ad, rfl, hca⟩ := (ha.to hbl.bel).int hlt
        obtain ⟨bd, rfl, hcb⟩ := (hb.to hbl.bel).int hltb
        cases he : (a[k] == b[k]) with
        | true =>
          have Hs := Lib.hid (agree_snoc hlt hltb hp (beq_iff_eq.1 he))
          have he2 : (a[k] != b[k]) = false := by rw [bne, he]; rfl
          go_wp2
          go_quiet (fail)
          go_wp2
          go_roundw
          case rel => exact ⟨k + 1, by omega, by go_num, Hs.out, hbl.drewN _⟩
          case measure => simp [intOf]; omega
        | false =>
          have Hs := Lib.hid (show decide (a = b) = false from decide_eq_false (fun e => by subst e; simp at he))
          have he2 : (a[k] != b[k]) = true := by rw [bne, he]; rfl
          go_wp2
          go_quiet (fail)
          go_wp2
          go_ret
          exact ⟨by rw [Hs.out]; rfl, hbl.drewN _⟩
      · have Hs := Lib.hid (show decide (a = b) = true from decide_eq_true (list_ext Hl.out (fun i hi => hp i (by omega))))
        go_wp2
        go_ret
        exact ⟨by rw [Hs.out]; rfl, hbl⟩
  · have hlb : (a.length == b.length) = false := by simpa using hl
    have hlc : ((a.length : Int) != (b.length : Int)) = true := by simp; omega
    have Hs := Lib.hid (show decide (a = b) = false from decide_eq_false (fun e => hl (by rw [e])))
    clear hl
    go_enter Try.func45, Try.ntmps45
    go_wp2
    go_ret
    exact ⟨by rw [Hs.out]; rfl, Dr.refl _⟩

set_option maxHeartbeats 4000000 in
theorem sameLin_c (S0 S1 S2 S3 : Nat → Prop) (A0 A1 B0 B1 : Option Addr) (c0 c1 d0 d1 : Nat) (x y : Lin) (w : World) (h0 : Rd intT w S0 A0 c0 x.1) (h1 : Rd bagT w S1 A1 c1 x.2) (g0 : Rd intT w S2 B0 d0 y.1) (g1 : Rd bagT w S3 B1 d1 y.2)
    (n0 n1 m0 m1 : Nat) (hn0 : n0 = x.1.length) (hn1 : n1 = x.2.length) (hm0 : m0 = y.1.length) (hm1 : m1 = y.2.length) :
    Calls Try.prog 30 #[.agg #[.slice A0 n0 c0, .slice A1 n1 c1], .agg #[.slice B0 m0 d0, .slice B1 m1 d1]] w fun e w' => e = .returned (.bool (decide (x = y))) ∧ Bel w w' := by
  obtain ⟨a, ps⟩ := x
  obtain ⟨b, qs⟩ := y
  dsimp only at *
  subst hn0 hn1 hm0 hm1
  have l1 := h1.lenMax
  have l2 := g1.lenMax
  obtain ⟨hB1, hX, hY, hsz⟩ := twoBoxes w #[.slice A0 a.length c0, .slice A1 ps.length c1] #[.slice B0 b.length d0, .slice B1 qs.length d1] 46
  have Q0 := sameBag_c _ _ _ _ _ _ _ _ _ (h0.to hB1) (g0.to hB1) _ _ rfl rfl
  have h1 := h1.to hB1
  have g1 := g1.to hB1
  by_cases hab : a = b
  · rw [decide_eq_true hab] at Q0
    by_cases hl : ps.length = qs.length
    · have hlc : ((ps.length : Int) != (qs.length : Int)) = false := by simp; omega
      have Hab := Lib.hid hab
      have Hl := Lib.hid hl
      clear hab hl
      go_enter Try.func30, Try.ntmps30
      go_wp2_with fail
      generalize (w.alloc (.cells #[.slice A0 a.length c0, .slice A1 ps.length c1] 46)).alloc (.cells #[.slice B0 b.length d0, .slice B1 qs.length d1] 46) = W1 at *
      generalize w.heap.size = g at *
      have hX1 : W1.cell? ⟨g, 1, none⟩ = some (.slice A1 ps.length c1) := hX 1
      have hY1 : W1.cell? ⟨g + 1, 1, none⟩ = some (.slice B1 qs.length d1) := hY 1
      clear hX hY
      refine Q0.mono ?_
      rintro e w' ⟨rfl, q, rfl⟩
      go_wp2_with fail
      go_loopw [24] (fun v wr => ∃ k : Nat, k ≤ ps.length ∧ v = .int .i64 k ∧ Hid (ps.take k = qs.take k) ∧ Bel W1 wr) (fun v _ => ps.length - (intOf v).toNat)
      case atStart => exact ⟨0, Nat.zero_le _, rfl, rfl, (Bel.refl _).drewN _⟩
      case round =>
        obtain ⟨k, hk, rfl, hp, hbl⟩ := hrel
        by_cases hlt : k < ps.length
        · have hltb : k < qs.length := by rw [← Hl.out]; exact hlt
          obtain ⟨ad, P, cp, rfl, hpc, hpr⟩ := (h1.to hbl).row hlt
          obtain ⟨bd, Q, cq, rfl, hqc, hqr⟩ := (g1.to hbl).row hltb
          have hX1 := cell_keep hX1 (hbl.block (by simp only; omega))
          have hY1 := cell_keep hY1 (hbl.block (by simp only; omega))
          have Q2 := fun n => sameBag_c _ _ _ _ _ _ _ _ _ (hpr.to ((Bel.refl _).drewN n)) (hqr.to ((Bel.refl _).drewN n)) _ _ rfl rfl
          have k1 : (k : Int) < (ps.length : Int) := by omega
          have k2 : (k : Int) < (qs.length : Int) := by omega
          by_cases he : ps[k] = qs[k]
          · have Hs := Lib.hid (take_snoc hp.out hlt hltb he)
            simp only [decide_eq_true he] at Q2
            clear he
            go_wp2
            go_quiet ((go_at_call 45; exact Calls.quiet_of (Q2 _)))
            go_wp2
            go_roundw
            case rel => exact ⟨k + 1, by omega, by go_num, Hs.out, hbl.drewN _⟩
            case measure => simp [intOf]; omega
          · have Hs := Lib.hid (show decide ((a, ps) = (b, qs)) = false from decide_eq_false (fun e => he (by injection e with _ e; subst e; rfl)))
            simp only [decide_eq_false he] at Q2
            clear he
            go_wp2
            go_quiet ((go_at_call 45; exact Calls.quiet_of (Q2 _)))
            go_wp2
            go_ret
            exact ⟨by rw [Hs.out]; rfl, hB1.trans (hbl.drewN _)⟩
        · have Hs := Lib.hid (show decide ((a, ps) = (b, qs)) = true from decide_eq_true (by
            obtain rfl : k = ps.length := by omega
            rw [Hab.out, take_all hp.out Hl.out]))
          have hX1 := cell_keep hX1 (hbl.block (by simp only; omega))
          go_wp2
          go_ret
          exact ⟨by rw [Hs.out]; rfl, hB1.trans hbl⟩
    · have hlc : ((ps.length : Int) != (qs.length : Int)) = true := by simp; omega
      have Hs := Lib.hid (show decide ((a, ps) = (b, qs)) = false from decide_eq_false (fun e => hl (by injection e with _ e; rw [e])))
      clear hl hab
      go_enter Try.func30, Try.ntmps30
      go_wp2_with fail
      generalize (w.alloc (.cells #[.slice A0 a.length c0, .slice A1 ps.length c1] 46)).alloc (.cells #[.slice B0 b.length d0, .slice B1 qs.length d1] 46) = W1 at *
      generalize w.heap.size = g at *
      have hX1 : W1.cell? ⟨g, 1, none⟩ = some (.slice A1 ps.length c1) := hX 1
      have hY1 : W1.cell? ⟨g + 1, 1, none⟩ = some (.slice B1 qs.length d1) := hY 1
      clear hX hY
      refine Q0.mono ?_
      rintro e w' ⟨rfl, q, rfl⟩
      go_wp2_with fail
      go_ret
      exact ⟨by rw [Hs.out]; rfl, hB1.drewN _⟩
  · have Hs := Lib.hid (show decide ((a, ps) = (b, qs)) = false from decide_eq_false (fun e => hab (by injection e with e _)))
    rw [decide_eq_false hab] at Q0
    clear hab
    go_enter Try.func30, Try.ntmps30
    go_wp2_with fail
    generalize (w.alloc (.cells #[.slice A0 a.length c0, .slice A1 ps.length c1] 46)).alloc (.cells #[.slice B0 b.length d0, .slice B1 qs.length d1] 46) = W1 at *
    generalize w.heap.size = g at *
    clear hX hY
    refine Q0.mono ?_
    rintro e w' ⟨rfl, q, rfl⟩
    go_wp2_with fail
    go_ret
    exact ⟨by rw [Hs.out]; rfl, hB1.drewN _⟩

set_option maxHeartbeats 2000000 in
theorem point_c (S S' : Nat → Prop) (A B : Option Addr) (ca cb : Nat) (b : List Int) (ps : List (List Int)) (w : World) (h0 : Rd intT w S A ca b) (h1 : Rd bagT w S' B cb ps) (n m : Nat) (hn : n = b.length) (hm : m = ps.length) :
    Calls Try.prog 51 #[.agg #[.slice A n ca, .slice B m cb]] w fun e w' => e = .returned (.bool (rightL (b, ps) && ps.isEmpty)) ∧ Bel w w' := by
  subst hn hm
  have lm := h1.lenMax
  have hC1 : (w.alloc (.cells #[.slice A b.length ca, .slice B ps.length cb] 46)).cell? ⟨w.heap.size, 1, none⟩ = some (.slice B ps.length cb) := cellAt (heap_alloc_new w _) 1
  have hB1 : Bel w (w.alloc (.cells #[.slice A b.length ca, .slice B ps.length cb] 46)) := (Bel.refl _).alloc _
  have hS1 : w.heap.size < (w.alloc (.cells #[.slice A b.length ca, .slice B ps.length cb] 46)).heap.size := by simp
  have Q := linRight_c _ _ _ _ _ _ _ _ _ (h0.to hB1) (h1.to hB1) _ _ rfl rfl
  generalize rightL (b, ps) = r at *
  go_enter Try.func51, Try.ntmps51
  go_wp2_with fail
  clear h0 h1
  generalize w.alloc (.cells #[.slice A b.length ca, .slice B ps.length cb] 46) = W1 at *
  generalize w.heap.size = g at *
  refine Q.mono ?_
  rintro e w' ⟨rfl, hb⟩
  have hC2 := cell_keep hC1 (hb.block hS1)
  cases r
  · go_wp2_with fail
    go_ret
    exact ⟨by simp, hB1.trans hb⟩
  · cases ps
    · go_wp2_with fail
      go_ret
      exact ⟨by simp <;> omega, hB1.trans hb⟩
    · go_wp2_with fail
      go_ret
      exact ⟨by simp <;> omega, hB1.trans hb⟩

set_option maxHeartbeats 2000000 in
theorem orL_c (S : Nat → Prop) (A : Option Addr) (c : Nat) (l : List Int) (w : World) (h : Rd intT w S A c l) (n : Nat) (hn : n = l.length) :
    Calls Try.prog 48 #[.slice A n c] w fun e w' => e = .returned (.int .i64 (orL l)) ∧ w = w' := by
  subst hn
  have lm := h.lenMax
  go_enter Try.func48, Try.ntmps48
  go_wp2
  go_loop [8] (fun v => ∃ k : Nat, k ≤ l.length ∧ v = .int .i64 k ∧ Hid (orL l = orL (l.drop k))) (fun v => l.length - (intOf v).toNat)
  case atStart => exact ⟨0, Nat.zero_le _, rfl, rfl⟩
  case round =>
    obtain ⟨k, hk, rfl, hp⟩ := hrel
    by_cases hlt : k < l.length
    · obtain ⟨ad, rfl, hc⟩ := h.int hlt
      have Hs := Lib.hid (hp.out.trans (orL_at hlt))
      obtain ⟨x, hx⟩ : ∃ x, l[k] = x := ⟨_, rfl⟩
      rw [hx] at hc Hs
      clear hx
      by_cases h0 : x = 0
      · subst h0
        go_wp2
        go_round
        case rel => exact ⟨k + 1, by omega, by go_num, by have := Hs.out; rwa [if_pos rfl] at this⟩
        case measure => simp [intOf]; omega
      · have hn : (x != 0) = true := by simp [h0]
        have He := Lib.hid (show orL l = x from by rw [Hs.out, if_neg h0])
        clear h0
        go_wp2
        go_ret
        exact ⟨by rw [He.out]; rfl, rfl⟩
    · have He := Lib.hid (show orL l = 0 from by rw [hp.out, List.drop_eq_nil_of_le (by omega)]; rfl)
      go_wp2
      go_ret
      exact ⟨by rw [He.out]; rfl, rfl⟩

set_option maxHeartbeats 2000000 in
theorem compareBags_c (S S' : Nat → Prop) (A B : Option Addr) (ca cb : Nat) (a b : List (List Int)) (w : World) (ha : Rd bagT w S A ca a) (hb : Rd bagT w S' B cb b) (n m : Nat) (hn : n = a.length) (hm : m = b.length) :
    Calls Try.prog 50 #[.slice A n ca, .slice B m cb, .func (.func 47) #[] #[]] w fun e w' => e = .returned (.int .i64 (cmpBy cmpB a b)) ∧ w = w' := by
  subst hn hm
  have la := ha.lenMax
  have lb := hb.lenMax
  have hcf : ∀ args w, (callFunc 47 args).run Try.prog w = .ok (.enter 47 args) w := fun _ _ => by kernel_rfl
  go_enter Try.func50, Try.ntmps50
  go_wp2
  go_loop [13] (fun v => ∃ k : Nat, k ≤ a.length ∧ k ≤ b.length ∧ v = .int .i64 k ∧ Hid (agreeTo cmpB a b k)) (fun v => a.length - (intOf v).toNat)
  case atStart => exact ⟨0, Nat.zero_le _, Nat.zero_le _, rfl, agreeTo_zero _ _ _⟩
  case round =>
    obtain ⟨k, hka, hkb, rfl, hp⟩ := hrel
    by_cases h1 : k < a.length
    · obtain ⟨ad, P, cp, rfl, hpc, hpr⟩ := ha.row h1
      by_cases h2 : k < b.length
      · obtain ⟨bd, Q, cq, rfl, hqc, hqr⟩ := hb.row h2
        have Q2 := bagCompare_c _ _ _ _ _ _ _ _ _ hpr hqr _ _ rfl rfl
        by_cases he : cmpB a[k] b[k] = 0
        · have Hs := Lib.hid (agreeTo_snoc hp.out h1 h2 he)
          rw [he] at Q2
          clear he
          go_wp2_with (go_at_call 47; refine Q2.mono ?_; rintro e w' ⟨rfl, rfl⟩)
          go_round
          case rel => exact ⟨k + 1, by omega, by omega, by go_num, Hs.out⟩
          case measure => simp [intOf]; omega
        · have Hr := Lib.hid (cmpBy_at h1 h2 hp.out he)
          have hz : (cmpB a[k] b[k] == 0) = false := by rw [beq_eq_false_iff_ne]; exact he
          clear he
          go_wp2_with (go_at_call 47; refine Q2.mono ?_; rintro e w' ⟨rfl, rfl⟩)
          go_ret
          exact ⟨by rw [Hr.out]; rfl, rfl⟩
      · have Hr := Lib.hid (cmpBy_long (f := cmpB) (a := a) (b := b) (by omega) (agreeTo_le hp.out (by omega)))
        go_wp2
        go_ret
        exact ⟨by rw [Hr.out]; rfl, rfl⟩
    · by_cases h2 : k < b.length
      · have Hr := Lib.hid (cmpBy_short (f := cmpB) (a := a) (b := b) (by omega) (agreeTo_le hp.out (by omega)))
        go_wp2
        go_ret
        exact ⟨by rw [Hr.out]; rfl, rfl⟩
      · have Hr := Lib.hid (cmpBy_same (f := cmpB) (a := a) (b := b) (by omega) (agreeTo_le hp.out (by omega)))
        go_wp2
        go_ret
        exact ⟨by rw [Hr.out]; rfl, rfl⟩
set_option maxRecDepth 100000 in
set_option maxHeartbeats 4000000 in
theorem linCompare_c (S0 S1 S2 S3 : Nat → Prop) (A0 A1 B0 B1 : Option Addr) (c0 c1 d0 d1 : Nat) (x y : Lin) (w : World) (h0 : Rd intT w S0 A0 c0 x.1) (h1 : Rd bagT w S1 A1 c1 x.2) (g0 : Rd intT w S2 B0 d0 y.1) (g1 : Rd bagT w S3 B1 d1 y.2)
    (n0 n1 m0 m1 : Nat) (hn0 : n0 = x.1.length) (hn1 : n1 = x.2.length) (hm0 : m0 = y.1.length) (hm1 : m1 = y.2.length) :
    Calls Try.prog 32 #[.agg #[.slice A0 n0 c0, .slice A1 n1 c1], .agg #[.slice B0 m0 d0, .slice B1 m1 d1]] w fun e w' => e = .returned (.int .i64 (cmpLin x y)) ∧ Bel w w' := by
  obtain ⟨a, ps⟩ := x
  obtain ⟨b, qs⟩ := y
  dsimp only at *
  subst hn0 hn1 hm0 hm1
  have l1 := h1.lenMax
  have l2 := g1.lenMax
  obtain ⟨hB1, hX, hY, hsz⟩ := twoBoxes w #[.slice A0 a.length c0, .slice A1 ps.length c1] #[.slice B0 b.length d0, .slice B1 qs.length d1] 46
  have h0 := h0.to hB1
  have g0 := g0.to hB1
  have h1 := h1.to hB1
  have g1 := g1.to hB1
  have Q1 := linRight_c _ _ _ _ _ _ _ _ _ h0 h1 _ _ rfl rfl
  cases hA : rightL (a, ps) with
  | false =>
    have He := Lib.hid (cmpLin_no1 (y := (b, qs)) hA)
    rw [hA] at Q1
    clear hA
    go_enter Try.func32, Try.ntmps32
    go_wp2_with fail
    generalize (w.alloc (.cells #[.slice A0 a.length c0, .slice A1 ps.length c1] 46)).alloc (.cells #[.slice B0 b.length d0, .slice B1 qs.length d1] 46) = W1 at *
    generalize w.heap.size = g at *
    clear hX hY
    refine Q1.mono ?_
    rintro e w' ⟨rfl, hb⟩
    go_wp2_with fail
    go_ret
    exact ⟨by rw [He.out]; rfl, hB1.trans hb⟩
  | true =>
    rw [hA] at Q1
    cases hB : rightL (b, qs) with
    | false =>
      have He := Lib.hid (cmpLin_no2 (x := (a, ps)) hB)
      have HB := Lib.hid hB
      clear hA hB
      go_enter Try.func32, Try.ntmps32
      go_wp2_with fail
      generalize (w.alloc (.cells #[.slice A0 a.length c0, .slice A1 ps.length c1] 46)).alloc (.cells #[.slice B0 b.length d0, .slice B1 qs.length d1] 46) = W1 at *
      generalize w.heap.size = g at *
      have hY0 : W1.cell? ⟨g + 1, 0, none⟩ = some (.slice B0 b.length d0) := hY 0
      have hY1 : W1.cell? ⟨g + 1, 1, none⟩ = some (.slice B1 qs.length d1) := hY 1
      clear hX hY
      refine Q1.mono ?_
      rintro e w2 ⟨rfl, hb⟩
      have hY0 := cell_keep hY0 (hb.block (by simp only; omega))
      have hY1 := cell_keep hY1 (hb.block (by simp only; omega))
      have Q2 := linRight_c _ _ _ _ _ _ _ _ _ (g0.to hb) (g1.to hb) _ _ rfl rfl
      rw [HB.out] at Q2
      go_wp2_with fail
      refine Q2.mono ?_
      rintro e w3 ⟨rfl, hb3⟩
      go_wp2_with fail
      go_ret
      exact ⟨by rw [He.out]; rfl, (hB1.trans hb).trans hb3⟩
    | true =>
      have He := Lib.hid (cmpLin_yes hA hB)
      have HB := Lib.hid hB
      clear hA hB
      go_enter Try.func32, Try.ntmps32
      go_wp2_with fail
      generalize (w.alloc (.cells #[.slice A0 a.length c0, .slice A1 ps.length c1] 46)).alloc (.cells #[.slice B0 b.length d0, .slice B1 qs.length d1] 46) = W1 at *
      generalize w.heap.size = g at *
      have hX0 : W1.cell? ⟨g, 0, none⟩ = some (.slice A0 a.length c0) := hX 0
      have hX1 : W1.cell? ⟨g, 1, none⟩ = some (.slice A1 ps.length c1) := hX 1
      have hY0 : W1.cell? ⟨g + 1, 0, none⟩ = some (.slice B0 b.length d0) := hY 0
      have hY1 : W1.cell? ⟨g + 1, 1, none⟩ = some (.slice B1 qs.length d1) := hY 1
      clear hX hY
      refine Q1.mono ?_
      rintro e w2 ⟨rfl, hb⟩
      have hX0 := cell_keep hX0 (hb.block (by simp only; omega))
      have hX1 := cell_keep hX1 (hb.block (by simp only; omega))
      have hY0 := cell_keep hY0 (hb.block (by simp only; omega))
      have hY1 := cell_keep hY1 (hb.block (by simp only; omega))
      have Q2 := linRight_c _ _ _ _ _ _ _ _ _ (g0.to hb) (g1.to hb) _ _ rfl rfl
      rw [HB.out] at Q2
      go_wp2_with fail
      refine Q2.mono ?_
      rintro e w3 ⟨rfl, hb3⟩
      have hb13 := hb.trans hb3
      have hs2 := hb.size
      have hX0 := cell_keep hX0 (hb3.block (by simp only; omega))
      have hX1 := cell_keep hX1 (hb3.block (by simp only; omega))
      have hY0 := cell_keep hY0 (hb3.block (by simp only; omega))
      have hY1 := cell_keep hY1 (hb3.block (by simp only; omega))
      go_wp2_with fail
      refine wp_region_still_tail 17 (by kernel_rfl) (by kernel_rfl) ?_
      simp only [List.take_succ_cons, List.take_zero, List.drop_succ_cons, List.drop_zero]
      change wpStill _ _ w3.drew (fun a' => wpList _ _ _ _ a' w3.drew) _ _
      have hb4 : Bel W1 w3.drew := hb13.drew
      have hbw : Bel w3 w3.drew := (Bel.refl _).drew
      have hX0 := cell_keep hX0 (hbw.block (by have := hb3.size; simp only; omega))
      have hX1 := cell_keep hX1 (hbw.block (by have := hb3.size; simp only; omega))
      have hY0 := cell_keep hY0 (hbw.block (by have := hb3.size; simp only; omega))
      have hY1 := cell_keep hY1 (hbw.block (by have := hb3.size; simp only; omega))
      clear hbw
      generalize w3.drew = w4 at *
      have R1 := (bagCompare_c _ _ _ _ _ _ _ _ _ (h0.to hb4) (g0.to hb4) _ _ rfl rfl).mono fun _ _ (h : _ ∧ _) => (⟨h.1, h.2.symm⟩ : _ ∧ _)
      have R2 := (compareBags_c _ _ _ _ _ _ _ _ _ (h1.to hb4) (g1.to hb4) _ _ rfl rfl).mono fun _ _ (h : _ ∧ _) => (⟨h.1, h.2.symm⟩ : _ ∧ _)
      have R3 := (cmpCompare_c (ps.length : Int) (qs.length : Int) w4).mono fun _ _ (h : _ ∧ _) => (⟨h.1, h.2.symm⟩ : _ ∧ _)
      repeat (first | still_step | still_call R1 | still_call R2 | still_call R3)
      refine wpStill_nil ?_
      generalize hB4 : cmpB a b = z0 at *
      generalize cmpI (ps.length : Int) (qs.length : Int) = z1 at *
      generalize cmpBy cmpB ps qs = z2 at *
      clear hB4 R1 R2 R3 hX0 hX1 hY0 hY1
      go_wp2_with fail
      refine (orL_c _ _ _ [z0, z1, z2] _ (Rd.lit (enc := Value.int .i64) w4 3 [z0, z1, z2] (by simp [maxLen])) _ rfl).mono ?_
      rintro e w5 ⟨rfl, rfl⟩
      go_wp2_with fail
      go_ret
      exact ⟨by rw [He.out, or3_list]; rfl, hB1.trans (hb4.alloc _)⟩
end Go.Proofs.Ytfkopkjioohgoaa

/- Walks: the document's linear sets made. -/
namespace Go.Proofs.Ytfkopkjioohgoaa
open Go.RowKit Go.Cb

theorem info_bag : (Try.prog.info? 43).map (fun i => (i.zero, i.size, i.bytes)) = some (some (.slice none 0 0), 1, 24) := by kernel_rfl

end Go.Proofs.Ytfkopkjioohgoaa

/- Walks: what the statements of chapter 6 make. -/
namespace Go.Proofs.Ytfkopkjioohgoaa
open Go.RowKit Go.Cb
theorem threeBoxes (w : World) (t : TypeId) (a b c d e f : Value) :
    Bel w (((w.alloc (.cells #[a, b] t)).alloc (.cells #[c, d] t)).alloc (.cells #[e, f] t)) ∧ Box (((w.alloc (.cells #[a, b] t)).alloc (.cells #[c, d] t)).alloc (.cells #[e, f] t)) t w.heap.size a b ∧
    Box (((w.alloc (.cells #[a, b] t)).alloc (.cells #[c, d] t)).alloc (.cells #[e, f] t)) t (w.heap.size + 1) c d ∧ Box (((w.alloc (.cells #[a, b] t)).alloc (.cells #[c, d] t)).alloc (.cells #[e, f] t)) t (w.heap.size + 2) e f := by
  refine ⟨(((Bel.refl _).alloc _).alloc _).alloc _, ((Box.new w t a b).to ((Bel.refl _).alloc _)).to ((Bel.refl _).alloc _), ?_, ?_⟩
  · have h := (Box.new (w.alloc (.cells #[a, b] t)) t c d).to ((Bel.refl _).alloc (.cells #[e, f] t))
    rwa [show (w.alloc (.cells #[a, b] t)).heap.size = w.heap.size + 1 by simp] at h
  · have h := Box.new ((w.alloc (.cells #[a, b] t)).alloc (.cells #[c, d] t)) t e f
    rwa [show ((w.alloc (.cells #[a, b] t)).alloc (.cells #[c, d] t)).heap.size = w.heap.size + 2 by simp] at h
end Go.Proofs.Ytfkopkjioohgoaa

/- Walks: copies and cuts of rows of whatever elements. -/
namespace Go.Proofs.Ytfkopkjioohgoaa
open Go.RowKit Go.Cb
set_option maxHeartbeats 1000000 in
theorem cutIntS_c (S : Nat → Prop) (A : Option Addr) (c : Nat) (l : List Int) (k : Nat) (w : World) (h : Rd intT w S A c l) (n : Nat) (hn : n = l.length) (hl : (l.take k).length * 8 ≤ 140737488355328) (K : Int) (hK : K = (k : Int)) :
    Calls Try.prog 8 #[.slice A n c, .int .i64 K] w fun e w' => ∃ v, e = .returned v ∧ Own intT 3 w' w.heap.size (Ge w.heap.size) v (l.take k) ∧ Bel w w' := by
  subst hn hK
  have hm := h.lenMax
  have hcap := h.cap
  by_cases hk : l.length < k
  · have Ht := Lib.hid (show l.take k = l from List.take_of_length_le (by omega))
    have hk2 : (l.length : Int) ≤ (k : Int) := by omega
    go_enter Try.func8, Try.ntmps8
    go_wp2_with (go_at_call 23; refine (copyInt_c S _ c l _ h _ rfl (Ht.out ▸ hl)).mono ?_; rintro e w' ⟨v, rfl, ho, hb⟩)
    go_ret
    exact ⟨_, rfl, by rw [Ht.out]; exact ho, hb⟩
  · have hk2 : (k : Int) ≤ (l.length : Int) := by omega
    go_enter Try.func8, Try.ntmps8
    go_wp2_with (go_at_call 23; refine (copyInt_c S _ c (l.take k) _ (h.take k) _ (by simp; omega) hl).mono ?_; rintro e w' ⟨v, rfl, ho, hb⟩)
    all_goals
      go_ret
      exact ⟨_, rfl, ho, hb⟩
end Go.Proofs.Ytfkopkjioohgoaa

/- Walks: slices.Grow of nothing, slices.Concat. -/
namespace Go.Cb
open Go.RowKit
theorem ownsRow_room {w : World} {base g cap size : Nat} {e : TypeId} {cur : Array Value} (h : w.heap[g]? = some (.cells cur e (0, 0))) (hb : base ≤ g) (hc : cur.size = cap * size) (hm : cap ≤ maxLen) : w.ownsRow base e size (.slice (some ⟨g, 0, none⟩) 0 cap) 0 [] :=
  ⟨by simp, .inr ⟨g, cap, cur, rfl, hb, h, Nat.zero_le _, hm, hc, by simp⟩⟩
theorem Own.room {α : Type} (d : Ty α) {w : World} {base g cap : Nat} {e : TypeId} {S : Nat → Prop} {cur : Array Value} (h : w.heap[g]? = some (.cells cur e (0, 0))) (hb : base ≤ g) (hc : cur.size = cap * d.sz) (hm : cap ≤ maxLen) : Own d e w base S (.slice (some ⟨g, 0, none⟩) 0 cap) [] :=
  ⟨[], ownsRow_room h hb hc hm, fun j x hj => by simp at hj⟩
theorem flat_succ {α : Type} {xss : List (List α)} {k : Nat} {q : List α} (h : xss[k]? = some q) : (xss.take (k + 1)).flatten = (xss.take k).flatten ++ q := by
  rw [List.take_add_one, h]; simp
theorem flat_le {α : Type} (xss : List (List α)) (k : Nat) : (xss.take k).flatten.length ≤ xss.flatten.length := by
  conv => rhs; rw [← List.take_append_drop k xss]
  rw [List.flatten_append, List.length_append]; omega
end Go.Cb
namespace Go.Proofs.Ytfkopkjioohgoaa
open Go.RowKit Go.Cb
theorem infoBags : (Try.prog.info? 43).map (fun i => (i.zero, i.size, i.bytes)) = some (some (.slice none 0 0), 1, 24) := by kernel_rfl
set_option maxRecDepth 20000 in
set_option maxHeartbeats 4294967296 in
theorem growBags_c {α : Type} (d : Ty α) (hd : d.sz = 1) (S : Nat → Prop) (n : Nat) (w : World) (hn : n ≤ 4294967296) :
    Calls Try.prog 63 #[.slice none 0 0, .int .i64 n] w fun e w' => ∃ v, e = .returned v ∧ Own d 43 w' w.heap.size S v [] ∧ Bel w w' := by
  rcases Nat.eq_zero_or_pos n with h0 | h0
  · subst h0
    go_enter Try.func63, Try.ntmps63
    go_wp2
    go_ret
    exact ⟨_, rfl, Own.nil _ _ _ _ _, Bel.refl _⟩
  · have hp : (0 : Int) < (n : Int) := by omega
    obtain ⟨i0, hi, hzz⟩ := Option.map_eq_some_iff.1 infoBags
    simp only [Prod.mk.injEq] at hzz
    obtain ⟨hz0, hz1, hz2⟩ := hzz
    have hr := Lib.run_append_nil_zeros (P := Try.prog) w 44 3 44 43 i0 (.slice none 0 0) .i64 .i64 Try.underlying44 Try.underlying3 hi hz0 n h0 (by omega) (by omega) (by rw [hz2]; omega)
    have hG := grownCap_ge w n 0 43
    have hM := grownCap_le_maxLen w n 0 43 (by unfold maxLen; omega)
    have hX : (w.drew.alloc (.cells (Builtin.zeroCells ((.slice none 0 0) : Value).cells n ++ Builtin.zeroCells ((.slice none 0 0) : Value).cells (grownCap w n 0 43 - n)) 43)).heap[w.heap.size]? = some (.cells (Builtin.zeroCells ((.slice none 0 0) : Value).cells n ++ Builtin.zeroCells ((.slice none 0 0) : Value).cells (grownCap w n 0 43 - n)) 43 (0, 0)) := heap_alloc_new w.drew _
    have hO := Own.room (base := w.heap.size) (S := S) d hX (Nat.le_refl _) (by rw [hd, Array.size_append]; simp [Builtin.zeroCells, Value.cells]; omega) hM
    have hB : Bel w (w.drew.alloc (.cells (Builtin.zeroCells ((.slice none 0 0) : Value).cells n ++ Builtin.zeroCells ((.slice none 0 0) : Value).cells (grownCap w n 0 43 - n)) 43)) := (Bel.refl w).drew.alloc _
    clear hX hi hz0 hz1 hz2
    generalize w.drew.alloc (.cells (Builtin.zeroCells ((.slice none 0 0) : Value).cells n ++ Builtin.zeroCells ((.slice none 0 0) : Value).cells (grownCap w n 0 43 - n)) 43) = W at *
    generalize grownCap w n 0 43 = cp at *
    have HR := Lib.hid hr
    clear hr hG hM
    go_enter Try.func63, Try.ntmps63
    go_wp2_with (at_builtin; refine Lib.wpList_append_run _ rfl _ _ _ _ rfl _ _ rfl rfl _ _ HR.out ?_)
    go_ret
    exact ⟨_, rfl, hO, hB⟩
set_option maxHeartbeats 2000000 in
theorem concatBags_c {α : Type} (d : Ty α) (hd : d.sz = 1) (S : Nat → Prop) (A : Option Addr) (c : Nat) (xss : List (List α)) (w : World) (h : Rd (sl d) w S A c xss) (n : Nat) (hn : n = xss.length) (hl : xss.flatten.length ≤ 4294967296) :
    Calls Try.prog 44 #[.slice A n c] w fun e w' => ∃ v, e = .returned v ∧ Own d 43 w' w.heap.size (fun k => S k ∧ k < w.heap.size) v xss.flatten ∧ Bel w w' := by
  subst hn
  have lm := h.lenMax
  obtain ⟨N, hN⟩ : ∃ N, xss.flatten.length = N := ⟨_, rfl⟩
  have Hle := Lib.hid (show ∀ k, (xss.take k).flatten.length ≤ N from fun k => hN ▸ flat_le xss k)
  rw [hN] at hl
  have HN := Lib.hid hN
  clear hN
  go_enter Try.func44, Try.ntmps44
  go_wp2
  go_loop [3, 11] (fun v3 v11 => ∃ k : Nat, k ≤ xss.length ∧ v11 = .int .i64 k ∧ ∃ m : Nat, v3 = .int .i64 m ∧ Hid ((xss.take k).flatten.length = m)) (fun _ v11 => xss.length - (intOf v11).toNat)
  case atStart => exact ⟨0, Nat.zero_le _, rfl, 0, rfl, (by simp : (xss.take 0).flatten.length = 0)⟩
  case round =>
    obtain ⟨k, hk, rfl, m, rfl, HM⟩ := hrel
    by_cases hlt : k < xss.length
    · obtain ⟨ad, B, cb, rfl, hc, hr⟩ := h.row hlt
      obtain ⟨q, hq⟩ : ∃ q, xss[k] = q := ⟨_, rfl⟩
      have HQ := Lib.hid (flat_succ (show xss[k]? = some q by rw [List.getElem?_eq_getElem hlt, hq]))
      rw [hq] at hc hr
      clear hq
      have h1 := Hle.out (k + 1)
      rw [HQ.out, List.length_append, HM.out] at h1
      have hw : IntKind.i64.wrap ((m : Int) + (q.length : Int)) = ((m + q.length : Nat) : Int) := by rw [IntKind.wrap_i64]; omega
      have hng : decide (((m + q.length : Nat) : Int) < 0) = false := decide_eq_false (by omega)
      have hng2 : decide ((m : Int) + (q.length : Int) < 0) = false := decide_eq_false (by omega)
      go_wp2
      go_round
      case rel => exact ⟨k + 1, by omega, by go_num, m + q.length, by go_num, (by rw [HQ.out, List.length_append, HM.out] : (xss.take (k + 1)).flatten.length = m + q.length)⟩
      case measure => simp [intOf]; omega
    · obtain rfl : k = xss.length := by omega
      have HT := Lib.hid (show xss.take xss.length = xss from List.take_length)
      obtain rfl : N = m := by have := HM.out; rw [HT.out, HN.out] at this; exact this
      clear hlt HM
      go_wp2_with fail
      refine (growBags_c d hd (fun k => S k ∧ k < w.heap.size) N w hl).mono ?_
      rintro e w1 ⟨v1, rfl, ho1, hb1⟩
      go_wp2
      go_loopw [6, 27] (fun v6 v27 wr => ∃ (k : Nat) (W : World), W = wr ∧ k ≤ xss.length ∧ v27 = .int .i64 k ∧ Own d 43 W w.heap.size (fun k => S k ∧ k < w.heap.size) v6 (xss.take k).flatten ∧ Bel w W) (fun _ v27 _ => xss.length - (intOf v27).toNat)
      case atStart => exact ⟨0, _, rfl, Nat.zero_le _, rfl, by simpa using ho1, hb1⟩
      case round =>
        obtain ⟨k, W, rfl, hk, rfl, ho, hb⟩ := hrel
        by_cases hlt : k < xss.length
        · obtain ⟨ad, B, cb, rfl, hc, hr⟩ := (h.bound.to hb).row hlt
          obtain ⟨q, hq⟩ : ∃ q, xss[k] = q := ⟨_, rfl⟩
          have HQ := Lib.hid (flat_succ (show xss[k]? = some q by rw [List.getElem?_eq_getElem hlt, hq]))
          rw [hq] at hc hr
          clear hq
          have h1 := Hle.out (k + 1)
          rw [HQ.out, List.length_append] at h1
          have HO := Lib.hid ho
          have h1' := Lib.hid (show (xss.take k).flatten.length + q.length ≤ 4294967296 by omega)
          obtain ⟨A6, c6, hv6⟩ := ho.form
          subst hv6
          clear ho h1
          go_wp2_with (at_builtin; refine wp_append d (w0 := w) 44 43 (.slice none 0 0) 24 rfl _ _ rfl Try.underlying44 (by rw [hd]; exact infoBags) (by rw [hd]; rfl) (fun k => S k ∧ k < w.heap.size) (fun k => S k ∧ k < w.heap.size) _ (xss.take k).flatten q _ _ cb rfl rfl rfl HO.out hr (d.rdS (fun j hj _ => ⟨hj, fun e => by have := HO.out.ge e.symm; omega⟩)) hb (by unfold maxLen; have := h1'.out; omega) (by have := h1'.out; omega) ?_; rintro v7 w7 ho7 hb7 _ _; rw [← HQ.out] at ho7)
          go_roundw
          case rel => exact ⟨k + 1, _, rfl, by omega, by go_num, ho7, hb7⟩
          case measure => simp [intOf]; omega
        · obtain rfl : k = xss.length := by omega
          rw [HT.out] at ho
          go_wp2
          go_ret
          exact ⟨_, rfl, ho, hb⟩
theorem infoLins : (Try.prog.info? 46).map (fun i => (i.zero, i.size, i.bytes)) = some (some (.agg #[.slice none 0 0, .slice none 0 0]), 2, 48) := by kernel_rfl
set_option maxRecDepth 20000 in
set_option maxHeartbeats 4294967296 in
theorem growLins_c {α : Type} (d : Ty α) (hd : d.sz = 2) (S : Nat → Prop) (n : Nat) (w : World) (hn : n ≤ 4294967296) :
    Calls Try.prog 41 #[.slice none 0 0, .int .i64 n] w fun e w' => ∃ v, e = .returned v ∧ Own d 46 w' w.heap.size S v [] ∧ Bel w w' := by
  rcases Nat.eq_zero_or_pos n with h0 | h0
  · subst h0
    go_enter Try.func41, Try.ntmps41
    go_wp2
    go_ret
    exact ⟨_, rfl, Own.nil _ _ _ _ _, Bel.refl _⟩
  · have hp : (0 : Int) < (n : Int) := by omega
    obtain ⟨i0, hi, hzz⟩ := Option.map_eq_some_iff.1 infoLins
    simp only [Prod.mk.injEq] at hzz
    obtain ⟨hz0, hz1, hz2⟩ := hzz
    have hr := Lib.run_append_nil_zeros (P := Try.prog) w 28 3 28 46 i0 (.agg #[.slice none 0 0, .slice none 0 0]) .i64 .i64 Try.underlying28 Try.underlying3 hi hz0 n h0 (by omega) (by omega) (by rw [hz2]; omega)
    have hG := grownCap_ge w n 0 46
    have hM := grownCap_le_maxLen w n 0 46 (by unfold maxLen; omega)
    have hX : (w.drew.alloc (.cells (Builtin.zeroCells ((.agg #[.slice none 0 0, .slice none 0 0]) : Value).cells n ++ Builtin.zeroCells ((.agg #[.slice none 0 0, .slice none 0 0]) : Value).cells (grownCap w n 0 46 - n)) 46)).heap[w.heap.size]? = some (.cells (Builtin.zeroCells ((.agg #[.slice none 0 0, .slice none 0 0]) : Value).cells n ++ Builtin.zeroCells ((.agg #[.slice none 0 0, .slice none 0 0]) : Value).cells (grownCap w n 0 46 - n)) 46 (0, 0)) := heap_alloc_new w.drew _
    have hO := Own.room (base := w.heap.size) (S := S) d hX (Nat.le_refl _) (by rw [hd, Array.size_append]; simp [Builtin.zeroCells, Value.cells]; omega) hM
    have hB : Bel w (w.drew.alloc (.cells (Builtin.zeroCells ((.agg #[.slice none 0 0, .slice none 0 0]) : Value).cells n ++ Builtin.zeroCells ((.agg #[.slice none 0 0, .slice none 0 0]) : Value).cells (grownCap w n 0 46 - n)) 46)) := (Bel.refl w).drew.alloc _
    clear hX hi hz0 hz1 hz2
    generalize w.drew.alloc (.cells (Builtin.zeroCells ((.agg #[.slice none 0 0, .slice none 0 0]) : Value).cells n ++ Builtin.zeroCells ((.agg #[.slice none 0 0, .slice none 0 0]) : Value).cells (grownCap w n 0 46 - n)) 46) = W at *
    generalize grownCap w n 0 46 = cp at *
    have HR := Lib.hid hr
    clear hr hG hM
    go_enter Try.func41, Try.ntmps41
    go_wp2_with (at_builtin; refine Lib.wpList_append_run _ rfl _ _ _ _ rfl _ _ rfl rfl _ _ HR.out ?_)
    go_ret
    exact ⟨_, rfl, hO, hB⟩
set_option maxHeartbeats 2000000 in
theorem concatLins_c {α : Type} (d : Ty α) (hd : d.sz = 2) (S : Nat → Prop) (A : Option Addr) (c : Nat) (xss : List (List α)) (w : World) (h : Rd (sl d) w S A c xss) (n : Nat) (hn : n = xss.length) (hl : xss.flatten.length ≤ 4294967296) :
    Calls Try.prog 28 #[.slice A n c] w fun e w' => ∃ v, e = .returned v ∧ Own d 46 w' w.heap.size (fun k => S k ∧ k < w.heap.size) v xss.flatten ∧ Bel w w' := by
  subst hn
  have lm := h.lenMax
  obtain ⟨N, hN⟩ : ∃ N, xss.flatten.length = N := ⟨_, rfl⟩
  have Hle := Lib.hid (show ∀ k, (xss.take k).flatten.length ≤ N from fun k => hN ▸ flat_le xss k)
  rw [hN] at hl
  have HN := Lib.hid hN
  clear hN
  go_enter Try.func28, Try.ntmps28
  go_wp2
  go_loop [3, 11] (fun v3 v11 => ∃ k : Nat, k ≤ xss.length ∧ v11 = .int .i64 k ∧ ∃ m : Nat, v3 = .int .i64 m ∧ Hid ((xss.take k).flatten.length = m)) (fun _ v11 => xss.length - (intOf v11).toNat)
  case atStart => exact ⟨0, Nat.zero_le _, rfl, 0, rfl, (by simp : (xss.take 0).flatten.length = 0)⟩
  case round =>
    obtain ⟨k, hk, rfl, m, rfl, HM⟩ := hrel
    by_cases hlt : k < xss.length
    · obtain ⟨ad, B, cb, rfl, hc, hr⟩ := h.row hlt
      obtain ⟨q, hq⟩ : ∃ q, xss[k] = q := ⟨_, rfl⟩
      have HQ := Lib.hid (flat_succ (show xss[k]? = some q by rw [List.getElem?_eq_getElem hlt, hq]))
      rw [hq] at hc hr
      clear hq
      have h1 := Hle.out (k + 1)
      rw [HQ.out, List.length_append, HM.out] at h1
      have hw : IntKind.i64.wrap ((m : Int) + (q.length : Int)) = ((m + q.length : Nat) : Int) := by rw [IntKind.wrap_i64]; omega
      have hng : decide (((m + q.length : Nat) : Int) < 0) = false := decide_eq_false (by omega)
      have hng2 : decide ((m : Int) + (q.length : Int) < 0) = false := decide_eq_false (by omega)
      go_wp2
      go_round
      case rel => exact ⟨k + 1, by omega, by go_num, m + q.length, by go_num, (by rw [HQ.out, List.length_append, HM.out] : (xss.take (k + 1)).flatten.length = m + q.length)⟩
      case measure => simp [intOf]; omega
    · obtain rfl : k = xss.length := by omega
      have HT := Lib.hid (show xss.take xss.length = xss from List.take_length)
      obtain rfl : N = m := by have := HM.out; rw [HT.out, HN.out] at this; exact this
      clear hlt HM
      go_wp2_with fail
      refine (growLins_c d hd (fun k => S k ∧ k < w.heap.size) N w hl).mono ?_
      rintro e w1 ⟨v1, rfl, ho1, hb1⟩
      go_wp2
      go_loopw [6, 27] (fun v6 v27 wr => ∃ (k : Nat) (W : World), W = wr ∧ k ≤ xss.length ∧ v27 = .int .i64 k ∧ Own d 46 W w.heap.size (fun k => S k ∧ k < w.heap.size) v6 (xss.take k).flatten ∧ Bel w W) (fun _ v27 _ => xss.length - (intOf v27).toNat)
      case atStart => exact ⟨0, _, rfl, Nat.zero_le _, rfl, by simpa using ho1, hb1⟩
      case round =>
        obtain ⟨k, W, rfl, hk, rfl, ho, hb⟩ := hrel
        by_cases hlt : k < xss.length
        · obtain ⟨ad, B, cb, rfl, hc, hr⟩ := (h.bound.to hb).row hlt
          obtain ⟨q, hq⟩ : ∃ q, xss[k] = q := ⟨_, rfl⟩
          have HQ := Lib.hid (flat_succ (show xss[k]? = some q by rw [List.getElem?_eq_getElem hlt, hq]))
          rw [hq] at hc hr
          clear hq
          have h1 := Hle.out (k + 1)
          rw [HQ.out, List.length_append] at h1
          have HO := Lib.hid ho
          have h1' := Lib.hid (show (xss.take k).flatten.length + q.length ≤ 4294967296 by omega)
          obtain ⟨A6, c6, hv6⟩ := ho.form
          subst hv6
          clear ho h1
          go_wp2_with (at_builtin; refine wp_append d (w0 := w) 28 46 (.agg #[.slice none 0 0, .slice none 0 0]) 48 rfl _ _ rfl Try.underlying28 (by rw [hd]; exact infoLins) (by rw [hd]; rfl) (fun k => S k ∧ k < w.heap.size) (fun k => S k ∧ k < w.heap.size) _ (xss.take k).flatten q _ _ cb rfl rfl rfl HO.out hr (d.rdS (fun j hj _ => ⟨hj, fun e => by have := HO.out.ge e.symm; omega⟩)) hb (by unfold maxLen; have := h1'.out; omega) (by have := h1'.out; omega) ?_; rintro v7 w7 ho7 hb7 _ _; rw [← HQ.out] at ho7)
          go_roundw
          case rel => exact ⟨k + 1, _, rfl, by omega, by go_num, ho7, hb7⟩
          case measure => simp [intOf]; omega
        · obtain rfl : k = xss.length := by omega
          rw [HT.out] at ho
          go_wp2
          go_ret
          exact ⟨_, rfl, ho, hb⟩
end Go.Proofs.Ytfkopkjioohgoaa
