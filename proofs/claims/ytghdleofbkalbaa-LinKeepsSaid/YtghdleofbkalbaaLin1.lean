/- Walks: linear sets that are right. -/
import Derived.Test.YtghdleofbkalbaaBag9
import Derived.Test.YtghdleofbkalbaaLib3
import Derived.Test.YtghdleofbkalbaaPure5
namespace Go.Proofs.Ytghdleofbkalbaa
open Go.RowKit Go.Cb

theorem bagCompareB_c (S S' : Nat → Prop) (A B : Option Addr) (ca cb : Nat) (a b : List Int) (w : World) (ha : Rd intT w S A ca a) (hb : Rd intT w S' B cb b) (n m : Nat) (hn : n = a.length) (hm : m = b.length) :
    Calls Try.prog 30 #[.slice A n ca, .slice B m cb] w fun e w' => e = .returned (.int .i64 (cmpB a b)) ∧ Bel w w' :=
  (bagCompare_c S S' A B ca cb a b w ha hb n m hn hm).mono fun _ _ ⟨h1, h2⟩ => ⟨h1, h2 ▸ Bel.refl _⟩
set_option maxHeartbeats 4000000 in
theorem linRight_c (S S' : Nat → Prop) (A B : Option Addr) (ca cb : Nat) (b : List Int) (ps : List (List Int)) (w : World) (h0 : Rd intT w S A ca b) (h1 : Rd bagT w S' B cb ps) (n m : Nat) (hn : n = b.length) (hm : m = ps.length) :
    Calls Try.prog 16 #[.agg #[.slice A n ca, .slice B m cb]] w fun e w' => e = .returned (.bool (rightL (b, ps))) ∧ Bel w w' := by
  subst hn hm
  have lm := h1.lenMax
  cases hR : rightB b with
  | false =>
    have Hr := Lib.hid (rightL_no (l := (b, ps)) hR)
    go_enter Try.func16, Try.ntmps16
    go_wp2_with fail
    refine (right_c _ _ _ _ _ (h0.to ((Bel.refl _).alloc _)) _ rfl).mono ?_
    rintro e w' ⟨rfl, rfl⟩
    go_wp2_with fail
    go_ret
    exact ⟨by rw [Hr.out]; rfl, (Bel.refl _).alloc _⟩
  | true =>
    have HR := Lib.hid hR
    go_enter Try.func16, Try.ntmps16
    go_wp2_with fail
    refine (right_c _ _ _ _ _ (h0.to ((Bel.refl _).alloc _)) _ rfl).mono ?_
    rintro e w' ⟨rfl, rfl⟩
    go_wp2_with fail
    have hB1 : Bel w (w.alloc (.cells #[.slice A b.length ca, .slice B ps.length cb] 26)) := (Bel.refl _).alloc _
    have hC1 : (w.alloc (.cells #[.slice A b.length ca, .slice B ps.length cb] 26)).cell? ⟨w.heap.size, 1, none⟩ = some (.slice B ps.length cb) := cellAt (heap_alloc_new w _) 1
    have hS1 : w.heap.size < (w.alloc (.cells #[.slice A b.length ca, .slice B ps.length cb] 26)).heap.size := by simp
    clear hR h0
    generalize w.alloc (.cells #[.slice A b.length ca, .slice B ps.length cb] 26) = W1 at *
    generalize w.heap.size = g at *
    have h1 := h1.to hB1
    go_loopw [2, 12] (fun v2 v12 wr => ∃ k : Nat, k ≤ ps.length ∧ v12 = .int .i64 k ∧ v2 = .bool false ∧ Hid (okTo ps k = true) ∧ Bel W1 wr) (fun _ v12 _ => ps.length - (intOf v12).toNat)
    case atStart => exact ⟨0, Nat.zero_le _, rfl, rfl, rfl, Bel.refl _⟩
    case round =>
      obtain ⟨k, hk, rfl, rfl, hp, hbl⟩ := hrel
      have hC1 := cell_keep hC1 (hbl.block hS1)
      have h1 := h1.to hbl
      by_cases hlt : k < ps.length
      · obtain ⟨ad, P1, c1, rfl, hc1, hr1⟩ := h1.row hlt
        obtain ⟨p, hpe⟩ : ∃ p, ps[k] = p := ⟨_, rfl⟩
        rw [hpe] at hc1 hr1
        have lp := hr1.lenMax
        have Hpe := Lib.hid hpe
        clear hpe
        cases p with
        | nil =>
          have Hb := Lib.hid (rightL_bad (l := (b, ps)) hlt (by unfold okAt; rw [getDl_of hlt, Hpe.out]; rfl))
          go_wp2_with (go_at_call 39; refine (right_c _ _ _ _ _ hr1 _ rfl).mono ?_; rw [show rightB [] = true from rfl]; rintro e w' ⟨rfl, rfl⟩)
          go_ret
          exact ⟨by rw [Hb.out]; rfl, hB1.trans hbl⟩
        | cons x p =>
          cases hq : rightB (x :: p) with
          | false =>
            have Hb := Lib.hid (rightL_bad (l := (b, ps)) hlt (by unfold okAt; rw [getDl_of hlt, Hpe.out, hq]; rfl))
            go_wp2_with (go_at_call 39; refine (right_c _ _ _ _ _ hr1 _ rfl).mono ?_; rw [hq]; rintro e w' ⟨rfl, rfl⟩)
            go_ret
            exact ⟨by rw [Hb.out]; rfl, hB1.trans hbl⟩
          | true =>
            by_cases hk0 : 0 < k
            · obtain ⟨ad2, P2, c2, he2, hc2, hr2⟩ := h1.row (k := k - 1) (by omega)
              injection he2 with he2
              subst he2
              have hs := okTo_succ ps k
              rw [hp.out, okAt_next hlt hk0, Hpe.out, hq] at hs
              obtain ⟨q, hqe⟩ : ∃ q, ps[k - 1] = q := ⟨_, rfl⟩
              rw [hqe] at hc2 hr2 hs
              have Hs := Lib.hid hs
              have Hqe := Lib.hid hqe
              clear hs hqe
              by_cases hcm : cmpB q (x :: p) < 0
              · have hcd : decide (0 ≤ cmpB q (x :: p)) = false := decide_eq_false (by omega)
                have Hs2 := Lib.hid (show okTo ps (k + 1) = true from by rw [Hs.out, decide_eq_true hcm]; rfl)
                go_wp2_with (first
                  | (go_at_call 39; refine (right_c _ _ _ _ _ hr1 _ rfl).mono ?_; rw [hq]; rintro e w' ⟨rfl, rfl⟩)
                  | (go_at_call 30; refine (bagCompareB_c _ _ _ _ _ _ _ _ _ hr2 hr1 _ _ rfl rfl).mono ?_; rintro e w5 ⟨rfl, hb5⟩))
                go_roundw
                case rel => exact ⟨k + 1, by omega, by go_num, rfl, Hs2.out, by first | exact hbl | exact hbl.trans hb5⟩
                case measure => simp [intOf]; omega
              · have hcd : decide (0 ≤ cmpB q (x :: p)) = true := decide_eq_true (by omega)
                have Hb := Lib.hid (rightL_bad (l := (b, ps)) hlt (by rw [okAt_next hlt hk0, Hpe.out, hq, Hqe.out, decide_eq_false hcm]; rfl))
                go_wp2_with (first
                  | (go_at_call 39; refine (right_c _ _ _ _ _ hr1 _ rfl).mono ?_; rw [hq]; rintro e w' ⟨rfl, rfl⟩)
                  | (go_at_call 30; refine (bagCompareB_c _ _ _ _ _ _ _ _ _ hr2 hr1 _ _ rfl rfl).mono ?_; rintro e w5 ⟨rfl, hb5⟩))
                go_ret
                exact ⟨by rw [Hb.out]; rfl, by first | exact hB1.trans hbl | exact (hB1.trans hbl).trans hb5⟩
            · have Hs := Lib.hid (show okTo ps (k + 1) = true from by rw [okTo_succ, hp.out, okAt_first hlt hk0, Hpe.out, hq]; rfl)
              go_wp2_with (go_at_call 39; refine (right_c _ _ _ _ _ hr1 _ rfl).mono ?_; rw [hq]; rintro e w' ⟨rfl, rfl⟩)
              go_roundw
              case rel => exact ⟨k + 1, by omega, by go_num, rfl, Hs.out, hbl⟩
              case measure => simp [intOf]; omega
      · obtain rfl : k = ps.length := by omega
        have Hb := Lib.hid (rightL_yes (l := (b, ps)) HR.out hp.out)
        go_wp2
        go_ret
        exact ⟨by rw [Hb.out]; rfl, hB1.trans hbl⟩
set_option maxHeartbeats 4000000 in
theorem refRightLin_c (S S' : Nat → Prop) (A B : Option Addr) (ca cb : Nat) (b : List Int) (ps : List (List Int)) (w : World) (h0 : Rd intT w S A ca b) (h1 : Rd bagT w S' B cb ps) (n m : Nat) (hn : n = b.length) (hm : m = ps.length) :
    Calls Try.prog 25 #[.agg #[.slice A n ca, .slice B m cb]] w fun e w' => e = .returned (.bool (rightL (b, ps))) ∧ Bel w w' := by
  subst hn hm
  have lm := h1.lenMax
  cases hR : rightB b with
  | false =>
    have Hr := Lib.hid (rightL_no (l := (b, ps)) hR)
    go_enter Try.func25, Try.ntmps25
    go_wp2_with fail
    refine (refRight_c _ _ _ _ _ (h0.to ((Bel.refl _).alloc _)) _ rfl).mono ?_
    rintro e w' ⟨rfl, rfl⟩
    go_wp2_with fail
    go_ret
    exact ⟨by rw [Hr.out]; rfl, (Bel.refl _).alloc _⟩
  | true =>
    have HR := Lib.hid hR
    go_enter Try.func25, Try.ntmps25
    go_wp2_with fail
    refine (refRight_c _ _ _ _ _ (h0.to ((Bel.refl _).alloc _)) _ rfl).mono ?_
    rintro e w' ⟨rfl, rfl⟩
    go_wp2_with fail
    have hB1 : Bel w (w.alloc (.cells #[.slice A b.length ca, .slice B ps.length cb] 26)) := (Bel.refl _).alloc _
    have hC1 : (w.alloc (.cells #[.slice A b.length ca, .slice B ps.length cb] 26)).cell? ⟨w.heap.size, 1, none⟩ = some (.slice B ps.length cb) := cellAt (heap_alloc_new w _) 1
    have hS1 : w.heap.size < (w.alloc (.cells #[.slice A b.length ca, .slice B ps.length cb] 26)).heap.size := by simp
    clear hR h0
    generalize w.alloc (.cells #[.slice A b.length ca, .slice B ps.length cb] 26) = W1 at *
    generalize w.heap.size = g at *
    have h1 := h1.to hB1
    go_loopw [2, 12] (fun v2 v12 wr => ∃ k : Nat, k ≤ ps.length ∧ v12 = .int .i64 k ∧ v2 = .bool false ∧ Hid (okTo ps k = true) ∧ Bel W1 wr) (fun _ v12 _ => ps.length - (intOf v12).toNat)
    case atStart => exact ⟨0, Nat.zero_le _, rfl, rfl, rfl, Bel.refl _⟩
    case round =>
      obtain ⟨k, hk, rfl, rfl, hp, hbl⟩ := hrel
      have hC1 := cell_keep hC1 (hbl.block hS1)
      have h1 := h1.to hbl
      by_cases hlt : k < ps.length
      · obtain ⟨ad, P1, c1, rfl, hc1, hr1⟩ := h1.row hlt
        obtain ⟨p, hpe⟩ : ∃ p, ps[k] = p := ⟨_, rfl⟩
        rw [hpe] at hc1 hr1
        have lp := hr1.lenMax
        have Hpe := Lib.hid hpe
        clear hpe
        cases p with
        | nil =>
          have Hb := Lib.hid (rightL_bad (l := (b, ps)) hlt (by unfold okAt; rw [getDl_of hlt, Hpe.out]; rfl))
          go_wp2_with (go_at_call 49; refine (refRight_c _ _ _ _ _ hr1 _ rfl).mono ?_; rw [show rightB [] = true from rfl]; rintro e w' ⟨rfl, rfl⟩)
          go_ret
          exact ⟨by rw [Hb.out]; rfl, hB1.trans hbl⟩
        | cons x p =>
          cases hq : rightB (x :: p) with
          | false =>
            have Hb := Lib.hid (rightL_bad (l := (b, ps)) hlt (by unfold okAt; rw [getDl_of hlt, Hpe.out, hq]; rfl))
            go_wp2_with (go_at_call 49; refine (refRight_c _ _ _ _ _ hr1 _ rfl).mono ?_; rw [hq]; rintro e w' ⟨rfl, rfl⟩)
            go_ret
            exact ⟨by rw [Hb.out]; rfl, hB1.trans hbl⟩
          | true =>
            by_cases hk0 : 0 < k
            · obtain ⟨ad2, P2, c2, he2, hc2, hr2⟩ := h1.row (k := k - 1) (by omega)
              injection he2 with he2
              subst he2
              have hs := okTo_succ ps k
              rw [hp.out, okAt_next hlt hk0, Hpe.out, hq] at hs
              obtain ⟨q, hqe⟩ : ∃ q, ps[k - 1] = q := ⟨_, rfl⟩
              rw [hqe] at hc2 hr2 hs
              have Hs := Lib.hid hs
              have Hqe := Lib.hid hqe
              clear hs hqe
              by_cases hcm : cmpB q (x :: p) < 0
              · have hcd : decide (0 ≤ cmpB q (x :: p)) = false := decide_eq_false (by omega)
                have Hs2 := Lib.hid (show okTo ps (k + 1) = true from by rw [Hs.out, decide_eq_true hcm]; rfl)
                go_wp2_with (first
                  | (go_at_call 49; refine (refRight_c _ _ _ _ _ hr1 _ rfl).mono ?_; rw [hq]; rintro e w' ⟨rfl, rfl⟩)
                  | (go_at_call 50; refine (refCompare_c _ _ _ _ _ _ _ _ _ hr2 hr1 _ _ rfl rfl).mono ?_; rintro e w5 ⟨rfl, hb5⟩))
                go_roundw
                case rel => exact ⟨k + 1, by omega, by go_num, rfl, Hs2.out, by first | exact hbl | exact hbl.trans hb5⟩
                case measure => simp [intOf]; omega
              · have hcd : decide (0 ≤ cmpB q (x :: p)) = true := decide_eq_true (by omega)
                have Hb := Lib.hid (rightL_bad (l := (b, ps)) hlt (by rw [okAt_next hlt hk0, Hpe.out, hq, Hqe.out, decide_eq_false hcm]; rfl))
                go_wp2_with (first
                  | (go_at_call 49; refine (refRight_c _ _ _ _ _ hr1 _ rfl).mono ?_; rw [hq]; rintro e w' ⟨rfl, rfl⟩)
                  | (go_at_call 50; refine (refCompare_c _ _ _ _ _ _ _ _ _ hr2 hr1 _ _ rfl rfl).mono ?_; rintro e w5 ⟨rfl, hb5⟩))
                go_ret
                exact ⟨by rw [Hb.out]; rfl, by first | exact hB1.trans hbl | exact (hB1.trans hbl).trans hb5⟩
            · have Hs := Lib.hid (show okTo ps (k + 1) = true from by rw [okTo_succ, hp.out, okAt_first hlt hk0, Hpe.out, hq]; rfl)
              go_wp2_with (go_at_call 49; refine (refRight_c _ _ _ _ _ hr1 _ rfl).mono ?_; rw [hq]; rintro e w' ⟨rfl, rfl⟩)
              go_roundw
              case rel => exact ⟨k + 1, by omega, by go_num, rfl, Hs.out, hbl⟩
              case measure => simp [intOf]; omega
      · obtain rfl : k = ps.length := by omega
        have Hb := Lib.hid (rightL_yes (l := (b, ps)) HR.out hp.out)
        go_wp2
        go_ret
        exact ⟨by rw [Hb.out]; rfl, hB1.trans hbl⟩
end Go.Proofs.Ytghdleofbkalbaa
