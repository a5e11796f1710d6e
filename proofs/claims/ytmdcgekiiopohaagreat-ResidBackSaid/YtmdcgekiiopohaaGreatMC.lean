/- Walks: linear sets that are right. -/
import Derived.Test.YtmdcgekiiopohaaGreatMB
import Derived.Test.YtmdcgekiiopohaaGreatMA
import Derived.StillTailTactics
import Derived.Laws.ResultCell
import Derived.Lib.AppendZerosOnto
set_option linter.unusedVariables false
set_option linter.unusedSimpArgs false
namespace Go.Proofs.YtmdcgekiiopohaaGreat
open Go.RowKit Go.Cb

theorem bagCompareB_c (S S' : Nat → Prop) (A B : Option Addr) (ca cb : Nat) (a b : List Int) (w : World) (ha : Rd intT w S A ca a) (hb : Rd intT w S' B cb b) (n m : Nat) (hn : n = a.length) (hm : m = b.length) :
    Calls Tryz.prog 74 #[.slice A n ca, .slice B m cb] w fun e w' => e = .returned (.int .i64 (cmpB a b)) ∧ Bel w w' :=
  (bagCompare_c S S' A B ca cb a b w ha hb n m hn hm).mono fun _ _ ⟨h1, h2⟩ => ⟨h1, h2 ▸ Bel.refl _⟩
set_option maxHeartbeats 4000000 in
theorem linRight_c (S S' : Nat → Prop) (A B : Option Addr) (ca cb : Nat) (b : List Int) (ps : List (List Int)) (w : World) (h0 : Rd intT w S A ca b) (h1 : Rd bagT w S' B cb ps) (n m : Nat) (hn : n = b.length) (hm : m = ps.length) :
    Calls Tryz.prog 48 #[.agg #[.slice A n ca, .slice B m cb]] w fun e w' => e = .returned (.bool (rightL (b, ps))) ∧ Bel w w' := by
  subst hn hm
  have lm := h1.lenMax
  cases hR : rightB b with
  | false =>
    have Hr := Lib.hid (rightL_no (l := (b, ps)) hR)
    go_enter Tryz.func48, Tryz.ntmps48
    go_wp2_with fail
    refine (right_c _ _ _ _ _ (h0.to ((Bel.refl _).alloc _)) _ rfl).mono ?_
    rintro e w' ⟨rfl, rfl⟩
    go_wp2_with fail
    go_ret
    exact ⟨by rw [Hr.out]; rfl, (Bel.refl _).alloc _⟩
  | true =>
    have HR := Lib.hid hR
    go_enter Tryz.func48, Tryz.ntmps48
    go_wp2_with fail
    refine (right_c _ _ _ _ _ (h0.to ((Bel.refl _).alloc _)) _ rfl).mono ?_
    rintro e w' ⟨rfl, rfl⟩
    go_wp2_with fail
    have hB1 : Bel w (w.alloc (.cells #[.slice A b.length ca, .slice B ps.length cb] 30)) := (Bel.refl _).alloc _
    have hC1 : (w.alloc (.cells #[.slice A b.length ca, .slice B ps.length cb] 30)).cell? ⟨w.heap.size, 1, none⟩ = some (.slice B ps.length cb) := cellAt (heap_alloc_new w _) 1
    have hS1 : w.heap.size < (w.alloc (.cells #[.slice A b.length ca, .slice B ps.length cb] 30)).heap.size := by simp
    clear hR h0
    generalize w.alloc (.cells #[.slice A b.length ca, .slice B ps.length cb] 30) = W1 at *
    generalize w.heap.size = g at *
    have h1 := h1.to hB1
    go_loopw [2, 12] (fun v2 v12 wr => ∃ k : Nat, k ≤ ps.length ∧ v12 = .int .i64 k ∧ v2 = .bool false ∧ Hid (okTo ps k = true) ∧ Bel W1 wr) (fun _ v12 _ => ps.length - (intOf v12).toNat)
    case atStart => exact ⟨0, Nat.zero_le _, rfl, rfl, rfl, Bel.refl _⟩
    case round =>
      obtain ⟨k, hk, rfl, rfl, hp, hbl⟩ := hrel
      have hC1 := cell_keep hC1 (hbl.block hS1)
      have h1 := h1.to hbl
      by_cases hlt : k < ps.length
      · obtain ⟨ad, P1, c1, rfl, hc1, hr1⟩ := h1.row hlt
        obtain ⟨p, hpe⟩ : ∃ p, ps[k] = p := ⟨_, rfl⟩
        rw [hpe] at hc1 hr1
        have lp := hr1.lenMax
        have Hpe := Lib.hid hpe
        clear hpe
        cases p with
        | nil =>
          have Hb := Lib.hid (rightL_bad (l := (b, ps)) hlt (by unfold okAt; rw [getDl_of hlt, Hpe.out]; rfl))
          go_wp2_with (go_at_call 20; refine (right_c _ _ _ _ _ hr1 _ rfl).mono ?_; rw [show rightB [] = true from rfl]; rintro e w' ⟨rfl, rfl⟩)
          go_ret
          exact ⟨by rw [Hb.out]; rfl, hB1.trans hbl⟩
        | cons x p =>
          cases hq : rightB (x :: p) with
          | false =>
            have Hb := Lib.hid (rightL_bad (l := (b, ps)) hlt (by unfold okAt; rw [getDl_of hlt, Hpe.out, hq]; rfl))
            go_wp2_with (go_at_call 20; refine (right_c _ _ _ _ _ hr1 _ rfl).mono ?_; rw [hq]; rintro e w' ⟨rfl, rfl⟩)
            go_ret
            exact ⟨by rw [Hb.out]; rfl, hB1.trans hbl⟩
          | true =>
            by_cases hk0 : 0 < k
            · obtain ⟨ad2, P2, c2, he2, hc2, hr2⟩ := h1.row (k := k - 1) (by omega)
              injection he2 with he2
              subst he2
              have hs := okTo_succ ps k
              rw [hp.out, okAt_next hlt hk0, Hpe.out, hq] at hs
              obtain ⟨q, hqe⟩ : ∃ q, ps[k - 1] = q := ⟨_, rfl⟩
              rw [hqe] at hc2 hr2 hs
              have Hs := Lib.hid hs
              have Hqe := Lib.hid hqe
              clear hs hqe
              by_cases hcm : cmpB q (x :: p) < 0
              · have hcd : decide (0 ≤ cmpB q (x :: p)) = false := decide_eq_false (by omega)
                have Hs2 := Lib.hid (show okTo ps (k + 1) = true from by rw [Hs.out, decide_eq_true hcm]; rfl)
                go_wp2_with (first
                  | (go_at_call 20; refine (right_c _ _ _ _ _ hr1 _ rfl).mono ?_; rw [hq]; rintro e w' ⟨rfl, rfl⟩)
                  | (go_at_call 74; refine (bagCompareB_c _ _ _ _ _ _ _ _ _ hr2 hr1 _ _ rfl rfl).mono ?_; rintro e w5 ⟨rfl, hb5⟩))
                go_roundw
                case rel => exact ⟨k + 1, by omega, by go_num, rfl, Hs2.out, by first | exact hbl | exact hbl.trans hb5⟩
                case measure => simp [intOf]; omega
              · have hcd : decide (0 ≤ cmpB q (x :: p)) = true := decide_eq_true (by omega)
                have Hb := Lib.hid (rightL_bad (l := (b, ps)) hlt (by rw [okAt_next hlt hk0, Hpe.out, hq, Hqe.out, decide_eq_false hcm]; rfl))
                go_wp2_with (first
                  | (go_at_call 20; refine (right_c _ _ _ _ _ hr1 _ rfl).mono ?_; rw [hq]; rintro e w' ⟨rfl, rfl⟩)
                  | (go_at_call 74; refine (bagCompareB_c _ _ _ _ _ _ _ _ _ hr2 hr1 _ _ rfl rfl).mono ?_; rintro e w5 ⟨rfl, hb5⟩))
                go_ret
                exact ⟨by rw [Hb.out]; rfl, by first | exact hB1.trans hbl | exact (hB1.trans hbl).trans hb5⟩
            · have Hs := Lib.hid (show okTo ps (k + 1) = true from by rw [okTo_succ, hp.out, okAt_first hlt hk0, Hpe.out, hq]; rfl)
              go_wp2_with (go_at_call 20; refine (right_c _ _ _ _ _ hr1 _ rfl).mono ?_; rw [hq]; rintro e w' ⟨rfl, rfl⟩)
              go_roundw
              case rel => exact ⟨k + 1, by omega, by go_num, rfl, Hs.out, hbl⟩
              case measure => simp [intOf]; omega
      · obtain rfl : k = ps.length := by omega
        have Hb := Lib.hid (rightL_yes (l := (b, ps)) HR.out hp.out)
        go_wp2
        go_ret
        exact ⟨by rw [Hb.out]; rfl, hB1.trans hbl⟩
set_option maxHeartbeats 4000000 in
theorem refRightLin_c (S S' : Nat → Prop) (A B : Option Addr) (ca cb : Nat) (b : List Int) (ps : List (List Int)) (w : World) (h0 : Rd intT w S A ca b) (h1 : Rd bagT w S' B cb ps) (n m : Nat) (hn : n = b.length) (hm : m = ps.length) :
    Calls Tryz.prog 86 #[.agg #[.slice A n ca, .slice B m cb]] w fun e w' => e = .returned (.bool (rightL (b, ps))) ∧ Bel w w' := by
  subst hn hm
  have lm := h1.lenMax
  cases hR : rightB b with
  | false =>
    have Hr := Lib.hid (rightL_no (l := (b, ps)) hR)
    go_enter Tryz.func86, Tryz.ntmps86
    go_wp2_with fail
    refine (refRight_c _ _ _ _ _ (h0.to ((Bel.refl _).alloc _)) _ rfl).mono ?_
    rintro e w' ⟨rfl, rfl⟩
    go_wp2_with fail
    go_ret
    exact ⟨by rw [Hr.out]; rfl, (Bel.refl _).alloc _⟩
  | true =>
    have HR := Lib.hid hR
    go_enter Tryz.func86, Tryz.ntmps86
    go_wp2_with fail
    refine (refRight_c _ _ _ _ _ (h0.to ((Bel.refl _).alloc _)) _ rfl).mono ?_
    rintro e w' ⟨rfl, rfl⟩
    go_wp2_with fail
    have hB1 : Bel w (w.alloc (.cells #[.slice A b.length ca, .slice B ps.length cb] 30)) := (Bel.refl _).alloc _
    have hC1 : (w.alloc (.cells #[.slice A b.length ca, .slice B ps.length cb] 30)).cell? ⟨w.heap.size, 1, none⟩ = some (.slice B ps.length cb) := cellAt (heap_alloc_new w _) 1
    have hS1 : w.heap.size < (w.alloc (.cells #[.slice A b.length ca, .slice B ps.length cb] 30)).heap.size := by simp
    clear hR h0
    generalize w.alloc (.cells #[.slice A b.length ca, .slice B ps.length cb] 30) = W1 at *
    generalize w.heap.size = g at *
    have h1 := h1.to hB1
    go_loopw [2, 12] (fun v2 v12 wr => ∃ k : Nat, k ≤ ps.length ∧ v12 = .int .i64 k ∧ v2 = .bool false ∧ Hid (okTo ps k = true) ∧ Bel W1 wr) (fun _ v12 _ => ps.length - (intOf v12).toNat)
    case atStart => exact ⟨0, Nat.zero_le _, rfl, rfl, rfl, Bel.refl _⟩
    case round =>
      obtain ⟨k, hk, rfl, rfl, hp, hbl⟩ := hrel
      have hC1 := cell_keep hC1 (hbl.block hS1)
      have h1 := h1.to hbl
      by_cases hlt : k < ps.length
      · obtain ⟨ad, P1, c1, rfl, hc1, hr1⟩ := h1.row hlt
        obtain ⟨p, hpe⟩ : ∃ p, ps[k] = p := ⟨_, rfl⟩
        rw [hpe] at hc1 hr1
        have lp := hr1.lenMax
        have Hpe := Lib.hid hpe
        clear hpe
        cases p with
        | nil =>
          have Hb := Lib.hid (rightL_bad (l := (b, ps)) hlt (by unfold okAt; rw [getDl_of hlt, Hpe.out]; rfl))
          go_wp2_with (go_at_call 44; refine (refRight_c _ _ _ _ _ hr1 _ rfl).mono ?_; rw [show rightB [] = true from rfl]; rintro e w' ⟨rfl, rfl⟩)
          go_ret
          exact ⟨by rw [Hb.out]; rfl, hB1.trans hbl⟩
        | cons x p =>
          cases hq : rightB (x :: p) with
          | false =>
            have Hb := Lib.hid (rightL_bad (l := (b, ps)) hlt (by unfold okAt; rw [getDl_of hlt, Hpe.out, hq]; rfl))
            go_wp2_with (go_at_call 44; refine (refRight_c _ _ _ _ _ hr1 _ rfl).mono ?_; rw [hq]; rintro e w' ⟨rfl, rfl⟩)
            go_ret
            exact ⟨by rw [Hb.out]; rfl, hB1.trans hbl⟩
          | true =>
            by_cases hk0 : 0 < k
            · obtain ⟨ad2, P2, c2, he2, hc2, hr2⟩ := h1.row (k := k - 1) (by omega)
              injection he2 with he2
              subst he2
              have hs := okTo_succ ps k
              rw [hp.out, okAt_next hlt hk0, Hpe.out, hq] at hs
              obtain ⟨q, hqe⟩ : ∃ q, ps[k - 1] = q := ⟨_, rfl⟩
              rw [hqe] at hc2 hr2 hs
              have Hs := Lib.hid hs
              have Hqe := Lib.hid hqe
              clear hs hqe
              by_cases hcm : cmpB q (x :: p) < 0
              · have hcd : decide (0 ≤ cmpB q (x :: p)) = false := decide_eq_false (by omega)
                have Hs2 := Lib.hid (show okTo ps (k + 1) = true from by rw [Hs.out, decide_eq_true hcm]; rfl)
                go_wp2_with (first
                  | (go_at_call 44; refine (refRight_c _ _ _ _ _ hr1 _ rfl).mono ?_; rw [hq]; rintro e w' ⟨rfl, rfl⟩)
                  | (go_at_call 110; refine (refCompare_c _ _ _ _ _ _ _ _ _ hr2 hr1 _ _ rfl rfl).mono ?_; rintro e w5 ⟨rfl, hb5⟩))
                go_roundw
                case rel => exact ⟨k + 1, by omega, by go_num, rfl, Hs2.out, by first | exact hbl | exact hbl.trans hb5⟩
                case measure => simp [intOf]; omega
              · have hcd : decide (0 ≤ cmpB q (x :: p)) = true := decide_eq_true (by omega)
                have Hb := Lib.hid (rightL_bad (l := (b, ps)) hlt (by rw [okAt_next hlt hk0, Hpe.out, hq, Hqe.out, decide_eq_false hcm]; rfl))
                go_wp2_with (first
                  | (go_at_call 44; refine (refRight_c _ _ _ _ _ hr1 _ rfl).mono ?_; rw [hq]; rintro e w' ⟨rfl, rfl⟩)
                  | (go_at_call 110; refine (refCompare_c _ _ _ _ _ _ _ _ _ hr2 hr1 _ _ rfl rfl).mono ?_; rintro e w5 ⟨rfl, hb5⟩))
                go_ret
                exact ⟨by rw [Hb.out]; rfl, by first | exact hB1.trans hbl | exact (hB1.trans hbl).trans hb5⟩
            · have Hs := Lib.hid (show okTo ps (k + 1) = true from by rw [okTo_succ, hp.out, okAt_first hlt hk0, Hpe.out, hq]; rfl)
              go_wp2_with (go_at_call 44; refine (refRight_c _ _ _ _ _ hr1 _ rfl).mono ?_; rw [hq]; rintro e w' ⟨rfl, rfl⟩)
              go_roundw
              case rel => exact ⟨k + 1, by omega, by go_num, rfl, Hs.out, hbl⟩
              case measure => simp [intOf]; omega
      · obtain rfl : k = ps.length := by omega
        have Hb := Lib.hid (rightL_yes (l := (b, ps)) HR.out hp.out)
        go_wp2
        go_ret
        exact ⟨by rw [Hb.out]; rfl, hB1.trans hbl⟩
end Go.Proofs.YtmdcgekiiopohaaGreat

/- Walks: linear sets alike; points; their order. -/
namespace Go.Proofs.YtmdcgekiiopohaaGreat
open Go.RowKit Go.Cb



set_option maxHeartbeats 2000000 in
theorem refPoint_c (S S' : Nat → Prop) (A B : Option Addr) (ca cb : Nat) (b : List Int) (ps : List (List Int)) (w : World) (h0 : Rd intT w S A ca b) (h1 : Rd bagT w S' B cb ps) (n m : Nat) (hn : n = b.length) (hm : m = ps.length) :
    Calls Tryz.prog 70 #[.agg #[.slice A n ca, .slice B m cb]] w fun e w' => e = .returned (.bool (rightL (b, ps) && ps.isEmpty)) ∧ Bel w w' := by
  subst hn hm
  have lm := h1.lenMax
  have hC1 : (w.alloc (.cells #[.slice A b.length ca, .slice B ps.length cb] 30)).cell? ⟨w.heap.size, 1, none⟩ = some (.slice B ps.length cb) := cellAt (heap_alloc_new w _) 1
  have hB1 : Bel w (w.alloc (.cells #[.slice A b.length ca, .slice B ps.length cb] 30)) := (Bel.refl _).alloc _
  have hS1 : w.heap.size < (w.alloc (.cells #[.slice A b.length ca, .slice B ps.length cb] 30)).heap.size := by simp
  have Q := refRightLin_c _ _ _ _ _ _ _ _ _ (h0.to hB1) (h1.to hB1) _ _ rfl rfl
  generalize rightL (b, ps) = r at *
  go_enter Tryz.func70, Tryz.ntmps70
  go_wp2_with fail
  clear h0 h1
  generalize w.alloc (.cells #[.slice A b.length ca, .slice B ps.length cb] 30) = W1 at *
  generalize w.heap.size = g at *
  refine Q.mono ?_
  rintro e w' ⟨rfl, hb⟩
  have hC2 := cell_keep hC1 (hb.block hS1)
  cases r
  · go_wp2_with fail
    go_ret
    exact ⟨by simp, hB1.trans hb⟩
  · cases ps
    · go_wp2_with fail
      go_ret
      exact ⟨by simp <;> omega, hB1.trans hb⟩
    · go_wp2_with fail
      go_ret
      exact ⟨by simp <;> omega, hB1.trans hb⟩

set_option maxHeartbeats 2000000 in
theorem orL_c (S : Nat → Prop) (A : Option Addr) (c : Nat) (l : List Int) (w : World) (h : Rd intT w S A c l) (n : Nat) (hn : n = l.length) :
    Calls Tryz.prog 75 #[.slice A n c] w fun e w' => e = .returned (.int .i64 (orL l)) ∧ w = w' := by
  subst hn
  have lm := h.lenMax
  go_enter Tryz.func75, Tryz.ntmps75
  go_wp2
  go_loop [8] (fun v => ∃ k : Nat, k ≤ l.length ∧ v = .int .i64 k ∧ Hid (orL l = orL (l.drop k))) (fun v => l.length - (intOf v).toNat)
  case atStart => exact ⟨0, Nat.zero_le _, rfl, rfl⟩
  case round =>
    obtain ⟨k, hk, rfl, hp⟩ := hrel
    by_cases hlt : k < l.length
    · obtain ⟨ad, rfl, hc⟩ := h.int hlt
      have Hs := Lib.hid (hp.out.trans (orL_at hlt))
      obtain ⟨x, hx⟩ : ∃ x, l[k] = x := ⟨_, rfl⟩
      rw [hx] at hc Hs
      clear hx
      by_cases h0 : x = 0
      · subst h0
        go_wp2
        go_round
        case rel => exact ⟨k + 1, by omega, by go_num, by have := Hs.out; rwa [if_pos rfl] at this⟩
        case measure => simp [intOf]; omega
      · have hn : (x != 0) = true := by simp [h0]
        have He := Lib.hid (show orL l = x from by rw [Hs.out, if_neg h0])
        clear h0
        go_wp2
        go_ret
        exact ⟨by rw [He.out]; rfl, rfl⟩
    · have He := Lib.hid (show orL l = 0 from by rw [hp.out, List.drop_eq_nil_of_le (by omega)]; rfl)
      go_wp2
      go_ret
      exact ⟨by rw [He.out]; rfl, rfl⟩

set_option maxHeartbeats 2000000 in
theorem compareBags_c (S S' : Nat → Prop) (A B : Option Addr) (ca cb : Nat) (a b : List (List Int)) (w : World) (ha : Rd bagT w S A ca a) (hb : Rd bagT w S' B cb b) (n m : Nat) (hn : n = a.length) (hm : m = b.length) :
    Calls Tryz.prog 77 #[.slice A n ca, .slice B m cb, .func (.func 74) #[] #[]] w fun e w' => e = .returned (.int .i64 (cmpBy cmpB a b)) ∧ w = w' := by
  subst hn hm
  have la := ha.lenMax
  have lb := hb.lenMax
  have hcf : ∀ args w, (callFunc 74 args).run Tryz.prog w = .ok (.enter 74 args) w := fun _ _ => by kernel_rfl
  go_enter Tryz.func77, Tryz.ntmps77
  go_wp2
  go_loop [13] (fun v => ∃ k : Nat, k ≤ a.length ∧ k ≤ b.length ∧ v = .int .i64 k ∧ Hid (agreeTo cmpB a b k)) (fun v => a.length - (intOf v).toNat)
  case atStart => exact ⟨0, Nat.zero_le _, Nat.zero_le _, rfl, agreeTo_zero _ _ _⟩
  case round =>
    obtain ⟨k, hka, hkb, rfl, hp⟩ := hrel
    by_cases h1 : k < a.length
    · obtain ⟨ad, P, cp, rfl, hpc, hpr⟩ := ha.row h1
      by_cases h2 : k < b.length
      · obtain ⟨bd, Q, cq, rfl, hqc, hqr⟩ := hb.row h2
        have Q2 := bagCompare_c _ _ _ _ _ _ _ _ _ hpr hqr _ _ rfl rfl
        by_cases he : cmpB a[k] b[k] = 0
        · have Hs := Lib.hid (agreeTo_snoc hp.out h1 h2 he)
          rw [he] at Q2
          clear he
          go_wp2_with (go_at_call 74; refine Q2.mono ?_; rintro e w' ⟨rfl, rfl⟩)
          go_round
          case rel => exact ⟨k + 1, by omega, by omega, by go_num, Hs.out⟩
          case measure => simp [intOf]; omega
        · have Hr := Lib.hid (cmpBy_at h1 h2 hp.out he)
          have hz : (cmpB a[k] b[k] == 0) = false := by rw [beq_eq_false_iff_ne]; exact he
          clear he
          go_wp2_with (go_at_call 74; refine Q2.mono ?_; rintro e w' ⟨rfl, rfl⟩)
          go_ret
          exact ⟨by rw [Hr.out]; rfl, rfl⟩
      · have Hr := Lib.hid (cmpBy_long (f := cmpB) (a := a) (b := b) (by omega) (agreeTo_le hp.out (by omega)))
        go_wp2
        go_ret
        exact ⟨by rw [Hr.out]; rfl, rfl⟩
    · by_cases h2 : k < b.length
      · have Hr := Lib.hid (cmpBy_short (f := cmpB) (a := a) (b := b) (by omega) (agreeTo_le hp.out (by omega)))
        go_wp2
        go_ret
        exact ⟨by rw [Hr.out]; rfl, rfl⟩
      · have Hr := Lib.hid (cmpBy_same (f := cmpB) (a := a) (b := b) (by omega) (agreeTo_le hp.out (by omega)))
        go_wp2
        go_ret
        exact ⟨by rw [Hr.out]; rfl, rfl⟩
set_option maxRecDepth 100000 in
set_option maxHeartbeats 4000000 in
theorem linCompare_c (S0 S1 S2 S3 : Nat → Prop) (A0 A1 B0 B1 : Option Addr) (c0 c1 d0 d1 : Nat) (x y : Lin) (w : World) (h0 : Rd intT w S0 A0 c0 x.1) (h1 : Rd bagT w S1 A1 c1 x.2) (g0 : Rd intT w S2 B0 d0 y.1) (g1 : Rd bagT w S3 B1 d1 y.2)
    (n0 n1 m0 m1 : Nat) (hn0 : n0 = x.1.length) (hn1 : n1 = x.2.length) (hm0 : m0 = y.1.length) (hm1 : m1 = y.2.length) :
    Calls Tryz.prog 49 #[.agg #[.slice A0 n0 c0, .slice A1 n1 c1], .agg #[.slice B0 m0 d0, .slice B1 m1 d1]] w fun e w' => e = .returned (.int .i64 (cmpLin x y)) ∧ Bel w w' := by
  obtain ⟨a, ps⟩ := x
  obtain ⟨b, qs⟩ := y
  dsimp only at *
  subst hn0 hn1 hm0 hm1
  have l1 := h1.lenMax
  have l2 := g1.lenMax
  obtain ⟨hB1, hX, hY, hsz⟩ := twoBoxes w #[.slice A0 a.length c0, .slice A1 ps.length c1] #[.slice B0 b.length d0, .slice B1 qs.length d1] 30
  have h0 := h0.to hB1
  have g0 := g0.to hB1
  have h1 := h1.to hB1
  have g1 := g1.to hB1
  have Q1 := linRight_c _ _ _ _ _ _ _ _ _ h0 h1 _ _ rfl rfl
  cases hA : rightL (a, ps) with
  | false =>
    have He := Lib.hid (cmpLin_no1 (y := (b, qs)) hA)
    rw [hA] at Q1
    clear hA
    go_enter Tryz.func49, Tryz.ntmps49
    go_wp2_with fail
    generalize (w.alloc (.cells #[.slice A0 a.length c0, .slice A1 ps.length c1] 30)).alloc (.cells #[.slice B0 b.length d0, .slice B1 qs.length d1] 30) = W1 at *
    generalize w.heap.size = g at *
    clear hX hY
    refine Q1.mono ?_
    rintro e w' ⟨rfl, hb⟩
    go_wp2_with fail
    go_ret
    exact ⟨by rw [He.out]; rfl, hB1.trans hb⟩
  | true =>
    rw [hA] at Q1
    cases hB : rightL (b, qs) with
    | false =>
      have He := Lib.hid (cmpLin_no2 (x := (a, ps)) hB)
      have HB := Lib.hid hB
      clear hA hB
      go_enter Tryz.func49, Tryz.ntmps49
      go_wp2_with fail
      generalize (w.alloc (.cells #[.slice A0 a.length c0, .slice A1 ps.length c1] 30)).alloc (.cells #[.slice B0 b.length d0, .slice B1 qs.length d1] 30) = W1 at *
      generalize w.heap.size = g at *
      have hY0 : W1.cell? ⟨g + 1, 0, none⟩ = some (.slice B0 b.length d0) := hY 0
      have hY1 : W1.cell? ⟨g + 1, 1, none⟩ = some (.slice B1 qs.length d1) := hY 1
      clear hX hY
      refine Q1.mono ?_
      rintro e w2 ⟨rfl, hb⟩
      have hY0 := cell_keep hY0 (hb.block (by simp only; omega))
      have hY1 := cell_keep hY1 (hb.block (by simp only; omega))
      have Q2 := linRight_c _ _ _ _ _ _ _ _ _ (g0.to hb) (g1.to hb) _ _ rfl rfl
      rw [HB.out] at Q2
      go_wp2_with fail
      refine Q2.mono ?_
      rintro e w3 ⟨rfl, hb3⟩
      go_wp2_with fail
      go_ret
      exact ⟨by rw [He.out]; rfl, (hB1.trans hb).trans hb3⟩
    | true =>
      have He := Lib.hid (cmpLin_yes hA hB)
      have HB := Lib.hid hB
      clear hA hB
      go_enter Tryz.func49, Tryz.ntmps49
      go_wp2_with fail
      generalize (w.alloc (.cells #[.slice A0 a.length c0, .slice A1 ps.length c1] 30)).alloc (.cells #[.slice B0 b.length d0, .slice B1 qs.length d1] 30) = W1 at *
      generalize w.heap.size = g at *
      have hX0 : W1.cell? ⟨g, 0, none⟩ = some (.slice A0 a.length c0) := hX 0
      have hX1 : W1.cell? ⟨g, 1, none⟩ = some (.slice A1 ps.length c1) := hX 1
      have hY0 : W1.cell? ⟨g + 1, 0, none⟩ = some (.slice B0 b.length d0) := hY 0
      have hY1 : W1.cell? ⟨g + 1, 1, none⟩ = some (.slice B1 qs.length d1) := hY 1
      clear hX hY
      refine Q1.mono ?_
      rintro e w2 ⟨rfl, hb⟩
      have hX0 := cell_keep hX0 (hb.block (by simp only; omega))
      have hX1 := cell_keep hX1 (hb.block (by simp only; omega))
      have hY0 := cell_keep hY0 (hb.block (by simp only; omega))
      have hY1 := cell_keep hY1 (hb.block (by simp only; omega))
      have Q2 := linRight_c _ _ _ _ _ _ _ _ _ (g0.to hb) (g1.to hb) _ _ rfl rfl
      rw [HB.out] at Q2
      go_wp2_with fail
      refine Q2.mono ?_
      rintro e w3 ⟨rfl, hb3⟩
      have hb13 := hb.trans hb3
      have hs2 := hb.size
      have hX0 := cell_keep hX0 (hb3.block (by simp only; omega))
      have hX1 := cell_keep hX1 (hb3.block (by simp only; omega))
      have hY0 := cell_keep hY0 (hb3.block (by simp only; omega))
      have hY1 := cell_keep hY1 (hb3.block (by simp only; omega))
      go_wp2_with fail
      refine wp_region_still_tail 17 (by kernel_rfl) (by kernel_rfl) ?_
      simp only [List.take_succ_cons, List.take_zero, List.drop_succ_cons, List.drop_zero]
      change wpStill _ _ w3.drew (fun a' => wpList _ _ _ _ a' w3.drew) _ _
      have hb4 : Bel W1 w3.drew := hb13.drew
      have hbw : Bel w3 w3.drew := (Bel.refl _).drew
      have hX0 := cell_keep hX0 (hbw.block (by have := hb3.size; simp only; omega))
      have hX1 := cell_keep hX1 (hbw.block (by have := hb3.size; simp only; omega))
      have hY0 := cell_keep hY0 (hbw.block (by have := hb3.size; simp only; omega))
      have hY1 := cell_keep hY1 (hbw.block (by have := hb3.size; simp only; omega))
      clear hbw
      generalize w3.drew = w4 at *
      have R1 := (bagCompare_c _ _ _ _ _ _ _ _ _ (h0.to hb4) (g0.to hb4) _ _ rfl rfl).mono fun _ _ (h : _ ∧ _) => (⟨h.1, h.2.symm⟩ : _ ∧ _)
      have R2 := (compareBags_c _ _ _ _ _ _ _ _ _ (h1.to hb4) (g1.to hb4) _ _ rfl rfl).mono fun _ _ (h : _ ∧ _) => (⟨h.1, h.2.symm⟩ : _ ∧ _)
      have R3 := (cmpCompare_c (ps.length : Int) (qs.length : Int) w4).mono fun _ _ (h : _ ∧ _) => (⟨h.1, h.2.symm⟩ : _ ∧ _)
      repeat (first | still_step | still_call R1 | still_call R2 | still_call R3)
      refine wpStill_nil ?_
      generalize hB4 : cmpB a b = z0 at *
      generalize cmpI (ps.length : Int) (qs.length : Int) = z1 at *
      generalize cmpBy cmpB ps qs = z2 at *
      clear hB4 R1 R2 R3 hX0 hX1 hY0 hY1
      go_wp2_with fail
      refine (orL_c _ _ _ [z0, z1, z2] _ (Rd.lit (enc := Value.int .i64) w4 3 [z0, z1, z2] (by simp [maxLen])) _ rfl).mono ?_
      rintro e w5 ⟨rfl, rfl⟩
      go_wp2_with fail
      go_ret
      exact ⟨by rw [He.out, or3_list]; rfl, hB1.trans (hb4.alloc _)⟩
end Go.Proofs.YtmdcgekiiopohaaGreat

/- Walks: the document's linear sets made. -/
namespace Go.Proofs.YtmdcgekiiopohaaGreat
open Go.RowKit Go.Cb
set_option maxHeartbeats 2000000 in
theorem zero_c (S : Nat → Prop) (A : Option Addr) (c : Nat) (l : List Int) (w : World) (h : Rd intT w S A c l) (n : Nat) (hn : n = l.length) :
    Calls Tryz.prog 91 #[.slice A n c] w fun e w' => e = .returned (.bool (zeroB l)) ∧ w = w' := by
  subst hn
  have lm := h.lenMax
  go_enter Tryz.func91, Tryz.ntmps91
  go_wp2
  go_loop [7] (fun v => ∃ k : Nat, k ≤ l.length ∧ v = .int .i64 k ∧ Hid (∀ x ∈ l.take k, (x == 0) = true)) (fun v => l.length - (intOf v).toNat)
  case atStart => exact ⟨0, Nat.zero_le _, rfl, by intro x hx; simp at hx⟩
  case round =>
    obtain ⟨k, hk, rfl, hp⟩ := hrel
    by_cases hlt : k < l.length
    · obtain ⟨ad, rfl, hc⟩ := h.int hlt
      cases hz : (l[k] == 0) with
      | true =>
        have Hs := Lib.hid (all_snoc hlt hp.out hz)
        have hz2 : (l[k] != 0) = false := by rw [bne, hz]; rfl
        go_wp2
        go_round
        case rel => exact ⟨k + 1, by omega, by go_num, Hs.out⟩
        case measure => simp [intOf]; omega
      | false =>
        have He := Lib.hid (show zeroB l = false from by
          unfold zeroB
          rw [← Bool.not_eq_true, List.all_eq_true]
          intro h2
          rw [h2 l[k] (List.getElem_mem hlt)] at hz
          cases hz)
        have hz2 : (l[k] != 0) = true := by rw [bne, hz]; rfl
        go_wp2
        go_ret
        exact ⟨by rw [He.out]; rfl, rfl⟩
    · have He := Lib.hid (show zeroB l = true from by
        unfold zeroB
        rw [List.all_eq_true]
        intro x hx
        exact hp.out x (by rwa [List.take_of_length_le (by omega)]))
      go_wp2
      go_ret
      exact ⟨by rw [He.out]; rfl, rfl⟩

theorem info_bag : (Tryz.prog.info? 27).map (fun i => (i.zero, i.size, i.bytes)) = some (some (.slice none 0 0), 1, 24) := by kernel_rfl
theorem putOwn {S : Nat → Prop} {w w1 : World} {v1 v2 : Value} {j : Nat} (h : w.heap.size ≤ w1.heap.size) (h1 : ∀ k, v1.ownBlock = some k → k < w1.heap.size) (h2 : v2.ownBlock = (Value.slice none 0 0).ownBlock ∨ v2.ownBlock = some w1.heap.size) (hj : False ∨ some j = v2.ownBlock) :
    (S j ∨ w.heap.size ≤ j) ∧ some j ≠ v1.ownBlock := by
  rcases hj with hj | hj
  · exact hj.elim
  · rcases h2 with h2 | h2
    · rw [h2] at hj
      exact absurd (show some j = none from hj) (by simp)
    · rw [h2] at hj
      injection hj with hj
      subst hj
      exact ⟨.inr h, fun e => by have := h1 _ e.symm; omega⟩
set_option maxRecDepth 100000 in
set_option maxHeartbeats 4000000 in
theorem put_c (S S' : Nat → Prop) (A B : Option Addr) (c cb : Nat) (ps : List (List Int)) (b : List Int) (w : World) (h : Rd bagT w S A c ps) (hb : Rd intT w S' B cb b) (n m : Nat) (hn : n = ps.length) (hm : m = b.length) (hl : ps.length ≤ 4294967296) (hl2 : b.length ≤ 4294967296) :
    Calls Tryz.prog 90 #[.slice A n c, .slice B m cb] w fun e w' => ∃ A' c', e = .returned (.slice A' (putB ps b).length c') ∧ Rd bagT w' (fun k => S k ∨ w.heap.size ≤ k) A' c' (putB ps b) ∧ Bel w w' := by
  subst hn hm
  have lm := h.lenMax
  go_enter Tryz.func90, Tryz.ntmps90
  go_wp2
  go_loopw [5] (fun v wr => ∃ (k : Nat) (W : World), W = wr ∧ k ≤ ps.length ∧ v = .int .i64 k ∧ Hid (allBelow ps b k) ∧ Dr w W) (fun v _ => ps.length - (intOf v).toNat)
  case atStart => exact ⟨0, _, rfl, Nat.zero_le _, rfl, allBelow_zero _ _, Dr.refl _⟩
  case round =>
    obtain ⟨k, W, rfl, hk, rfl, hp, hbl⟩ := hrel
    have h1 := h.to hbl.bel
    have hb1 := hb.to hbl.bel
    by_cases hlt : k < ps.length
    · obtain ⟨ad, P, cp, rfl, hpc, hpr⟩ := h1.row hlt
      obtain ⟨z, hz⟩ : ∃ z, cmpB ps[k] b = z := ⟨_, rfl⟩
      have Q : ∀ W', Dr W W' → Calls Tryz.prog 110 #[.slice P ps[k].length cp, .slice B b.length cb] W' fun e w' => e = .returned (.int .i64 z) ∧ Dr W' w' := fun W' hd => by
        have := refCompareQ_c _ _ _ _ _ _ _ _ _ (hpr.to hd.bel) (hb1.to hd.bel) _ _ rfl rfl
        rw [hz] at this
        exact this
      by_cases h0 : z < 0
      · have Hs := Lib.hid (allBelow_snoc hp.out hlt (hz ▸ h0))
        clear hz
        go_wp2_with (go_at_call 110; refine (Q _ (Dr.refl _)).mono ?_; rintro e w3 ⟨rfl, hd⟩)
        go_roundw
        case rel => exact ⟨k + 1, _, rfl, by omega, by go_num, Hs.out, hbl.trans hd⟩
        case measure => simp [intOf]; omega
      · by_cases h2 : z = 0
        · have He := Lib.hid (putB_same hlt hp.out (hz.trans h2))
          subst h2
          clear hz
          go_wp2_with fail
          refine (Q _ (Dr.refl _)).mono ?_
          rintro e w3 ⟨rfl, q, rfl⟩
          have hd : Dr W (W.drewN q) := ⟨q, rfl⟩
          have Q2 := Q _ hd
          go_wp2_with fail
          refine Q2.mono ?_
          rintro e w4 ⟨rfl, hd2⟩
          go_wp2_with fail
          go_ret
          exact ⟨_, _, by rw [He.out]; rfl, by rw [He.out]; exact (h1.to (hd.trans hd2).bel).mono (fun _ hj => .inl hj), (hbl.trans (hd.trans hd2)).bel⟩
        · have He := Lib.hid (putB_in hlt hp.out (by rw [hz]; omega))
          have hz1 : (z == 0) = false := by simpa using h2
          have hLw := h.bound
          have hcap := h.cap
          have hck : ¬ c = k := by omega
          have hD : Rd bagT w (fun j => S j ∧ j < w.heap.size) (some (ad.add k)) (c - k) (ps.drop k) := by
            have := hLw.drop k (by omega)
            rw [if_neg hck, show k * bagT.sz = k from Nat.mul_one k] at this
            exact this
          have hL := hLw.to hbl.bel
          clear hz
          go_wp2_with fail
          refine (Q _ (Dr.refl _)).mono ?_
          rintro e w3 ⟨rfl, q, rfl⟩
          have hd : Dr W (W.drewN q) := ⟨q, rfl⟩
          have Q2 := Q _ hd
          go_wp2_with fail
          refine Q2.mono ?_
          rintro e w4 ⟨rfl, hd2⟩
          replace hL := (hL.to hd.bel).to hd2.bel
          replace hb1 := (hb1.to hd.bel).to hd2.bel
          have hbw := (hbl.trans (hd.trans hd2)).bel
          clear Q Q2
          go_wp2_with (first
            | (at_builtin; refine wp_append bagT (w0 := w) 28 27 (.slice none 0 0) 24 rfl _ _ rfl Tryz.underlying28 info_bag rfl (fun j => S j ∨ w.heap.size ≤ j) (fun j => S j ∧ j < w.heap.size) (.slice none 0 0) [] (ps.take k) _ _ c rfl rfl (by simp; omega) (Own.nil _ _ _ _ _) (hL.take k) (bagT.rdNil (fun _ hj _ => .inl hj.1)) hbw (by simp [maxLen]; omega) (by simp; omega) ?_; rintro v1 w1 ho1 hb1 hg1 _; rw [List.nil_append] at ho1)
            | (at_builtin; refine wp_append intT (w0 := w) 27 3 (.int .i64 0) 8 rfl _ _ rfl Tryz.underlying27 info_int rfl (Ge w.heap.size) S' (.slice none 0 0) [] b _ _ cb rfl rfl rfl (Own.nil _ _ _ _ _) (hb.to hb1) (fun _ _ h => h) hb1 (by simp [maxLen]; omega) (by simp; omega) ?_; rintro v2 w2 ho2 hb2 hg2 hv2; rw [List.nil_append] at ho2; obtain ⟨A2, c2, rfl, hr2⟩ := (ho2.any (S' := fun _ => False)).rd)
            | (at_builtin; refine wp_append1 bagT (w0 := w) 28 27 (.slice none 0 0) 24 rfl _ _ rfl Tryz.underlying28 info_bag rfl (fun j => S j ∨ w.heap.size ≤ j) v1 (ps.take k) b [.slice A2 b.length c2] rfl rfl (ho1.to ((Bel.refl w1).grown hg2 (by intro k hk; cases hk))) ⟨A2, c2, rfl, hr2.mono (fun j hj => putOwn hb1.size (fun _ => ho1.lt) hv2 hj)⟩ hb2 (by simp [maxLen]; omega) (by simp; omega) ?_; rintro v3 w3 ho3 hb3 hg3 _)
            | (at_builtin; refine wp_append bagT (w0 := w) 28 27 (.slice none 0 0) 24 rfl _ _ rfl Tryz.underlying28 info_bag rfl (fun j => S j ∨ w.heap.size ≤ j) (fun j => S j ∧ j < w.heap.size) v3 (ps.take k ++ [b]) (ps.drop k) (some (ad.add k)) _ (c - k) rfl rfl (by simp) ho3 (hD.to hb3) (bagT.rdS (fun j hj _ => ⟨.inl hj.1, fun e => by have := ho3.ge e.symm; omega⟩)) hb3 (by simp [maxLen]; omega) (by simp; omega) ?_; rintro v4 w5 ho4 hb4 _ _; rw [← He.out] at ho4; obtain ⟨A4, c4, rfl, hr4⟩ := ho4.rd))
          go_ret
          exact ⟨_, _, rfl, hr4.mono (fun j hj => by
            rcases hj with hj | hj
            · exact hj
            · exact .inr (ho4.ge hj.symm)), hb4⟩
    · obtain rfl : k = ps.length := by omega
      have He := Lib.hid (putB_end hp.out)
      have hLw := h.bound
      have hL := hLw.to hbl.bel
      have hbw := hbl.bel
      have hcap := h.cap
      have hcm := h.capMax
      go_wp2_with (first
        | (at_builtin; refine wp_append bagT (w0 := w) 28 27 (.slice none 0 0) 24 rfl _ _ rfl Tryz.underlying28 info_bag rfl (fun j => S j ∨ w.heap.size ≤ j) (fun j => S j ∧ j < w.heap.size) (.slice none 0 0) [] (ps.take ps.length) _ _ c rfl rfl (by simp) (Own.nil _ _ _ _ _) (hL.take ps.length) (bagT.rdNil (fun _ hj _ => .inl hj.1)) hbw (by simp [maxLen] <;> omega) (by simp <;> omega) ?_; rintro v1 w1 ho1 hb1 hg1 _; rw [List.nil_append] at ho1)
        | (at_builtin; refine wp_append intT (w0 := w) 27 3 (.int .i64 0) 8 rfl _ _ rfl Tryz.underlying27 info_int rfl (Ge w.heap.size) S' (.slice none 0 0) [] b _ _ cb rfl rfl rfl (Own.nil _ _ _ _ _) (hb.to hb1) (fun _ _ h => h) hb1 (by simp [maxLen] <;> omega) (by simp <;> omega) ?_; rintro v2 w2 ho2 hb2 hg2 hv2; rw [List.nil_append] at ho2; obtain ⟨A2, c2, rfl, hr2⟩ := (ho2.any (S' := fun _ => False)).rd)
        | (at_builtin; refine wp_append1 bagT (w0 := w) 28 27 (.slice none 0 0) 24 rfl _ _ rfl Tryz.underlying28 info_bag rfl (fun j => S j ∨ w.heap.size ≤ j) v1 (ps.take ps.length) b [.slice A2 b.length c2] rfl rfl (ho1.to ((Bel.refl w1).grown hg2 (by intro k hk; cases hk))) ⟨A2, c2, rfl, hr2.mono (fun j hj => putOwn hb1.size (fun _ => ho1.lt) hv2 hj)⟩ hb2 (by simp [maxLen] <;> omega) (by simp <;> omega) ?_; rintro v3 w3 ho3 hb3 hg3 _)
        | (at_builtin; refine wp_append bagT (w0 := w) 28 27 (.slice none 0 0) 24 rfl _ _ rfl Tryz.underlying28 info_bag rfl (fun j => S j ∨ w.heap.size ≤ j) (fun j => S j ∧ j < w.heap.size) v3 (ps.take ps.length ++ [b]) (ps.drop ps.length) _ _ _ rfl rfl (by simp) ho3 (Rd.drop_nil bagT w3 _ _ _ _ (by omega)) (bagT.rdS (fun j hj _ => ⟨.inl hj.1, fun e => by have := ho3.ge e.symm; omega⟩)) hb3 (by simp [maxLen] <;> omega) (by simp <;> omega) ?_; rintro v4 w5 ho4 hb4 _ _; rw [← He.out] at ho4; obtain ⟨A4, c4, rfl, hr4⟩ := ho4.rd))
      all_goals
        go_ret
        exact ⟨_, _, rfl, hr4.mono (fun j hj => by
          rcases hj with hj | hj
          · exact hj
          · exact .inr (ho4.ge hj.symm)), hb4⟩

set_option maxRecDepth 100000 in
set_option maxHeartbeats 4000000 in
theorem refOfLin_bad (S S' : Nat → Prop) (A B : Option Addr) (ca cb : Nat) (base : List Int) (ps : List (List Int)) (w : World) (h0 : Rd intT w S A ca base) (h1 : Rd bagT w S' B cb ps) (n m : Nat) (hn : n = base.length) (hm : m = ps.length)
    (hl : base.length ≤ 4294967296) (hl2 : ps.length ≤ 4294967296) (hl3 : ∀ p ∈ ps, p.length ≤ 4294967296) (hbad : badB base = true) :
    Calls Tryz.prog 71 #[.slice A n ca, .slice B m cb] w fun e w' => ∃ A0 c0 A1 c1, e = .returned (.tuple #[.agg #[.slice A0 (ofLin base ps).1.1.length c0, .slice A1 (ofLin base ps).1.2.length c1], .bool (ofLin base ps).2]) ∧ Rd intT w' (Ge w.heap.size) A0 c0 (ofLin base ps).1.1 ∧ Rd bagT w' (Ge w.heap.size) A1 c1 (ofLin base ps).1.2 ∧ Bel w w' := by
  subst hn hm
  have lm := h1.lenMax
  have lb := h0.lenMax
  have He := Lib.hid (ofLin_no (ps := ps) hbad)
  unfold badB at hbad
  simp only [Bool.and_eq_true, Bool.not_eq_true', List.isEmpty_iff] at hbad
  obtain ⟨hb1, hb2⟩ := hbad
  have Hb1 := Lib.hid hb1
  have Hb2 := Lib.hid hb2
  clear hb1 hb2
  go_enter Tryz.func71, Tryz.ntmps71
  go_wp2_with fail
  have B0 := Box.new w 30 (.slice none 0 0) (.slice none 0 0)
  have hb0 : Bel w (w.alloc (.cells #[.slice none 0 0, .slice none 0 0] 30)) := (Bel.refl _).alloc _
  generalize w.alloc (.cells #[.slice none 0 0, .slice none 0 0] 30) = W0 at *
  refine (refNorm_c _ _ _ _ _ (h0.to hb0) _ rfl (by omega)).mono ?_
  rw [Hb1.out]
  rintro e w2 ⟨v2, rfl, ho2, hb2⟩
  obtain ⟨A2, c2, rfl, hr2⟩ := ho2.rd
  have B1 := (B0.to hb2).to ((Bel.refl w2).alloc (.cells #[.slice A2 ([] : List Int).length c2, .slice none 0 0] 30))
  have hb3 : Bel w (w2.alloc (.cells #[.slice A2 ([] : List Int).length c2, .slice none 0 0] 30)) := (hb0.trans hb2).alloc _
  go_wp2_with fail
  refine (zero_c _ _ _ _ _ (h0.to hb3) _ rfl).mono ?_
  rw [Hb2.out]
  rintro e w4 ⟨rfl, rfl⟩
  generalize w2.alloc (.cells #[.slice A2 ([] : List Int).length c2, .slice none 0 0] 30) = W3 at *
  obtain ⟨x0, x1, f0, f1⟩ := B1.cells
  obtain ⟨y0, y1, g0, g1⟩ := (B1.set0 (.slice none 0 0)).cells
  go_wp2_with fail
  (try simp only [Exit.inBlock, Exit.then])
  refine bodyPost_ret (v := .tuple #[.agg #[.slice none 0 0, .slice none 0 0], .bool false]) ?_ rfl ?_
  · rw [results_cell_tmp rfl]
    go_simp
  · rw [He.out]
    exact ⟨none, 0, none, 0, rfl, Rd.nil _ _ _ _ _ (by simp [maxLen]), Rd.nil _ _ _ _ _ (by simp [maxLen]), (hb3.set (Nat.le_refl _) _).set (Nat.le_refl _) _⟩
set_option maxRecDepth 100000 in
set_option maxHeartbeats 8000000 in
theorem refOfLin_nil (S S' : Nat → Prop) (A B : Option Addr) (ca cb : Nat) (base : List Int) (ps : List (List Int)) (w : World) (h0 : Rd intT w S A ca base) (h1 : Rd bagT w S' B cb ps) (n m : Nat) (hn : n = base.length) (hm : m = ps.length)
    (hl : base.length ≤ 4294967296) (hl2 : ps.length ≤ 4294967296) (hl3 : ∀ p ∈ ps, p.length ≤ 4294967296) (hbad : badB base = false) (hnb : normB base = []) :
    Calls Tryz.prog 71 #[.slice A n ca, .slice B m cb] w fun e w' => ∃ A0 c0 A1 c1, e = .returned (.tuple #[.agg #[.slice A0 (ofLin base ps).1.1.length c0, .slice A1 (ofLin base ps).1.2.length c1], .bool (ofLin base ps).2]) ∧ Rd intT w' (Ge w.heap.size) A0 c0 (ofLin base ps).1.1 ∧ Rd bagT w' (Ge w.heap.size) A1 c1 (ofLin base ps).1.2 ∧ Bel w w' := by
  subst hn hm
  have lm := h1.lenMax
  have lb := h0.lenMax
  have Hbad := Lib.hid hbad
  have Hb1 := Lib.hid hnb
  have Hb2 : normB base = [] → zeroB base = true := fun e => by
    have := hbad
    unfold badB at this
    rw [e] at this
    simpa using this
  have Hl3 := Lib.hid hl3
  clear hbad hnb hl3
  go_enter Tryz.func71, Tryz.ntmps71
  go_wp2_with fail
  have B0 := Box.new w 30 (.slice none 0 0) (.slice none 0 0)
  have hb0 : Bel w (w.alloc (.cells #[.slice none 0 0, .slice none 0 0] 30)) := (Bel.refl _).alloc _
  have hs0 : (w.alloc (.cells #[.slice none 0 0, .slice none 0 0] 30)).heap.size = w.heap.size + 1 := by simp
  generalize w.alloc (.cells #[.slice none 0 0, .slice none 0 0] 30) = W0 at *
  refine (refNorm_c _ _ _ _ _ (h0.to hb0) _ rfl (by omega)).mono ?_
  rw [Hb1.out]
  rintro e w2 ⟨v2, rfl, ho2, hb2⟩
  obtain ⟨A2, c2, rfl, hr2⟩ := ho2.rdOne
  have B1 := (B0.to hb2).to ((Bel.refl w2).alloc (.cells #[.slice A2 ([] : List Int).length c2, .slice none 0 0] 30))
  have L1 := Box.new w2 30 (.slice A2 ([] : List Int).length c2) (.slice none 0 0)
  have hr2 := hr2.to ((Bel.refl w2).alloc (.cells #[.slice A2 ([] : List Int).length c2, .slice none 0 0] 30))
  have hb3 : Bel w (w2.alloc (.cells #[.slice A2 ([] : List Int).length c2, .slice none 0 0] 30)) := (hb0.trans hb2).alloc _
  have hsz := (hb0.trans hb2).size
  have hsz2 := hb2.size
  have Z := Hb2 Hb1.out
  have HZ := Lib.hid Z
  clear Z Hb2
  go_wp2_with fail
  refine (zero_c _ _ _ _ _ (h0.to hb3) _ rfl).mono ?_
  rw [HZ.out]
  rintro e w4 ⟨rfl, rfl⟩
  generalize w2.alloc (.cells #[.slice A2 ([] : List Int).length c2, .slice none 0 0] 30) = W3 at *
  obtain ⟨x0, x1, f0, f1⟩ := L1.cells
  go_wp2_with fail
  have LL : w2.heap.size < W3.heap.size := L1.lt
  clear x0 x1 f0 f1
  replace hr2 : Rd intT W3 (fun k => w.heap.size ≤ k ∧ k ≠ w2.heap.size ∧ k ≠ w.heap.size) A2 c2 [] := hr2.mono (fun k hk => ⟨by omega, by omega, by omega⟩)
  have hLR : w2.heap.size ≠ w.heap.size := by omega
  have hLw : w.heap.size ≤ w2.heap.size := hsz
  generalize w2.heap.size = L at *
  clear ho2 hb2 hb0 hs0
  go_loopw [25] (fun v wr => ∃ (k : Nat) (W : World) (acc : List (List Int)) (AP : Option Addr) (cP : Nat), W = wr ∧ k ≤ ps.length ∧ v = .int .i64 k ∧ Hid (ofF [] ps = ofF acc (ps.drop k)) ∧ acc.length ≤ k ∧
      Box W 30 w.heap.size (.slice none 0 0) (.slice none 0 0) ∧ Box W 30 L (.slice A2 ([] : List Int).length c2) (.slice AP acc.length cP) ∧
      Rd intT W (fun k => w.heap.size ≤ k ∧ k ≠ L ∧ k ≠ w.heap.size) A2 c2 [] ∧ Rd bagT W (fun k => w.heap.size ≤ k ∧ k ≠ L ∧ k ≠ w.heap.size) AP cP acc ∧ Bel w W) (fun v _ => ps.length - (intOf v).toNat)
  case atStart => exact ⟨0, _, [], none, 0, rfl, Nat.zero_le _, rfl, rfl, Nat.zero_le _, B1, L1, hr2, Rd.nil _ _ _ _ _ (by simp [maxLen]), hb3⟩
  case round =>
    clear B1 L1 hr2 hb3 LL
    obtain ⟨k, W, acc, AP, cP, rfl, hk, rfl, hp, hacc, B1, L1, hr2, hrP, hb3⟩ := hrel
    by_cases hlt : k < ps.length
    · obtain ⟨ad, P, cp, rfl, hpc, hpr⟩ := (h1.to hb3).row hlt
      have hl3 := Hl3.out ps[k] (List.getElem_mem hlt)
      have hs := hp.out.trans (ofF_at acc hlt)
      obtain ⟨p, hpe⟩ : ∃ p, ps[k] = p := ⟨_, rfl⟩
      rw [hpe] at hpc hpr hl3 hs
      clear hpe
      have lp := hpr.lenMax
      have Hs := Lib.hid hs
      clear hs
      cases hbp : badB p with
      | true =>
        rw [hbp] at Hs
        have He := Lib.hid (ofLin_no2 (ps := ps) Hbad.out (Hs.out.trans (if_pos rfl)))
        unfold badB at hbp
        simp only [Bool.and_eq_true, Bool.not_eq_true', List.isEmpty_iff] at hbp
        have Hq1 := Lib.hid hbp.1
        have Hq2 := Lib.hid hbp.2
        clear hbp
        go_wp2_with fail
        refine (refNorm_c _ _ _ _ _ hpr _ rfl (by omega)).mono ?_
        rw [Hq1.out]
        rintro e w5 ⟨v5, rfl, ho5, hb5⟩
        obtain ⟨A5, c5, rfl, hr5⟩ := ho5.rdOne
        have B2 := B1.to hb5
        go_wp2_with fail
        refine (zero_c _ _ _ _ _ (hpr.to hb5) _ rfl).mono ?_
        rw [Hq2.out]
        rintro e w6 ⟨rfl, rfl⟩
        obtain ⟨x0, x1, f0, f1⟩ := B2.cells
        obtain ⟨y0, y1, g0, g1⟩ := (B2.set0 (.slice none 0 0)).cells
        go_wp2_with fail
        (try simp only [Exit.inBlock, Exit.then])
        refine bodyPost_ret (v := .tuple #[.agg #[.slice none 0 0, .slice none 0 0], .bool false]) ?_ rfl ?_
        · rw [results_cell_tmp rfl]
          go_simp
        · rw [He.out]
          exact ⟨none, 0, none, 0, rfl, Rd.nil _ _ _ _ _ (by simp [maxLen]), Rd.nil _ _ _ _ _ (by simp [maxLen]), ((hb3.trans hb5).set (Nat.le_refl _) _).set (Nat.le_refl _) _⟩
      | false =>
        rw [hbp] at Hs
        have Hz : normB p = [] → zeroB p = true := fun e => by
          unfold badB at hbp
          rw [e] at hbp
          simpa using hbp
        have Hs2 := Lib.hid (Hs.out.trans (if_neg (by simp)))
        clear Hs hbp
        obtain ⟨q, hq⟩ : ∃ q, normB p = q := ⟨_, rfl⟩
        have lq := normB_len p
        rw [hq] at Hs2 Hz lq
        have Hq := Lib.hid hq
        clear hq
        cases q with
        | nil =>
          have Hz2 := Lib.hid (Hz rfl)
          have Hs3 := Lib.hid (show ofF [] ps = ofF acc (ps.drop (k + 1)) from Hs2.out)
          clear Hz lq Hs2
          go_wp2_with fail
          refine (refNorm_c _ _ _ _ _ hpr _ rfl (by omega)).mono ?_
          rw [Hq.out]
          rintro e w5 ⟨v5, rfl, ho5, hb5⟩
          obtain ⟨A5, c5, rfl, hr5⟩ := ho5.rdOne
          go_wp2_with fail
          refine (zero_c _ _ _ _ _ (hpr.to hb5) _ rfl).mono ?_
          rw [Hz2.out]
          rintro e w6 ⟨rfl, rfl⟩
          go_wp2_with fail
          go_roundw
          case rel => exact ⟨k + 1, _, acc, AP, cP, rfl, by omega, by go_num, Hs3.out, by omega, B1.to hb5, L1.to hb5, hr2.to hb5, hrP.to hb5, hb3.trans hb5⟩
          case measure => simp [intOf]; omega
        | cons y q =>
          have Hs3 := Lib.hid (show ofF [] ps = ofF (putB acc (y :: q)) (ps.drop (k + 1)) from Hs2.out)
          clear Hz Hs2
          have lq2 : q.length ≤ 11 := by simpa using lq
          go_wp2_with fail
          refine (refNorm_c _ _ _ _ _ hpr _ rfl (by omega)).mono ?_
          rw [Hq.out]
          rintro e w5 ⟨v5, rfl, ho5, hb5⟩
          obtain ⟨A5, c5, rfl, hr5⟩ := ho5.rdOne
          have L2 := L1.to hb5
          obtain ⟨x0, x1, f0, f1⟩ := L2.cells
          go_wp2_with fail
          refine (put_c _ _ _ _ _ _ acc (y :: q) _ (hrP.to hb5) hr5 _ _ rfl rfl (by omega) (by omega)).mono ?_
          rintro e w6 ⟨A6, c6, rfl, hr6, hb6⟩
          have L3 := L2.to hb6
          have l5 := L2.lt
          obtain ⟨x0, x1, f0, f1⟩ := L3.cells
          have lpl := putB_length acc (y :: q)
          have hu := Upd.one w6 L 1 (.slice A6 (putB acc (y :: q)).length c6)
          go_wp2_with fail
          go_roundw
          case rel => exact ⟨k + 1, _, putB acc (y :: q), A6, c6, rfl, by omega, by go_num, Hs3.out, by omega, ((B1.to hb5).to hb6).other hu (Ne.symm hLR), L3.set1 _, ((hr2.to hb5).to hb6).upd hu (fun h => h.2.1 rfl),
              (hr6.mono (fun j hj => by have := (hb3.trans hb5).size; omega)).upd hu (fun h => h.2.1 rfl), ((hb3.trans hb5).trans hb6).upd hu hLw⟩
          case measure => simp [intOf]; omega
    · have Hs := Lib.hid (show ofF [] ps = some acc from by rw [hp.out, List.drop_eq_nil_of_le (by omega)]; rfl)
      have He := Lib.hid (ofLin_yes Hbad.out Hs.out)
      obtain ⟨x0, x1, f0, f1⟩ := B1.cells
      obtain ⟨y0, y1, g0, g1⟩ := L1.cells
      obtain ⟨z0, z1, k0, k1⟩ := (B1.set0 (.slice A2 ([] : List Int).length c2)).cells
      have hu := (Upd.one W w.heap.size 0 (.slice A2 ([] : List Int).length c2)).set (p := ⟨w.heap.size, 1, none⟩) rfl (.slice AP acc.length cP)
      obtain ⟨t0, t1, m0, m1⟩ := ((B1.set0 (.slice A2 ([] : List Int).length c2)).set1 (.slice AP acc.length cP)).cells
      go_wp2_with fail
      (try simp only [Exit.inBlock, Exit.then])
      refine bodyPost_ret (v := .tuple #[.agg #[.slice A2 ([] : List Int).length c2, .slice AP acc.length cP], .bool true]) ?_ rfl ?_
      · rw [results_cell_tmp rfl]
        go_simp
      · rw [He.out, Hb1.out]
        exact ⟨_, _, _, _, rfl, (hr2.upd hu (fun h => h.2.2 rfl)).mono (fun _ h => h.1), (hrP.upd hu (fun h => h.2.2 rfl)).mono (fun _ h => h.1), hb3.upd hu (Nat.le_refl _)⟩
set_option maxRecDepth 100000 in
set_option maxHeartbeats 8000000 in
theorem refOfLin_cons (S S' : Nat → Prop) (A B : Option Addr) (ca cb : Nat) (base : List Int) (ps : List (List Int)) (w : World) (h0 : Rd intT w S A ca base) (h1 : Rd bagT w S' B cb ps) (n m : Nat) (hn : n = base.length) (hm : m = ps.length)
    (hl : base.length ≤ 4294967296) (hl2 : ps.length ≤ 4294967296) (hl3 : ∀ p ∈ ps, p.length ≤ 4294967296) (hbad : badB base = false)(x : Int) (nb : List Int) (hnb : normB base = (x :: nb)) :
    Calls Tryz.prog 71 #[.slice A n ca, .slice B m cb] w fun e w' => ∃ A0 c0 A1 c1, e = .returned (.tuple #[.agg #[.slice A0 (ofLin base ps).1.1.length c0, .slice A1 (ofLin base ps).1.2.length c1], .bool (ofLin base ps).2]) ∧ Rd intT w' (Ge w.heap.size) A0 c0 (ofLin base ps).1.1 ∧ Rd bagT w' (Ge w.heap.size) A1 c1 (ofLin base ps).1.2 ∧ Bel w w' := by
  subst hn hm
  have lm := h1.lenMax
  have lb := h0.lenMax
  have Hbad := Lib.hid hbad
  have Hb1 := Lib.hid hnb
  have Hb2 : normB base = [] → zeroB base = true := fun e => by
    have := hbad
    unfold badB at this
    rw [e] at this
    simpa using this
  have Hl3 := Lib.hid hl3
  clear hbad hnb hl3
  go_enter Tryz.func71, Tryz.ntmps71
  go_wp2_with fail
  have B0 := Box.new w 30 (.slice none 0 0) (.slice none 0 0)
  have hb0 : Bel w (w.alloc (.cells #[.slice none 0 0, .slice none 0 0] 30)) := (Bel.refl _).alloc _
  have hs0 : (w.alloc (.cells #[.slice none 0 0, .slice none 0 0] 30)).heap.size = w.heap.size + 1 := by simp
  generalize w.alloc (.cells #[.slice none 0 0, .slice none 0 0] 30) = W0 at *
  refine (refNorm_c _ _ _ _ _ (h0.to hb0) _ rfl (by omega)).mono ?_
  rw [Hb1.out]
  rintro e w2 ⟨v2, rfl, ho2, hb2⟩
  obtain ⟨A2, c2, rfl, hr2⟩ := ho2.rdOne
  have B1 := (B0.to hb2).to ((Bel.refl w2).alloc (.cells #[.slice A2 ((x :: nb) : List Int).length c2, .slice none 0 0] 30))
  have L1 := Box.new w2 30 (.slice A2 ((x :: nb) : List Int).length c2) (.slice none 0 0)
  have hr2 := hr2.to ((Bel.refl w2).alloc (.cells #[.slice A2 ((x :: nb) : List Int).length c2, .slice none 0 0] 30))
  have hb3 : Bel w (w2.alloc (.cells #[.slice A2 ((x :: nb) : List Int).length c2, .slice none 0 0] 30)) := (hb0.trans hb2).alloc _
  have hsz := (hb0.trans hb2).size
  have hsz2 := hb2.size
  have lnb : (x :: nb).length ≤ 12 := by have := normB_len base; rwa [Hb1.out] at this
  have lnb2 : nb.length ≤ 11 := by simpa using lnb
  clear Hb2 lnb
  go_wp2_with fail
  generalize w2.alloc (.cells #[.slice A2 ((x :: nb) : List Int).length c2, .slice none 0 0] 30) = W3 at *
  obtain ⟨x0, x1, f0, f1⟩ := L1.cells
  go_wp2_with fail
  have LL : w2.heap.size < W3.heap.size := L1.lt
  clear x0 x1 f0 f1
  replace hr2 : Rd intT W3 (fun k => w.heap.size ≤ k ∧ k ≠ w2.heap.size ∧ k ≠ w.heap.size) A2 c2 (x :: nb) := hr2.mono (fun k hk => ⟨by omega, by omega, by omega⟩)
  have hLR : w2.heap.size ≠ w.heap.size := by omega
  have hLw : w.heap.size ≤ w2.heap.size := hsz
  generalize w2.heap.size = L at *
  clear ho2 hb2 hb0 hs0
  go_loopw [25] (fun v wr => ∃ (k : Nat) (W : World) (acc : List (List Int)) (AP : Option Addr) (cP : Nat), W = wr ∧ k ≤ ps.length ∧ v = .int .i64 k ∧ Hid (ofF [] ps = ofF acc (ps.drop k)) ∧ acc.length ≤ k ∧
      Box W 30 w.heap.size (.slice none 0 0) (.slice none 0 0) ∧ Box W 30 L (.slice A2 ((x :: nb) : List Int).length c2) (.slice AP acc.length cP) ∧
      Rd intT W (fun k => w.heap.size ≤ k ∧ k ≠ L ∧ k ≠ w.heap.size) A2 c2 (x :: nb) ∧ Rd bagT W (fun k => w.heap.size ≤ k ∧ k ≠ L ∧ k ≠ w.heap.size) AP cP acc ∧ Bel w W) (fun v _ => ps.length - (intOf v).toNat)
  case atStart => exact ⟨0, _, [], none, 0, rfl, Nat.zero_le _, rfl, rfl, Nat.zero_le _, B1, L1, hr2, Rd.nil _ _ _ _ _ (by simp [maxLen]), hb3⟩
  case round =>
    clear B1 L1 hr2 hb3 LL
    obtain ⟨k, W, acc, AP, cP, rfl, hk, rfl, hp, hacc, B1, L1, hr2, hrP, hb3⟩ := hrel
    by_cases hlt : k < ps.length
    · obtain ⟨ad, P, cp, rfl, hpc, hpr⟩ := (h1.to hb3).row hlt
      have hl3 := Hl3.out ps[k] (List.getElem_mem hlt)
      have hs := hp.out.trans (ofF_at acc hlt)
      obtain ⟨p, hpe⟩ : ∃ p, ps[k] = p := ⟨_, rfl⟩
      rw [hpe] at hpc hpr hl3 hs
      clear hpe
      have lp := hpr.lenMax
      have Hs := Lib.hid hs
      clear hs
      cases hbp : badB p with
      | true =>
        rw [hbp] at Hs
        have He := Lib.hid (ofLin_no2 (ps := ps) Hbad.out (Hs.out.trans (if_pos rfl)))
        unfold badB at hbp
        simp only [Bool.and_eq_true, Bool.not_eq_true', List.isEmpty_iff] at hbp
        have Hq1 := Lib.hid hbp.1
        have Hq2 := Lib.hid hbp.2
        clear hbp
        go_wp2_with fail
        refine (refNorm_c _ _ _ _ _ hpr _ rfl (by omega)).mono ?_
        rw [Hq1.out]
        rintro e w5 ⟨v5, rfl, ho5, hb5⟩
        obtain ⟨A5, c5, rfl, hr5⟩ := ho5.rdOne
        have B2 := B1.to hb5
        go_wp2_with fail
        refine (zero_c _ _ _ _ _ (hpr.to hb5) _ rfl).mono ?_
        rw [Hq2.out]
        rintro e w6 ⟨rfl, rfl⟩
        obtain ⟨x0, x1, f0, f1⟩ := B2.cells
        obtain ⟨y0, y1, g0, g1⟩ := (B2.set0 (.slice none 0 0)).cells
        go_wp2_with fail
        (try simp only [Exit.inBlock, Exit.then])
        refine bodyPost_ret (v := .tuple #[.agg #[.slice none 0 0, .slice none 0 0], .bool false]) ?_ rfl ?_
        · rw [results_cell_tmp rfl]
          go_simp
        · rw [He.out]
          exact ⟨none, 0, none, 0, rfl, Rd.nil _ _ _ _ _ (by simp [maxLen]), Rd.nil _ _ _ _ _ (by simp [maxLen]), ((hb3.trans hb5).set (Nat.le_refl _) _).set (Nat.le_refl _) _⟩
      | false =>
        rw [hbp] at Hs
        have Hz : normB p = [] → zeroB p = true := fun e => by
          unfold badB at hbp
          rw [e] at hbp
          simpa using hbp
        have Hs2 := Lib.hid (Hs.out.trans (if_neg (by simp)))
        clear Hs hbp
        obtain ⟨q, hq⟩ : ∃ q, normB p = q := ⟨_, rfl⟩
        have lq := normB_len p
        rw [hq] at Hs2 Hz lq
        have Hq := Lib.hid hq
        clear hq
        cases q with
        | nil =>
          have Hz2 := Lib.hid (Hz rfl)
          have Hs3 := Lib.hid (show ofF [] ps = ofF acc (ps.drop (k + 1)) from Hs2.out)
          clear Hz lq Hs2
          go_wp2_with fail
          refine (refNorm_c _ _ _ _ _ hpr _ rfl (by omega)).mono ?_
          rw [Hq.out]
          rintro e w5 ⟨v5, rfl, ho5, hb5⟩
          obtain ⟨A5, c5, rfl, hr5⟩ := ho5.rdOne
          go_wp2_with fail
          refine (zero_c _ _ _ _ _ (hpr.to hb5) _ rfl).mono ?_
          rw [Hz2.out]
          rintro e w6 ⟨rfl, rfl⟩
          go_wp2_with fail
          go_roundw
          case rel => exact ⟨k + 1, _, acc, AP, cP, rfl, by omega, by go_num, Hs3.out, by omega, B1.to hb5, L1.to hb5, hr2.to hb5, hrP.to hb5, hb3.trans hb5⟩
          case measure => simp [intOf]; omega
        | cons y q =>
          have Hs3 := Lib.hid (show ofF [] ps = ofF (putB acc (y :: q)) (ps.drop (k + 1)) from Hs2.out)
          clear Hz Hs2
          have lq2 : q.length ≤ 11 := by simpa using lq
          go_wp2_with fail
          refine (refNorm_c _ _ _ _ _ hpr _ rfl (by omega)).mono ?_
          rw [Hq.out]
          rintro e w5 ⟨v5, rfl, ho5, hb5⟩
          obtain ⟨A5, c5, rfl, hr5⟩ := ho5.rdOne
          have L2 := L1.to hb5
          obtain ⟨x0, x1, f0, f1⟩ := L2.cells
          go_wp2_with fail
          refine (put_c _ _ _ _ _ _ acc (y :: q) _ (hrP.to hb5) hr5 _ _ rfl rfl (by omega) (by omega)).mono ?_
          rintro e w6 ⟨A6, c6, rfl, hr6, hb6⟩
          have L3 := L2.to hb6
          have l5 := L2.lt
          obtain ⟨x0, x1, f0, f1⟩ := L3.cells
          have lpl := putB_length acc (y :: q)
          have hu := Upd.one w6 L 1 (.slice A6 (putB acc (y :: q)).length c6)
          go_wp2_with fail
          go_roundw
          case rel => exact ⟨k + 1, _, putB acc (y :: q), A6, c6, rfl, by omega, by go_num, Hs3.out, by omega, ((B1.to hb5).to hb6).other hu (Ne.symm hLR), L3.set1 _, ((hr2.to hb5).to hb6).upd hu (fun h => h.2.1 rfl),
              (hr6.mono (fun j hj => by have := (hb3.trans hb5).size; omega)).upd hu (fun h => h.2.1 rfl), ((hb3.trans hb5).trans hb6).upd hu hLw⟩
          case measure => simp [intOf]; omega
    · have Hs := Lib.hid (show ofF [] ps = some acc from by rw [hp.out, List.drop_eq_nil_of_le (by omega)]; rfl)
      have He := Lib.hid (ofLin_yes Hbad.out Hs.out)
      obtain ⟨x0, x1, f0, f1⟩ := B1.cells
      obtain ⟨y0, y1, g0, g1⟩ := L1.cells
      obtain ⟨z0, z1, k0, k1⟩ := (B1.set0 (.slice A2 ((x :: nb) : List Int).length c2)).cells
      have hu := (Upd.one W w.heap.size 0 (.slice A2 ((x :: nb) : List Int).length c2)).set (p := ⟨w.heap.size, 1, none⟩) rfl (.slice AP acc.length cP)
      obtain ⟨t0, t1, m0, m1⟩ := ((B1.set0 (.slice A2 ((x :: nb) : List Int).length c2)).set1 (.slice AP acc.length cP)).cells
      go_wp2_with fail
      (try simp only [Exit.inBlock, Exit.then])
      refine bodyPost_ret (v := .tuple #[.agg #[.slice A2 ((x :: nb) : List Int).length c2, .slice AP acc.length cP], .bool true]) ?_ rfl ?_
      · rw [results_cell_tmp rfl]
        go_simp
      · rw [He.out, Hb1.out]
        exact ⟨_, _, _, _, rfl, (hr2.upd hu (fun h => h.2.2 rfl)).mono (fun _ h => h.1), (hrP.upd hu (fun h => h.2.2 rfl)).mono (fun _ h => h.1), hb3.upd hu (Nat.le_refl _)⟩
theorem refOfLin_c (S S' : Nat → Prop) (A B : Option Addr) (ca cb : Nat) (base : List Int) (ps : List (List Int)) (w : World) (h0 : Rd intT w S A ca base) (h1 : Rd bagT w S' B cb ps) (n m : Nat) (hn : n = base.length) (hm : m = ps.length)
    (hl : base.length ≤ 4294967296) (hl2 : ps.length ≤ 4294967296) (hl3 : ∀ p ∈ ps, p.length ≤ 4294967296) :
    Calls Tryz.prog 71 #[.slice A n ca, .slice B m cb] w fun e w' => ∃ A0 c0 A1 c1, e = .returned (.tuple #[.agg #[.slice A0 (ofLin base ps).1.1.length c0, .slice A1 (ofLin base ps).1.2.length c1], .bool (ofLin base ps).2]) ∧ Rd intT w' (Ge w.heap.size) A0 c0 (ofLin base ps).1.1 ∧ Rd bagT w' (Ge w.heap.size) A1 c1 (ofLin base ps).1.2 ∧ Bel w w' := by
  cases hbad : badB base with
  | true => exact refOfLin_bad S S' A B ca cb base ps w h0 h1 n m hn hm hl hl2 hl3 hbad
  | false =>
    cases hnb : normB base with
    | nil => exact refOfLin_nil S S' A B ca cb base ps w h0 h1 n m hn hm hl hl2 hl3 hbad hnb
    | cons x nb => exact refOfLin_cons S S' A B ca cb base ps w h0 h1 n m hn hm hl hl2 hl3 hbad x nb hnb
end Go.Proofs.YtmdcgekiiopohaaGreat

/- Walks: what the statements of chapter 6 make. -/
namespace Go.Proofs.YtmdcgekiiopohaaGreat
open Go.RowKit Go.Cb
theorem threeBoxes (w : World) (t : TypeId) (a b c d e f : Value) :
    Bel w (((w.alloc (.cells #[a, b] t)).alloc (.cells #[c, d] t)).alloc (.cells #[e, f] t)) ∧ Box (((w.alloc (.cells #[a, b] t)).alloc (.cells #[c, d] t)).alloc (.cells #[e, f] t)) t w.heap.size a b ∧
    Box (((w.alloc (.cells #[a, b] t)).alloc (.cells #[c, d] t)).alloc (.cells #[e, f] t)) t (w.heap.size + 1) c d ∧ Box (((w.alloc (.cells #[a, b] t)).alloc (.cells #[c, d] t)).alloc (.cells #[e, f] t)) t (w.heap.size + 2) e f := by
  refine ⟨(((Bel.refl _).alloc _).alloc _).alloc _, ((Box.new w t a b).to ((Bel.refl _).alloc _)).to ((Bel.refl _).alloc _), ?_, ?_⟩
  · have h := (Box.new (w.alloc (.cells #[a, b] t)) t c d).to ((Bel.refl _).alloc (.cells #[e, f] t))
    rwa [show (w.alloc (.cells #[a, b] t)).heap.size = w.heap.size + 1 by simp] at h
  · have h := Box.new ((w.alloc (.cells #[a, b] t)).alloc (.cells #[c, d] t)) t e f
    rwa [show ((w.alloc (.cells #[a, b] t)).alloc (.cells #[c, d] t)).heap.size = w.heap.size + 2 by simp] at h
end Go.Proofs.YtmdcgekiiopohaaGreat

/- Walks: copies and cuts of rows of whatever elements. -/
namespace Go.Proofs.YtmdcgekiiopohaaGreat
open Go.RowKit Go.Cb
set_option maxHeartbeats 1000000 in
theorem cutIntS_c (S : Nat → Prop) (A : Option Addr) (c : Nat) (l : List Int) (k : Nat) (w : World) (h : Rd intT w S A c l) (n : Nat) (hn : n = l.length) (hl : (l.take k).length * 8 ≤ 140737488355328) (K : Int) (hK : K = (k : Int)) :
    Calls Tryz.prog 5 #[.slice A n c, .int .i64 K] w fun e w' => ∃ v, e = .returned v ∧ Own intT 3 w' w.heap.size (Ge w.heap.size) v (l.take k) ∧ Bel w w' := by
  subst hn hK
  have hm := h.lenMax
  have hcap := h.cap
  by_cases hk : l.length < k
  · have Ht := Lib.hid (show l.take k = l from List.take_of_length_le (by omega))
    have hk2 : (l.length : Int) ≤ (k : Int) := by omega
    go_enter Tryz.func5, Tryz.ntmps5
    go_wp2_with (go_at_call 16; refine (copyInt_c S _ c l _ h _ rfl (Ht.out ▸ hl)).mono ?_; rintro e w' ⟨v, rfl, ho, hb⟩)
    go_ret
    exact ⟨_, rfl, by rw [Ht.out]; exact ho, hb⟩
  · have hk2 : (k : Int) ≤ (l.length : Int) := by omega
    go_enter Tryz.func5, Tryz.ntmps5
    go_wp2_with (go_at_call 16; refine (copyInt_c S _ c (l.take k) _ (h.take k) _ (by simp; omega) hl).mono ?_; rintro e w' ⟨v, rfl, ho, hb⟩)
    all_goals
      go_ret
      exact ⟨_, rfl, ho, hb⟩
end Go.Proofs.YtmdcgekiiopohaaGreat

/- Walks: slices.Grow of nothing, slices.Concat. -/
namespace Go.Cb
open Go.RowKit
theorem ownsRow_room {w : World} {base g cap size : Nat} {e : TypeId} {cur : Array Value} (h : w.heap[g]? = some (.cells cur e (0, 0))) (hb : base ≤ g) (hc : cur.size = cap * size) (hm : cap ≤ maxLen) : w.ownsRow base e size (.slice (some ⟨g, 0, none⟩) 0 cap) 0 [] :=
  ⟨by simp, .inr ⟨g, cap, cur, rfl, hb, h, Nat.zero_le _, hm, hc, by simp⟩⟩
theorem Own.room {α : Type} (d : Ty α) {w : World} {base g cap : Nat} {e : TypeId} {S : Nat → Prop} {cur : Array Value} (h : w.heap[g]? = some (.cells cur e (0, 0))) (hb : base ≤ g) (hc : cur.size = cap * d.sz) (hm : cap ≤ maxLen) : Own d e w base S (.slice (some ⟨g, 0, none⟩) 0 cap) [] :=
  ⟨[], ownsRow_room h hb hc hm, fun j x hj => by simp at hj⟩
theorem flat_succ {α : Type} {xss : List (List α)} {k : Nat} {q : List α} (h : xss[k]? = some q) : (xss.take (k + 1)).flatten = (xss.take k).flatten ++ q := by
  rw [List.take_add_one, h]; simp
theorem flat_le {α : Type} (xss : List (List α)) (k : Nat) : (xss.take k).flatten.length ≤ xss.flatten.length := by
  conv => rhs; rw [← List.take_append_drop k xss]
  rw [List.flatten_append, List.length_append]; omega
end Go.Cb
namespace Go.Proofs.YtmdcgekiiopohaaGreat
open Go.RowKit Go.Cb
end Go.Proofs.YtmdcgekiiopohaaGreat
