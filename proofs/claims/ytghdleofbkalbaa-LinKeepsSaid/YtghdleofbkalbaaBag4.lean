/- Walks: order and totals of words. -/
import Derived.Test.YtghdleofbkalbaaBag3
namespace Go.Proofs.Ytghdleofbkalbaa
open Go.RowKit Go.Cb

set_option maxHeartbeats 1000000 in
theorem isNaN_c (a : Int) (w : World) : Calls Try.prog 53 #[.int .i64 a] w fun e w' => e = .returned (.bool false) ∧ w = w' := by
  go_enter Try.func53, Try.ntmps53
  go_wp2
  go_ret
  exact ⟨by simp, rfl⟩
set_option maxHeartbeats 1000000 in
theorem cmpCompare_c (a b : Int) (w : World) : Calls Try.prog 31 #[.int .i64 a, .int .i64 b] w fun e w' => e = .returned (.int .i64 (cmpI a b)) ∧ w = w' := by
  by_cases h1 : a < b
  · have Hn := Lib.hid (cmpI_lt h1)
    go_enter Try.func31, Try.ntmps31
    go_wp2_with (go_at_call 53; refine (isNaN_c _ _).mono ?_; rintro e w' ⟨rfl, rfl⟩)
    go_ret
    exact ⟨by rw [Hn.out]; rfl, rfl⟩
  · by_cases h2 : b < a
    · have Hn := Lib.hid (cmpI_gt h2)
      go_enter Try.func31, Try.ntmps31
      go_wp2_with (go_at_call 53; refine (isNaN_c _ _).mono ?_; rintro e w' ⟨rfl, rfl⟩)
      go_ret
      exact ⟨by rw [Hn.out]; rfl, rfl⟩
    · have Hn := Lib.hid (show cmpI a b = 0 from cmpI_zero.2 (by omega))
      go_enter Try.func31, Try.ntmps31
      go_wp2_with (go_at_call 53; refine (isNaN_c _ _).mono ?_; rintro e w' ⟨rfl, rfl⟩)
      go_ret
      exact ⟨by rw [Hn.out]; rfl, rfl⟩

set_option maxHeartbeats 2000000 in
theorem slicesCompare_c (S S' : Nat → Prop) (A B : Option Addr) (ca cb : Nat) (a b : List Int) (w : World) (ha : Rd intT w S A ca a) (hb : Rd intT w S' B cb b) (n m : Nat) (hn : n = a.length) (hm : m = b.length) :
    Calls Try.prog 52 #[.slice A n ca, .slice B m cb] w fun e w' => e = .returned (.int .i64 (cmpL a b)) ∧ w = w' := by
  subst hn hm
  have la := ha.lenMax
  have lb := hb.lenMax
  go_enter Try.func52, Try.ntmps52
  go_wp2
  go_loop [11] (fun v => ∃ k : Nat, k ≤ a.length ∧ k ≤ b.length ∧ v = .int .i64 k ∧ Hid (∀ i, i < k → a.getD i 0 = b.getD i 0)) (fun v => a.length - (intOf v).toNat)
  case atStart => exact ⟨0, Nat.zero_le _, Nat.zero_le _, rfl, fun i hi => absurd hi (by omega)⟩
  case round =>
    obtain ⟨k, hka, hkb, rfl, hp⟩ := hrel
    by_cases h1 : k < a.length
    · obtain ⟨ad, rfl, hca⟩ := ha.int h1
      by_cases h2 : k < b.length
      · obtain ⟨bd, rfl, hcb⟩ := hb.int h2
        by_cases he : a[k] = b[k]
        · have Hz := Lib.hid (cmpI_zero.2 he)
          have Hs := Lib.hid (agree_snoc h1 h2 hp he)
          clear he
          go_wp2_with (go_at_call 31; refine (cmpCompare_c _ _ _).mono ?_; rintro e w' ⟨rfl, rfl⟩; rw [Hz.out])
          go_round
          case rel => exact ⟨k + 1, by omega, by omega, by go_num, Hs.out⟩
          case measure => simp [intOf]; omega
        · have Hr := Lib.hid (cmpL_at h1 h2 hp he)
          have hz : (cmpI a[k] b[k] == 0) = false := by rw [beq_eq_false_iff_ne]; exact fun e => he (cmpI_zero.1 e)
          clear he
          go_wp2_with (go_at_call 31; refine (cmpCompare_c _ _ _).mono ?_; rintro e w' ⟨rfl, rfl⟩)
          go_ret
          exact ⟨by rw [Hr.out]; rfl, rfl⟩
      · have Hr := Lib.hid (cmpL_long (a := a) (b := b) (by omega) (fun i hi => hp i (by omega)))
        go_wp2
        go_ret
        exact ⟨by rw [Hr.out]; rfl, rfl⟩
    · by_cases h2 : k < b.length
      · have Hr := Lib.hid (cmpL_short (a := a) (b := b) (by omega) (fun i hi => hp i (by omega)))
        go_wp2
        go_ret
        exact ⟨by rw [Hr.out]; rfl, rfl⟩
      · have Hr := Lib.hid (cmpL_same (a := a) (b := b) (by omega) (fun i hi => hp i (by omega)))
        go_wp2
        go_ret
        exact ⟨by rw [Hr.out]; rfl, rfl⟩

set_option maxHeartbeats 2000000 in
theorem bagCompare_c (S S' : Nat → Prop) (A B : Option Addr) (ca cb : Nat) (a b : List Int) (w : World) (ha : Rd intT w S A ca a) (hb : Rd intT w S' B cb b) (n m : Nat) (hn : n = a.length) (hm : m = b.length) :
    Calls Try.prog 30 #[.slice A n ca, .slice B m cb] w fun e w' => e = .returned (.int .i64 (cmpB a b)) ∧ w = w' := by
  subst hn hm
  have la := ha.lenMax
  have lb := hb.lenMax
  cases hA : rightB a with
  | false =>
    have Hn := Lib.hid (show cmpB a b = 0 from by unfold cmpB; rw [if_neg (by simp [hA])])
    go_enter Try.func30, Try.ntmps30
    go_wp2_with fail
    refine (right_c _ _ _ _ _ ha _ rfl).mono ?_
    rintro e w' ⟨rfl, rfl⟩
    go_wp2_with fail
    go_ret
    exact ⟨by rw [Hn.out]; rfl, rfl⟩
  | true =>
    cases hB : rightB b with
    | false =>
      have Hn := Lib.hid (show cmpB a b = 0 from by unfold cmpB; rw [if_neg (by simp [hB])])
      go_enter Try.func30, Try.ntmps30
      go_wp2_with fail
      refine (right_c _ _ _ _ _ ha _ rfl).mono ?_
      rintro e w' ⟨rfl, rfl⟩
      go_wp2_with fail
      refine (right_c _ _ _ _ _ hb _ rfl).mono ?_
      rintro e w' ⟨rfl, rfl⟩
      go_wp2_with fail
      go_ret
      exact ⟨by rw [Hn.out]; rfl, rfl⟩
    | true =>
      by_cases hl : a.length = b.length
      · have Hn := Lib.hid (show cmpB a b = cmpL a b from by unfold cmpB; rw [if_pos ⟨hA, hB⟩, if_pos hl])
        have d : (a.length == b.length) = true := by simpa using hl
        clear hl
        go_enter Try.func30, Try.ntmps30
        go_wp2_with fail
        refine (right_c _ _ _ _ _ ha _ rfl).mono ?_
        rintro e w' ⟨rfl, rfl⟩
        go_wp2_with fail
        refine (right_c _ _ _ _ _ hb _ rfl).mono ?_
        rintro e w' ⟨rfl, rfl⟩
        go_wp2_with fail
        refine (slicesCompare_c _ _ _ _ _ _ _ _ _ ha hb _ _ rfl rfl).mono ?_
        rintro e w' ⟨rfl, rfl⟩
        go_wp2_with fail
        go_ret
        exact ⟨by rw [Hn.out]; rfl, rfl⟩
      · have Hn := Lib.hid (show cmpB a b = cmpI a.length b.length from by unfold cmpB; rw [if_pos ⟨hA, hB⟩, if_neg hl])
        have d : (a.length == b.length) = false := by simpa using hl
        clear hl
        go_enter Try.func30, Try.ntmps30
        go_wp2_with fail
        refine (right_c _ _ _ _ _ ha _ rfl).mono ?_
        rintro e w' ⟨rfl, rfl⟩
        go_wp2_with fail
        refine (right_c _ _ _ _ _ hb _ rfl).mono ?_
        rintro e w' ⟨rfl, rfl⟩
        go_wp2_with fail
        refine (cmpCompare_c _ _ _).mono ?_
        rintro e w' ⟨rfl, rfl⟩
        go_wp2_with fail
        go_ret
        exact ⟨by rw [Hn.out]; rfl, rfl⟩
end Go.Proofs.Ytghdleofbkalbaa
