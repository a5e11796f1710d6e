/- Walks: letters. -/
import Derived.Test.YtmdcgekiiopohaaGreatMB
import Derived.Test.YtmdcgekiiopohaaGreatPure9
set_option linter.unusedVariables false
set_option linter.unusedSimpArgs false
set_option linter.all false
namespace Go.Proofs.YtmdcgekiiopohaaGreat
open Go.RowKit Go.Cb
set_option maxHeartbeats 4000000 in
theorem odd_c (S : Nat → Prop) (A : Option Addr) (c : Nat) (b : List Int) (w : World) (h : Rd intT w S A c b) (hr : rightB b = true) (m : Nat) (hm : m ≤ 62) (D : Int) (hD : D = m) (n : Nat) (hn : n = b.length) :
    Calls Tryz.prog 64 #[.slice A n c, .int .i64 D] w fun e w' => e = .returned (.int .u64 (letS b m b.length)) ∧ w = w' := by
  subst hn hD
  have lm := right_len hr
  have Hr := Lib.hid hr
  clear hr
  go_enter Tryz.func64, Tryz.ntmps64
  go_wp2
  go_loop [5, 10] (fun v5 v10 => ∃ k : Nat, k ≤ b.length ∧ v10 = .int .i64 k ∧ v5 = .int .u64 (letS b m k)) (fun _ v10 => b.length - (intOf v10).toNat)
  case atStart => exact ⟨0, Nat.zero_le _, rfl, rfl⟩
  case round =>
    obtain ⟨k, hk, rfl, rfl⟩ := hrel
    by_cases hlt : k < b.length
    · obtain ⟨ad, rfl, hc⟩ := h.int hlt
      obtain ⟨x, hx⟩ : ∃ x, b[k] = x := ⟨_, rfl⟩
      rw [hx] at hc
      have Hs := Lib.hid (let_next (m := m) hlt hx lm)
      have hk12 : k < 12 := by omega
      go_wp2
      go_round
      case rel => exact ⟨k + 1, by omega, by go_num, by rw [Hs.out]⟩
      case measure => simp [intOf]; omega
    · obtain rfl : k = b.length := by omega
      go_wp2
      go_ret
      exact ⟨rfl, rfl⟩
set_option maxHeartbeats 1000000 in
theorem letter_c (S : Nat → Prop) (A : Option Addr) (c : Nat) (b : List Int) (w : World) (h : Rd intT w S A c b) (D : Int) (n : Nat) (hn : n = b.length) :
    Calls Tryz.prog 29 #[.slice A n c, .int .i64 D] w fun e w' => e = .returned (.int .u64 (lettI b D)) ∧ w = w' := by
  subst hn
  cases hr : rightB b with
  | false =>
    rw [lettI_out (.inl hr)]
    have cR := right_c S A c b w h _ rfl
    rw [hr] at cR
    have CR := Lib.hid cR
    clear cR hr h
    go_enter Tryz.func29, Tryz.ntmps29
    go_wp2_with fail
    refine CR.out.mono ?_
    rintro e w1 ⟨rfl, rfl⟩
    go_wp2
    all_goals (go_ret; exact ⟨rfl, rfl⟩)
  | true =>
    have cR := right_c S A c b w h _ rfl
    rw [hr] at cR
    have CR := Lib.hid cR
    clear cR
    by_cases h0 : D < 0
    · rw [lettI_out (.inr (.inl h0))]
      have d0 : decide (D < 0) = true := decide_eq_true h0
      clear hr h
      go_enter Tryz.func29, Tryz.ntmps29
      go_wp2_with fail
      refine CR.out.mono ?_
      rintro e w1 ⟨rfl, rfl⟩
      go_wp2
      all_goals (go_ret; exact ⟨rfl, rfl⟩)
    · have d0 : decide (D < 0) = false := decide_eq_false h0
      by_cases h1 : 62 < D
      · rw [lettI_out (.inr (.inr h1))]
        have d1 : decide (62 < D) = true := decide_eq_true h1
        clear hr h
        go_enter Tryz.func29, Tryz.ntmps29
        go_wp2_with fail
        refine CR.out.mono ?_
        rintro e w1 ⟨rfl, rfl⟩
        go_wp2
        all_goals (go_ret; exact ⟨rfl, rfl⟩)
      · have d1 : decide (62 < D) = false := decide_eq_false h1
        obtain ⟨m, rfl⟩ := Int.eq_ofNat_of_zero_le (show 0 ≤ D by omega)
        rw [lettI_in hr (by omega)]
        have CO := Lib.hid (odd_c S A c b w h hr m (by omega) _ rfl _ rfl)
        clear hr h
        go_enter Tryz.func29, Tryz.ntmps29
        go_wp2_with fail
        refine CR.out.mono ?_
        rintro e w1 ⟨rfl, rfl⟩
        go_wp2_with fail
        refine CO.out.mono ?_
        rintro e w1 ⟨rfl, rfl⟩
        go_wp2
        all_goals (go_ret; exact ⟨rfl, rfl⟩)
end Go.Proofs.YtmdcgekiiopohaaGreat
