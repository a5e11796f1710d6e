/- Walks: sums and products, the program's and the document's. -/
import Derived.Test.YtghdleofbkalbaaBag1
namespace Go.Proofs.Ytghdleofbkalbaa
open Go.RowKit Go.Cb

theorem okN_t {n : Int} (h : okN n = true) : 0 ≤ n ∧ n ≤ 1152921504606846976 := (okN_iff n).1 h
theorem okN_f {n : Int} (h : okN n = false) : n < 0 ∨ 1152921504606846976 < n := by
  have h2 : ¬ (0 ≤ n ∧ n ≤ 1152921504606846976) := fun h3 => by rw [(okN_iff n).2 h3] at h; cases h
  omega

set_option maxHeartbeats 1000000 in
theorem add_c (a b : Int) (w : World) :
    Calls Try.prog 42 #[.int .i64 a, .int .i64 b] w fun e w' => e = .returned (.tuple #[.int .i64 (addN a b).1, .bool (addN a b).2]) ∧ w = w' := by
  cases hA : okN a with
  | false =>
    have Hn := Lib.hid (show addN a b = (0, false) from by unfold addN; rw [if_neg (by simp [hA])])
    go_enter Try.func42, Try.ntmps42
    go_wp2_with (go_at_call 61; refine (may_c _ _).mono ?_; rintro e w' ⟨rfl, rfl⟩)
    go_ret2
    exact ⟨by rw [Hn.out]; rfl, rfl⟩
  | true =>
    obtain ⟨a0, a1⟩ := okN_t hA
    cases hB : okN b with
    | false =>
      have Hn := Lib.hid (show addN a b = (0, false) from by unfold addN; rw [if_neg (by simp [hB])])
      go_enter Try.func42, Try.ntmps42
      go_wp2_with (go_at_call 61; refine (may_c _ _).mono ?_; rintro e w' ⟨rfl, rfl⟩)
      go_ret2
      exact ⟨by rw [Hn.out]; rfl, rfl⟩
    | true =>
      obtain ⟨b0, b1⟩ := okN_t hB
      by_cases hs : a + b ≤ 1152921504606846976
      · have Hn := Lib.hid (show addN a b = (a + b, true) from by unfold addN far; rw [if_pos ⟨hA, hB, hs⟩])
        have d : decide (1152921504606846976 - b < a) = false := decide_eq_false (by omega)
        go_enter Try.func42, Try.ntmps42
        go_wp2_with (go_at_call 61; refine (may_c _ _).mono ?_; rintro e w' ⟨rfl, rfl⟩)
        go_ret2
        exact ⟨by rw [Hn.out]; rfl, rfl⟩
      · have Hn := Lib.hid (show addN a b = (0, false) from by unfold addN far; rw [if_neg (by omega)])
        have d : decide (1152921504606846976 - b < a) = true := decide_eq_true (by omega)
        go_enter Try.func42, Try.ntmps42
        go_wp2_with (go_at_call 61; refine (may_c _ _).mono ?_; rintro e w' ⟨rfl, rfl⟩)
        go_ret2
        exact ⟨by rw [Hn.out]; rfl, rfl⟩


set_option maxHeartbeats 1000000 in
theorem refAdd_c (a b : Int) (w : World) :
    Calls Try.prog 63 #[.int .i64 a, .int .i64 b] w fun e w' => e = .returned (.tuple #[.int .i64 (addN a b).1, .bool (addN a b).2]) ∧ w = w' := by
  by_cases a0 : 0 ≤ a
  · have d0 : decide (a < 0) = false := decide_eq_false (by omega)
    by_cases b0 : 0 ≤ b
    · have d1 : decide (b < 0) = false := decide_eq_false (by omega)
      by_cases a1 : a ≤ 1152921504606846976
      · have d2 : decide (1152921504606846976 < a) = false := decide_eq_false (by omega)
        by_cases hs : a + b ≤ 1152921504606846976
        · have Hn := Lib.hid (show addN a b = (a + b, true) from by unfold addN; rw [if_pos ⟨(okN_iff a).2 ⟨a0, a1⟩, (okN_iff b).2 ⟨b0, by unfold far; omega⟩, hs⟩])
          have d : decide (1152921504606846976 - a < b) = false := decide_eq_false (by omega)
          go_enter Try.func63, Try.ntmps63
          go_wp2
          go_ret2
          exact ⟨by rw [Hn.out]; rfl, rfl⟩
        · have Hn := Lib.hid (show addN a b = (0, false) from by unfold addN far; rw [if_neg (by omega)])
          have d : decide (1152921504606846976 - a < b) = true := decide_eq_true (by omega)
          go_enter Try.func63, Try.ntmps63
          go_wp2
          go_ret2
          exact ⟨by rw [Hn.out]; rfl, rfl⟩
      · have d2 : decide (1152921504606846976 < a) = true := decide_eq_true (by omega)
        have Hn := Lib.hid (show addN a b = (0, false) from by unfold addN; rw [if_neg (by rintro ⟨h, _⟩; exact a1 (okN_t h).2)])
        go_enter Try.func63, Try.ntmps63
        go_wp2
        go_ret2
        exact ⟨by rw [Hn.out]; rfl, rfl⟩
    · have d1 : decide (b < 0) = true := decide_eq_true (by omega)
      have Hn := Lib.hid (show addN a b = (0, false) from by unfold addN; rw [if_neg (by rintro ⟨_, h, _⟩; exact b0 (okN_t h).1)])
      go_enter Try.func63, Try.ntmps63
      go_wp2
      go_ret2
      exact ⟨by rw [Hn.out]; rfl, rfl⟩
  · have d0 : decide (a < 0) = true := decide_eq_true (by omega)
    have Hn := Lib.hid (show addN a b = (0, false) from by unfold addN; rw [if_neg (by rintro ⟨h, _⟩; exact a0 (okN_t h).1)])
    go_enter Try.func63, Try.ntmps63
    go_wp2
    go_ret2
    exact ⟨by rw [Hn.out]; rfl, rfl⟩

theorem addN_comm (a b : Int) : addN a b = addN b a := by
  unfold addN
  by_cases h : okN a = true ∧ okN b = true ∧ a + b ≤ far
  · rw [if_pos h, if_pos ⟨h.2.1, h.1, by rw [Int.add_comm]; exact h.2.2⟩, Int.add_comm]
  · rw [if_neg h, if_neg (fun h2 => h ⟨h2.2.1, h2.1, by rw [Int.add_comm]; exact h2.2.2⟩)]
theorem mulN_comm (a b : Int) : mulN a b = mulN b a := by
  unfold mulN
  by_cases h : okN a = true ∧ okN b = true ∧ a * b ≤ far
  · rw [if_pos h, if_pos ⟨h.2.1, h.1, by rw [Int.mul_comm]; exact h.2.2⟩, Int.mul_comm]
  · rw [if_neg h, if_neg (fun h2 => h ⟨h2.2.1, h2.1, by rw [Int.mul_comm]; exact h2.2.2⟩)]
theorem addN_ok {a b n : Int} (h : addN a b = (n, true)) : n = a + b ∧ 0 ≤ a ∧ 0 ≤ b ∧ n ≤ 1152921504606846976 := by
  unfold addN at h
  split at h
  · rename_i hc
    injection h with h _
    obtain ⟨h1, h2, h3⟩ := hc
    have := okN_t h1
    have := okN_t h2
    unfold far at h3
    omega
  · injection h with _ h; cases h
theorem mulN_ok {a b n : Int} (h : mulN a b = (n, true)) : n = a * b ∧ n ≤ 1152921504606846976 := by
  unfold mulN at h
  split at h
  · rename_i hc
    injection h with h _
    obtain ⟨h1, h2, h3⟩ := hc
    unfold far at h3
    omega
  · injection h with _ h; cases h
theorem add_c_to (a b n : Int) (ok : Bool) (h : addN a b = (n, ok)) (w : World) :
    Calls Try.prog 42 #[.int .i64 a, .int .i64 b] w fun e w' => e = .returned (.tuple #[.int .i64 n, .bool ok]) ∧ w = w' := by
  have := add_c a b w
  rw [h] at this
  exact this
theorem refAdd_c_to (a b n : Int) (ok : Bool) (h : addN a b = (n, ok)) (w : World) :
    Calls Try.prog 63 #[.int .i64 a, .int .i64 b] w fun e w' => e = .returned (.tuple #[.int .i64 n, .bool ok]) ∧ w = w' := by
  have := refAdd_c a b w
  rw [h] at this
  exact this
end Go.Proofs.Ytghdleofbkalbaa
