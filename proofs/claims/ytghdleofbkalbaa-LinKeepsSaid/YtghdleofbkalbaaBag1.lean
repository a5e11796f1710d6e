/- Walks: numbers and words. -/
import Derived.Test.YtghdleofbkalbaaRows
import Derived.Test.YtghdleofbkalbaaLib
import Derived.Test.YtghdleofbkalbaaPure
namespace Go.Proofs.Ytghdleofbkalbaa
open Go.RowKit Go.Cb

set_option maxHeartbeats 400000 in
theorem may_c (n : Int) (w : World) :
    Calls Try.prog 61 #[.int .i64 n] w fun e w' => e = .returned (.bool (okN n)) ∧ w = w' := by
  by_cases h : 0 ≤ n
  · have h0 : decide (0 ≤ n) = true := by simpa using h
    go_enter Try.func61, Try.ntmps61
    go_wp2
    go_ret
    exact ⟨by unfold okN far; rw [h0]; rfl, rfl⟩
  · have h0 : decide (0 ≤ n) = false := by simpa using h
    go_enter Try.func61, Try.ntmps61
    go_wp2
    go_ret
    exact ⟨by unfold okN; rw [h0]; rfl, rfl⟩

set_option maxHeartbeats 400000 in
theorem right1_c (n : Int) (w : World) :
    Calls Try.prog 59 #[.int .i64 n] w fun e w' => e = .returned (.bool (!okN n)) ∧ w = w' := by
  by_cases h : 0 ≤ n
  · have h0 : decide (n < 0) = false := by simpa using h
    go_enter Try.func59, Try.ntmps59
    go_wp2
    go_ret
    exact ⟨by unfold okN far; rw [show decide (0 ≤ n) = true from by simpa using h, Bool.true_and, ← decide_not]; simp, rfl⟩
  · have h0 : decide (n < 0) = true := by simpa using h
    go_enter Try.func59, Try.ntmps59
    go_wp2
    go_ret
    exact ⟨by unfold okN; rw [show decide (0 ≤ n) = false from by simpa using h]; rfl, rfl⟩

set_option maxHeartbeats 1000000 in
theorem indexFunc_c (f : FuncId) (p : Int → Bool) (hcf : ∀ (args : Array Value) (w : World), (callFunc f args).run Try.prog w = .ok (.enter f args) w) (hf : ∀ n w, Calls Try.prog f #[.int .i64 n] w fun e w' => e = .returned (.bool (p n)) ∧ w = w') (S : Nat → Prop) (A : Option Addr) (c : Nat) (l : List Int) (w : World) (h : Rd intT w S A c l) (n : Nat) (hn : n = l.length) :
    Calls Try.prog 65 #[.slice A n c, .func (.func f) #[] #[]] w fun e w' => (∃ n : Int, e = .returned (.int .i64 n) ∧ (decide (0 ≤ n) = l.any p)) ∧ w = w' := by
  subst hn
  have hl := h.lenMax
  have Hf := Lib.hid hf
  clear hf
  go_enter Try.func65, Try.ntmps65
  go_wp2
  go_loop [8] (fun v => ∃ k : Nat, k ≤ l.length ∧ v = .int .i64 k ∧ Hid (∀ x ∈ l.take k, p x = false)) (fun v => l.length - (intOf v).toNat)
  case atStart => exact ⟨0, Nat.zero_le _, rfl, by intro x hx; simp at hx⟩
  case round =>
    obtain ⟨k, hk, rfl, hp⟩ := hrel
    by_cases hlt : k < l.length
    · obtain ⟨ad, rfl, hc⟩ := h.int hlt
      cases hok : p l[k] with
      | false =>
        have Hs := Lib.hid (none_snoc hlt hp hok)
        go_wp2_with fail
        refine (Hf.out _ _).mono ?_
        rw [hok]
        rintro e w' ⟨rfl, rfl⟩
        go_wp2
        go_round
        case rel => exact ⟨k + 1, by omega, by go_num, Hs.out⟩
        case measure => simp [intOf]; omega
      | true =>
        have Hs := Lib.hid (any_yes hlt hok)
        go_wp2_with fail
        refine (Hf.out _ _).mono ?_
        rw [hok]
        rintro e w' ⟨rfl, rfl⟩
        go_wp2
        go_ret
        exact ⟨⟨_, rfl, Hs.out⟩, rfl⟩
    · have Hs := Lib.hid (any_no (show l.length ≤ k by omega) hp)
      go_wp2
      go_ret
      exact ⟨⟨_, rfl, Hs.out⟩, rfl⟩
set_option maxHeartbeats 1000000 in
theorem containsFunc_c (f : FuncId) (p : Int → Bool) (hcf : ∀ (args : Array Value) (w : World), (callFunc f args).run Try.prog w = .ok (.enter f args) w) (hf : ∀ n w, Calls Try.prog f #[.int .i64 n] w fun e w' => e = .returned (.bool (p n)) ∧ w = w') (S : Nat → Prop) (A : Option Addr) (c : Nat) (l : List Int) (w : World) (h : Rd intT w S A c l) (n : Nat) (hn : n = l.length) :
    Calls Try.prog 55 #[.slice A n c, .func (.func f) #[] #[]] w fun e w' => e = .returned (.bool (l.any p)) ∧ w = w' := by
  subst hn
  have Hf := Lib.hid hf
  have Hcf := Lib.hid hcf
  clear hf hcf
  go_enter Try.func55, Try.ntmps55
  go_wp2_with fail
  refine (indexFunc_c f p Hcf.out Hf.out S A c l _ h _ rfl).mono ?_
  rintro e w' ⟨⟨n, rfl, hn⟩, rfl⟩
  go_wp2
  go_ret
  exact ⟨rfl, rfl⟩
theorem containsFunc50 (S : Nat → Prop) (A : Option Addr) (c : Nat) (l : List Int) (w : World) (h : Rd intT w S A c l) (n : Nat) (hn : n = l.length) :
    Calls Try.prog 55 #[.slice A n c, .func (.func 59) #[] #[]] w fun e w' => e = .returned (.bool (!l.all okN)) ∧ w = w' := by
  have h2 := containsFunc_c 59 (fun n => !okN n) (fun _ _ => by kernel_rfl) (fun n w => right1_c n w) S A c l w h n hn
  rw [show l.any (fun n => !okN n) = !l.all okN from by rw [List.not_all_eq_any_not]] at h2
  exact h2
set_option maxHeartbeats 1000000 in
theorem right_c (S : Nat → Prop) (A : Option Addr) (c : Nat) (l : List Int) (w : World) (h : Rd intT w S A c l) (n : Nat) (hn : n = l.length) :
    Calls Try.prog 39 #[.slice A n c] w fun e w' => e = .returned (.bool (rightB l)) ∧ w = w' := by
  subst hn
  by_cases h12 : 12 < l.length
  · have h0 : decide (12 < (l.length : Int)) = true := decide_eq_true (by omega)
    go_enter Try.func39, Try.ntmps39
    go_wp2
    go_ret
    exact ⟨by unfold rightB; rw [show decide (l.length ≤ 12) = false from by simp; omega]; rfl, rfl⟩
  · have h0 : decide (12 < (l.length : Int)) = false := decide_eq_false (by omega)
    by_cases hz : 0 < l.length
    · obtain ⟨ad, rfl, hc⟩ := h.int (k := l.length - 1) (by omega)
      have hlast : l.getLast? = some l[l.length - 1] := by rw [List.getLast?_eq_getElem?, List.getElem?_eq_getElem (by omega)]
      have h1 : decide (0 < (l.length : Int)) = true := decide_eq_true (by omega)
      have h2 : (1 : Int) ≤ (l.length : Int) := by omega
      by_cases hb : (l[l.length - 1] == 0) = true
      · have hr : rightB l = false := by unfold rightB; rw [hlast, beq_iff_eq.1 hb]; simp
        have Hr := Lib.hid hr
        clear hr hlast
        go_enter Try.func39, Try.ntmps39
        go_wp2
        go_ret
        exact ⟨by rw [Hr.out]; rfl, rfl⟩
      · have hb : (l[l.length - 1] == 0) = false := by simpa using hb
        have hr : rightB l = l.all okN := by
          unfold rightB
          have h5 : l[l.length - 1] ≠ 0 := by simpa using hb
          have h6 : l.length ≤ 12 := by omega
          rw [hlast, show decide (l.length ≤ 12) = true from decide_eq_true h6]
          simp [h5]
        have Hr := Lib.hid hr
        clear hr hlast
        go_enter Try.func39, Try.ntmps39
        go_wp2_with (go_at_call 55; refine (containsFunc50 S _ c l _ h _ rfl).mono ?_; rintro e w' ⟨rfl, rfl⟩)
        go_ret
        exact ⟨by rw [Hr.out]; simp, rfl⟩
    · have h1 : decide (0 < (l.length : Int)) = false := decide_eq_false (by omega)
      have hn : l = [] := List.eq_nil_of_length_eq_zero (by omega)
      have Hr := Lib.hid (show rightB l = !(!l.all okN) from by rw [hn]; rfl)
      clear hn
      go_enter Try.func39, Try.ntmps39
      go_wp2_with (go_at_call 55; refine (containsFunc50 S _ c l _ h _ rfl).mono ?_; rintro e w' ⟨rfl, rfl⟩)
      go_ret
      exact ⟨by rw [Hr.out, Bool.not_not]; rfl, rfl⟩
end Go.Proofs.Ytghdleofbkalbaa
