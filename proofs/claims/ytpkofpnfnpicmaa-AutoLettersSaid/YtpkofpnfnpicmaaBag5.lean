/- Walks: totals and differences; the document's words. -/
import Derived.Test.YtpkofpnfnpicmaaBag4
namespace Go.Proofs.Ytpkofpnfnpicmaa
open Go.RowKit Go.Cb

theorem rightB_fast {l : List Int} (hl : l.length ≤ 12) (h : ∀ x ∈ l, okN x = true) : rightB l = (l.getLast? != some 0) := by
  unfold rightB
  rw [decide_eq_true hl, List.all_eq_true.2 h, Bool.true_and, Bool.and_true]
set_option maxHeartbeats 2000000 in
theorem refRight_c (S : Nat → Prop) (A : Option Addr) (c : Nat) (l : List Int) (w : World) (h : Rd intT w S A c l) (n : Nat) (hn : n = l.length) :
    Calls Try.prog 47 #[.slice A n c] w fun e w' => e = .returned (.bool (rightB l)) ∧ w = w' := by
  subst hn
  have hl := h.lenMax
  go_enter Try.func47, Try.ntmps47
  go_wp2
  go_loop [2, 7] (fun v2 v => v2 = .bool false ∧ ∃ k : Nat, k ≤ l.length ∧ v = .int .i64 k ∧ Hid (∀ x ∈ l.take k, okN x = true)) (fun _ v => l.length - (intOf v).toNat)
  case atStart => exact ⟨rfl, 0, Nat.zero_le _, rfl, by intro x hx; simp at hx⟩
  case round =>
    obtain ⟨rfl, k, hk, rfl, hp⟩ := hrel
    by_cases hlt : k < l.length
    · obtain ⟨ad, rfl, hc⟩ := h.int hlt
      cases hok : okN l[k] with
      | true =>
        have Hs := Lib.hid (all_snoc hlt hp hok)
        obtain ⟨x0, x1⟩ := okN_t hok
        clear hok
        go_wp2
        go_round
        case rel => exact ⟨rfl, k + 1, by omega, by go_num, Hs.out⟩
        case measure => simp [intOf]; omega
      | false =>
        have Hr := Lib.hid (rightB_bad hlt hok)
        rcases okN_f hok with x0 | x0
        · clear hok
          go_wp2
          go_ret
          exact ⟨by rw [Hr.out]; rfl, rfl⟩
        · have x1 : ¬ l[k] < 0 := by omega
          clear hok
          go_wp2
          go_ret
          exact ⟨by rw [Hr.out]; rfl, rfl⟩
    · have hall : ∀ x ∈ l, okN x = true := by have := hp.out; rwa [List.take_of_length_le (by omega)] at this
      by_cases h12 : l.length ≤ 12
      · have Hr := Lib.hid (rightB_fast h12 hall)
        clear hall
        by_cases hz : 0 < l.length
        · obtain ⟨ad, rfl, hc⟩ := h.int (k := l.length - 1) (by omega)
          have hlast : l.getLast? = some l[l.length - 1] := by rw [List.getLast?_eq_getElem?, List.getElem?_eq_getElem (by omega)]
          have hne : ¬ l = [] := by intro e; rw [e] at hz; simp at hz
          have hz1 : ((l.length : Int) == 0) = false := by rw [beq_eq_false_iff_ne]; omega
          have hem : l.isEmpty = false := by cases l <;> first | rfl | exact absurd rfl hne
          have Hr2 := Lib.hid (show rightB l = !(l[l.length - 1] == 0) from by rw [Hr.out, hlast]; rfl)
          clear hlast
          have h2 : (1 : Int) ≤ (l.length : Int) := by omega
          cases hb : (l[l.length - 1] == 0) with
          | true =>
            have hb2 : (l[l.length - 1] != 0) = false := by rw [bne, hb]; rfl
            go_wp2
            go_ret
            exact ⟨by rw [Hr2.out, hb]; rfl, rfl⟩
          | false =>
            have hb2 : (l[l.length - 1] != 0) = true := by rw [bne, hb]; rfl
            go_wp2
            go_ret
            exact ⟨by rw [Hr2.out, hb]; rfl, rfl⟩
        · have hn : l = [] := List.eq_nil_of_length_eq_zero (by omega)
          clear Hr
          subst hn
          go_wp2
          go_ret
          exact ⟨rfl, rfl⟩
      · have Hr := Lib.hid (show rightB l = false from by unfold rightB; rw [decide_eq_false h12]; rfl)
        go_wp2
        go_ret
        exact ⟨by rw [Hr.out]; rfl, rfl⟩

set_option maxHeartbeats 2000000 in
theorem total_c (S : Nat → Prop) (A : Option Addr) (c : Nat) (l : List Int) (w : World) (h : Rd intT w S A c l) (n : Nat) (hn : n = l.length) :
    Calls Try.prog 43 #[.slice A n c] w fun e w' => e = .returned (.tuple #[.int .i64 (totalB l).1, .bool (totalB l).2]) ∧ w = w' := by
  subst hn
  have hl := h.lenMax
  cases hR : rightB l with
  | false =>
    have Hn := Lib.hid (show totalB l = (0, false) from by unfold totalB; rw [if_neg (by simp [hR])])
    go_enter Try.func43, Try.ntmps43
    go_wp2_with fail
    refine (right_c _ _ _ _ _ h _ rfl).mono ?_
    rintro e w' ⟨rfl, rfl⟩
    go_wp2_with fail
    go_ret2
    exact ⟨by rw [Hn.out]; rfl, rfl⟩
  | true =>
    have HR := Lib.hid hR
    go_enter Try.func43, Try.ntmps43
    go_wp2_with fail
    refine (right_c _ _ _ _ _ h _ rfl).mono ?_
    rintro e w' ⟨rfl, rfl⟩
    go_wp2_with fail
    clear hR
    go_loop [2, 3, 2, 11] (fun v2 v3 v4 v => ∃ k : Nat, k ≤ l.length ∧ v = .int .i64 k ∧ v4 = .int .i64 (l.take k).sum ∧ Hid ((l.take k).sum ≤ 1152921504606846976)) (fun _ _ _ v => l.length - (intOf v).toNat)
    case atStart => exact ⟨0, Nat.zero_le _, rfl, by simp, by show (l.take 0).sum ≤ _; simp⟩
    case round =>
      obtain ⟨k, hk, rfl, rfl, hs⟩ := hrel
      by_cases hlt : k < l.length
      · obtain ⟨ad, rfl, hc⟩ := h.int hlt
        have h0 : 0 ≤ (l.take k).sum := sum_nonneg (fun x hx => (right_ok HR.out x (List.mem_of_mem_take hx)).1)
        have hx := right_ok HR.out l[k] (List.getElem_mem hlt)
        by_cases hsum : (l.take k).sum + l[k] ≤ 1152921504606846976
        · have Hn := Lib.hid (addN_sum ⟨h0, hs.out⟩ hx hsum)
          have Hs2 := Lib.hid hsum
          clear hsum hx h0
          go_wp2_with (go_at_call 27; refine (add_c_to _ _ _ _ Hn.out _).mono ?_; rintro e w' ⟨rfl, rfl⟩)
          go_round
          case rel => exact ⟨k + 1, by omega, by go_num, by rw [sum_take hlt], by show (l.take (k + 1)).sum ≤ _; rw [sum_take hlt]; exact Hs2.out⟩
          case measure => simp [intOf]; omega
        · have Hn := Lib.hid (addN_over hsum)
          have Hr := Lib.hid (totalB_no HR.out hlt hsum)
          clear hsum hx h0
          go_wp2_with (go_at_call 27; refine (add_c_to _ _ _ _ Hn.out _).mono ?_; rintro e w' ⟨rfl, rfl⟩)
          go_ret2
          exact ⟨by rw [Hr.out]; rfl, rfl⟩
      · have he : l.take k = l := List.take_of_length_le (by omega)
        rw [he] at hs ⊢
        have Hr := Lib.hid (totalB_yes HR.out hs.out)
        clear he
        go_wp2
        go_ret2
        exact ⟨by rw [Hr.out]; rfl, rfl⟩
set_option maxHeartbeats 2000000 in
theorem refTotal_c (S : Nat → Prop) (A : Option Addr) (c : Nat) (l : List Int) (w : World) (h : Rd intT w S A c l) (n : Nat) (hn : n = l.length) :
    Calls Try.prog 46 #[.slice A n c] w fun e w' => e = .returned (.tuple #[.int .i64 (totalB l).1, .bool (totalB l).2]) ∧ w = w' := by
  subst hn
  have hl := h.lenMax
  cases hR : rightB l with
  | false =>
    have Hn := Lib.hid (show totalB l = (0, false) from by unfold totalB; rw [if_neg (by simp [hR])])
    go_enter Try.func46, Try.ntmps46
    go_wp2_with fail
    refine (refRight_c _ _ _ _ _ h _ rfl).mono ?_
    rintro e w' ⟨rfl, rfl⟩
    go_wp2_with fail
    go_ret2
    exact ⟨by rw [Hn.out]; rfl, rfl⟩
  | true =>
    have HR := Lib.hid hR
    go_enter Try.func46, Try.ntmps46
    go_wp2_with fail
    refine (refRight_c _ _ _ _ _ h _ rfl).mono ?_
    rintro e w' ⟨rfl, rfl⟩
    go_wp2_with fail
    clear hR
    go_loop [2, 3, 4, 14] (fun v2 v3 v4 v => ∃ k : Nat, k ≤ l.length ∧ v = .int .i64 k ∧ v4 = .int .i64 (l.take k).sum ∧ Hid ((l.take k).sum ≤ 1152921504606846976)) (fun _ _ _ v => l.length - (intOf v).toNat)
    case atStart => exact ⟨0, Nat.zero_le _, rfl, by simp, by show (l.take 0).sum ≤ _; simp⟩
    case round =>
      obtain ⟨k, hk, rfl, rfl, hs⟩ := hrel
      by_cases hlt : k < l.length
      · obtain ⟨ad, rfl, hc⟩ := h.int hlt
        have h0 : 0 ≤ (l.take k).sum := sum_nonneg (fun x hx => (right_ok HR.out x (List.mem_of_mem_take hx)).1)
        have hx := right_ok HR.out l[k] (List.getElem_mem hlt)
        by_cases hsum : (l.take k).sum + l[k] ≤ 1152921504606846976
        · have Hn := Lib.hid (addN_sum ⟨h0, hs.out⟩ hx hsum)
          have Hs2 := Lib.hid hsum
          clear hsum hx h0
          go_wp2_with (go_at_call 28; refine (refAdd_c_to _ _ _ _ Hn.out _).mono ?_; rintro e w' ⟨rfl, rfl⟩)
          go_round
          case rel => exact ⟨k + 1, by omega, by go_num, by rw [sum_take hlt], by show (l.take (k + 1)).sum ≤ _; rw [sum_take hlt]; exact Hs2.out⟩
          case measure => simp [intOf]; omega
        · have Hn := Lib.hid (addN_over hsum)
          have Hr := Lib.hid (totalB_no HR.out hlt hsum)
          clear hsum hx h0
          go_wp2_with (go_at_call 28; refine (refAdd_c_to _ _ _ _ Hn.out _).mono ?_; rintro e w' ⟨rfl, rfl⟩)
          go_ret2
          exact ⟨by rw [Hr.out]; rfl, rfl⟩
      · have he : l.take k = l := List.take_of_length_le (by omega)
        rw [he] at hs ⊢
        have Hr := Lib.hid (totalB_yes HR.out hs.out)
        clear he
        go_wp2
        go_ret2
        exact ⟨by rw [Hr.out]; rfl, rfl⟩
end Go.Proofs.Ytpkofpnfnpicmaa
