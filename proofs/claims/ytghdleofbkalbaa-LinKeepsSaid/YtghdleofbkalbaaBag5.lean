/- Walks: totals and differences; the document's words. -/
import Derived.Test.YtghdleofbkalbaaBag4
namespace Go.Proofs.Ytghdleofbkalbaa
open Go.RowKit Go.Cb

theorem rightB_fast {l : List Int} (hl : l.length ≤ 12) (h : ∀ x ∈ l, okN x = true) : rightB l = (l.getLast? != some 0) := by
  unfold rightB
  rw [decide_eq_true hl, List.all_eq_true.2 h, Bool.true_and, Bool.and_true]
set_option maxHeartbeats 2000000 in
theorem refRight_c (S : Nat → Prop) (A : Option Addr) (c : Nat) (l : List Int) (w : World) (h : Rd intT w S A c l) (n : Nat) (hn : n = l.length) :
    Calls Try.prog 49 #[.slice A n c] w fun e w' => e = .returned (.bool (rightB l)) ∧ w = w' := by
  subst hn
  have hl := h.lenMax
  go_enter Try.func49, Try.ntmps49
  go_wp2
  go_loop [2, 7] (fun v2 v => v2 = .bool false ∧ ∃ k : Nat, k ≤ l.length ∧ v = .int .i64 k ∧ Hid (∀ x ∈ l.take k, okN x = true)) (fun _ v => l.length - (intOf v).toNat)
  case atStart => exact ⟨rfl, 0, Nat.zero_le _, rfl, by intro x hx; simp at hx⟩
  case round =>
    obtain ⟨rfl, k, hk, rfl, hp⟩ := hrel
    by_cases hlt : k < l.length
    · obtain ⟨ad, rfl, hc⟩ := h.int hlt
      cases hok : okN l[k] with
      | true =>
        have Hs := Lib.hid (all_snoc hlt hp hok)
        obtain ⟨x0, x1⟩ := okN_t hok
        clear hok
        go_wp2
        go_round
        case rel => exact ⟨rfl, k + 1, by omega, by go_num, Hs.out⟩
        case measure => simp [intOf]; omega
      | false =>
        have Hr := Lib.hid (rightB_bad hlt hok)
        rcases okN_f hok with x0 | x0
        · clear hok
          go_wp2
          go_ret
          exact ⟨by rw [Hr.out]; rfl, rfl⟩
        · have x1 : ¬ l[k] < 0 := by omega
          clear hok
          go_wp2
          go_ret
          exact ⟨by rw [Hr.out]; rfl, rfl⟩
    · have hall : ∀ x ∈ l, okN x = true := by have := hp.out; rwa [List.take_of_length_le (by omega)] at this
      by_cases h12 : l.length ≤ 12
      · have Hr := Lib.hid (rightB_fast h12 hall)
        clear hall
        by_cases hz : 0 < l.length
        · obtain ⟨ad, rfl, hc⟩ := h.int (k := l.length - 1) (by omega)
          have hlast : l.getLast? = some l[l.length - 1] := by rw [List.getLast?_eq_getElem?, List.getElem?_eq_getElem (by omega)]
          have hne : ¬ l = [] := by intro e; rw [e] at hz; simp at hz
          have hz1 : ((l.length : Int) == 0) = false := by rw [beq_eq_false_iff_ne]; omega
          have hem : l.isEmpty = false := by cases l <;> first | rfl | exact absurd rfl hne
          have Hr2 := Lib.hid (show rightB l = !(l[l.length - 1] == 0) from by rw [Hr.out, hlast]; rfl)
          clear hlast
          have h2 : (1 : Int) ≤ (l.length : Int) := by omega
          cases hb : (l[l.length - 1] == 0) with
          | true =>
            have hb2 : (l[l.length - 1] != 0) = false := by rw [bne, hb]; rfl
            go_wp2
            go_ret
            exact ⟨by rw [Hr2.out, hb]; rfl, rfl⟩
          | false =>
            have hb2 : (l[l.length - 1] != 0) = true := by rw [bne, hb]; rfl
            go_wp2
            go_ret
            exact ⟨by rw [Hr2.out, hb]; rfl, rfl⟩
        · have hn : l = [] := List.eq_nil_of_length_eq_zero (by omega)
          clear Hr
          subst hn
          go_wp2
          go_ret
          exact ⟨rfl, rfl⟩
      · have Hr := Lib.hid (show rightB l = false from by unfold rightB; rw [decide_eq_false h12]; rfl)
        go_wp2
        go_ret
        exact ⟨by rw [Hr.out]; rfl, rfl⟩

end Go.Proofs.Ytghdleofbkalbaa
