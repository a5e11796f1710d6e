/- Walks: the document's words; helps. -/
import Derived.Test.YtjhnenineachaaaBag5
set_option linter.unusedVariables false
set_option linter.unusedSimpArgs false
set_option linter.all false
namespace Go.Proofs.Ytjhnenineachaaa
open Go.RowKit Go.Cb


set_option maxHeartbeats 1000000 in
theorem copyInt_c (S : Nat → Prop) (A : Option Addr) (c : Nat) (l : List Int) (w : World) (h : Rd intT w S A c l) (n : Nat) (hn : n = l.length) (hl : l.length * 8 ≤ 140737488355328) :
    Calls Try.prog 24 #[.slice A n c] w fun e w' => ∃ v, e = .returned v ∧ Own intT 3 w' w.heap.size (Ge w.heap.size) v l ∧ Bel w w' := by
  subst hn
  go_enter Try.func24, Try.ntmps24
  go_wp2_with (at_builtin; refine wp_append intT (w0 := w) 44 3 (.int .i64 0) 8 rfl _ _ rfl Try.underlying44 info_int rfl (Ge w.heap.size) S _ [] l A _ c rfl rfl rfl (Own.nil _ _ _ _ _) h (fun _ _ h => h) (Bel.refl _) (by simp [maxLen]; omega) (by simpa using hl) ?_; rintro v1 w1 ho hb1 _ _)
  go_ret
  exact ⟨_, rfl, ho, hb1⟩

set_option maxHeartbeats 1000000 in
theorem cutInt_c (S : Nat → Prop) (A : Option Addr) (c : Nat) (l : List Int) (k : Nat) (w : World) (h : Rd intT w S A c l) (n : Nat) (hn : n = l.length) (hl : l.length * 8 ≤ 140737488355328) (K : Int) (hK : K = (k : Int)) :
    Calls Try.prog 16 #[.slice A n c, .int .i64 K] w fun e w' => ∃ v, e = .returned v ∧ Own intT 3 w' w.heap.size (Ge w.heap.size) v (l.take k) ∧ Bel w w' := by
  subst hn hK
  have hm := h.lenMax
  have hcap := h.cap
  by_cases hk : l.length < k
  · have Ht := Lib.hid (show l.take k = l from List.take_of_length_le (by omega))
    have hk2 : (l.length : Int) ≤ (k : Int) := by omega
    go_enter Try.func16, Try.ntmps16
    go_wp2_with (go_at_call 24; refine (copyInt_c S _ c l _ h _ rfl hl).mono ?_; rintro e w' ⟨v, rfl, ho, hb⟩)
    go_ret
    exact ⟨_, rfl, by rw [Ht.out]; exact ho, hb⟩
  · have hk2 : (k : Int) ≤ (l.length : Int) := by omega
    go_enter Try.func16, Try.ntmps16
    go_wp2_with (go_at_call 24; refine (copyInt_c S _ c (l.take k) _ (h.take k) _ (by simp; omega) (by simp; omega)).mono ?_; rintro e w' ⟨v, rfl, ho, hb⟩)
    all_goals
      go_ret
      exact ⟨_, rfl, ho, hb⟩


set_option maxHeartbeats 1000000 in
theorem within_c (v n : Int) (w : World) (hn : n ≤ 9223372036854775807) :
    Calls Try.prog 15 #[.int .i64 v, .int .i64 n] w fun e w' => e = .returned (.int .i64 (withinI v n)) ∧ w = w' := by
  by_cases h1 : n < 1
  · have Hw := Lib.hid (show withinI v n = 0 from by unfold withinI; rw [if_pos h1])
    go_enter Try.func15, Try.ntmps15
    go_wp2
    go_ret
    exact ⟨by rw [Hw.out]; rfl, rfl⟩
  · have h1' : 1 ≤ n := by omega
    by_cases h0 : 0 ≤ v
    · have Hw := Lib.hid (show withinI v n = v % n from by unfold withinI; rw [if_neg h1])
      have q0 := Int.emod_nonneg v (b := n) (by omega)
      go_enter Try.func15, Try.ntmps15
      go_wp2
      go_ret
      exact ⟨by rw [Hw.out]; rfl, rfl⟩
    · obtain ⟨q0, q1, q2, q3⟩ := withinI_neg h1' (show v < 0 by omega)
      by_cases ht : v.tmod n < 0
      · have Hw := Lib.hid (q2 ht)
        clear q2 q3
        go_enter Try.func15, Try.ntmps15
        go_wp2
        go_ret
        exact ⟨by rw [← Hw.out]; rfl, rfl⟩
      · have Hw := Lib.hid (q3 ht)
        clear q2 q3
        go_enter Try.func15, Try.ntmps15
        go_wp2
        go_ret
        exact ⟨by rw [← Hw.out]; rfl, rfl⟩

end Go.Proofs.Ytjhnenineachaaa
