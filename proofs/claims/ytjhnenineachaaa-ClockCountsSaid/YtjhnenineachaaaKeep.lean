/- Walks: copies and cuts of rows of whatever elements. -/
import Derived.Test.YtjhnenineachaaaBag7
import Derived.Test.YtjhnenineachaaaLib4
set_option linter.unusedVariables false
set_option linter.unusedSimpArgs false
set_option linter.all false
namespace Go.Proofs.Ytjhnenineachaaa
open Go.RowKit Go.Cb
set_option maxHeartbeats 1000000 in
theorem cutIntS_c (S : Nat → Prop) (A : Option Addr) (c : Nat) (l : List Int) (k : Nat) (w : World) (h : Rd intT w S A c l) (n : Nat) (hn : n = l.length) (hl : (l.take k).length * 8 ≤ 140737488355328) (K : Int) (hK : K = (k : Int)) :
    Calls Try.prog 16 #[.slice A n c, .int .i64 K] w fun e w' => ∃ v, e = .returned v ∧ Own intT 3 w' w.heap.size (Ge w.heap.size) v (l.take k) ∧ Bel w w' := by
  subst hn hK
  have hm := h.lenMax
  have hcap := h.cap
  by_cases hk : l.length < k
  · have Ht := Lib.hid (show l.take k = l from List.take_of_length_le (by omega))
    have hk2 : (l.length : Int) ≤ (k : Int) := by omega
    go_enter Try.func16, Try.ntmps16
    go_wp2_with (go_at_call 24; refine (copyInt_c S _ c l _ h _ rfl (Ht.out ▸ hl)).mono ?_; rintro e w' ⟨v, rfl, ho, hb⟩)
    go_ret
    exact ⟨_, rfl, by rw [Ht.out]; exact ho, hb⟩
  · have hk2 : (k : Int) ≤ (l.length : Int) := by omega
    go_enter Try.func16, Try.ntmps16
    go_wp2_with (go_at_call 24; refine (copyInt_c S _ c (l.take k) _ (h.take k) _ (by simp; omega) hl).mono ?_; rintro e w' ⟨v, rfl, ho, hb⟩)
    all_goals
      go_ret
      exact ⟨_, rfl, ho, hb⟩
end Go.Proofs.Ytjhnenineachaaa
