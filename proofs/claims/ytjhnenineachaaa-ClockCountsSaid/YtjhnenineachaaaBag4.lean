/- Walks: order and totals of words. -/
import Derived.Test.YtjhnenineachaaaBag3
set_option linter.unusedVariables false
set_option linter.unusedSimpArgs false
set_option linter.all false
namespace Go.Proofs.Ytjhnenineachaaa
open Go.RowKit Go.Cb

set_option maxHeartbeats 1000000 in
theorem isNaN_c (a : Int) (w : World) : Calls Try.prog 33 #[.int .i64 a] w fun e w' => e = .returned (.bool false) ∧ w = w' := by
  go_enter Try.func33, Try.ntmps33
  go_wp2
  go_ret
  exact ⟨by simp, rfl⟩
set_option maxHeartbeats 1000000 in
theorem cmpCompare_c (a b : Int) (w : World) : Calls Try.prog 30 #[.int .i64 a, .int .i64 b] w fun e w' => e = .returned (.int .i64 (cmpI a b)) ∧ w = w' := by
  by_cases h1 : a < b
  · have Hn := Lib.hid (cmpI_lt h1)
    go_enter Try.func30, Try.ntmps30
    go_wp2_with (go_at_call 33; refine (isNaN_c _ _).mono ?_; rintro e w' ⟨rfl, rfl⟩)
    go_ret
    exact ⟨by rw [Hn.out]; rfl, rfl⟩
  · by_cases h2 : b < a
    · have Hn := Lib.hid (cmpI_gt h2)
      go_enter Try.func30, Try.ntmps30
      go_wp2_with (go_at_call 33; refine (isNaN_c _ _).mono ?_; rintro e w' ⟨rfl, rfl⟩)
      go_ret
      exact ⟨by rw [Hn.out]; rfl, rfl⟩
    · have Hn := Lib.hid (show cmpI a b = 0 from cmpI_zero.2 (by omega))
      go_enter Try.func30, Try.ntmps30
      go_wp2_with (go_at_call 33; refine (isNaN_c _ _).mono ?_; rintro e w' ⟨rfl, rfl⟩)
      go_ret
      exact ⟨by rw [Hn.out]; rfl, rfl⟩


end Go.Proofs.Ytjhnenineachaaa
