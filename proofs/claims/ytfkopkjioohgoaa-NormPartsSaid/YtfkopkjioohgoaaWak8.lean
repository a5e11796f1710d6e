/- Walks: what the statements of chapter 8 wake. -/
import Derived.Test.YtfkopkjioohgoaaNormW
import Derived.Test.YtfkopkjioohgoaaPureY
set_option linter.unusedVariables false
set_option linter.unusedSimpArgs false
set_option linter.all false
namespace Go.Proofs.Ytfkopkjioohgoaa
open Go.RowKit Go.Cb Go.Sort
set_option maxHeartbeats 16000000 in
set_option maxRecDepth 100000 in
theorem wakes08 (w : World) : Calls Try.prog 10 #[] w fun e w' => e = .returned (.bool true) ∧ Bel w w' := by
  have X1 := Lib.hid (show ∀ W : World, Calls Try.prog 9 #[.pointer none, .slice (some ⟨W.heap.size, 0, none⟩) 1 1, .int .i64 0] (W.alloc (.cells #[.int .i64 1, .int .i64 0, .int .i64 0, .int .i64 0, .string ⟨#[]⟩] 35)) fun e w' => ∃ A c, e = .returned (.tuple #[.slice A 0 c, .int .i64 0]) ∧ Bel W w' from fun W => by
    have Q := normOf_c (.pointer none) none none _ _ 1 [⟨1, 0, 0, 0, ⟨#[]⟩⟩] 0 _ ⟨rfl, rfl⟩ (pat_lit W ⟨1, 0, 0, 0, ⟨#[]⟩⟩ 35) (fun _ _ => by simp) 1 rfl (fun hc => norm_fit_any hc none)
    rw [norm_ex1] at Q
    refine Q.mono ?_
    rintro e w' ⟨v, he, ⟨A, c, hv, _⟩, _, hg⟩
    subst hv
    exact ⟨A, c, he, ((Bel.refl W).alloc _).trans ((Bel.refl _).grown hg (fun k hk => by cases hk))⟩)
  have X2 := Lib.hid (show ∀ W : World, Calls Try.prog 9 #[.pointer none, .slice (some ⟨W.heap.size, 0, none⟩) 1 1, .int .i64 1] (W.alloc (.cells #[.int .i64 3, .int .i64 1, .int .i64 0, .int .i64 0, .string ⟨#[]⟩] 35)) fun e w' => ∃ A c, e = .returned (.tuple #[.slice A 1 c, .int .i64 0]) ∧ Bel W w' from fun W => by
    have Q := normOf_c (.pointer none) none none _ _ 1 [⟨3, 1, 0, 0, ⟨#[]⟩⟩] 1 _ ⟨rfl, rfl⟩ (pat_lit W ⟨3, 1, 0, 0, ⟨#[]⟩⟩ 35) (fun _ _ => by simp) 1 rfl (fun hc => norm_fit_any hc none)
    rw [norm_ex2] at Q
    refine Q.mono ?_
    rintro e w' ⟨v, he, ⟨A, c, hv, _⟩, _, hg⟩
    subst hv
    exact ⟨A, c, he, ((Bel.refl W).alloc _).trans ((Bel.refl _).grown hg (fun k hk => by cases hk))⟩)
  go_enter Try.func10, Try.ntmps10
  go_wp2_with fail
  refine (X1.out _).mono ?_
  rintro e w1 ⟨A1, c1, rfl, hb1⟩
  go_wp2_with fail
  refine (X2.out _).mono ?_
  rintro e w2 ⟨A2, c2, rfl, hb2⟩
  go_wp2
  go_ret
  exact ⟨rfl, hb1.trans hb2⟩
end Go.Proofs.Ytfkopkjioohgoaa
