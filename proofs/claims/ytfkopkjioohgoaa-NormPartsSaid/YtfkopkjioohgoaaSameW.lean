/- Walks: a pattern's copy. -/
import Derived.Test.YtfkopkjioohgoaaPureE
import Derived.Test.YtfkopkjioohgoaaMK
import Derived.Test.YtfkopkjioohgoaaNormW
set_option linter.unusedVariables false
set_option linter.unusedSimpArgs false
set_option linter.all false
namespace Go.Proofs.Ytfkopkjioohgoaa
open Go.RowKit Go.Cb Go.Sort
theorem infoPN : (Try.prog.info? 35).map (fun i => (i.zero, i.size, i.bytes)) = some (some (.agg #[.int .i64 0, .int .i64 0, .int .i64 0, .int .i64 0, .string ByteArray.empty]), 5, 48) := by kernel_rfl
set_option maxHeartbeats 4000000 in
theorem copyP_c (S : Nat → Prop) (A : Option Addr) (c : Nat) (l : List PN) (w : World) (h : Rd patT w S A c l) (n : Nat) (hn : n = l.length) (hl : l.length ≤ 24) :
    Calls Try.prog 11 #[.slice A n c] w fun e w' => ∃ v, e = .returned v ∧ Own patT 35 w' w.heap.size (Ge w.heap.size) v l ∧ Bel w w' := by
  subst hn
  have H := Lib.hid h
  clear h
  go_enter Try.func11, Try.ntmps11
  go_wp2_with (at_builtin; go_loud (refine wp_append patT (w0 := w) 23 35 (.agg #[.int .i64 0, .int .i64 0, .int .i64 0, .int .i64 0, .string ByteArray.empty]) 48 rfl _ _ rfl Try.underlying23 infoPN rfl (Ge w.heap.size) S _ [] l A _ c rfl rfl rfl (Own.nil _ _ _ _ _) H.out (fun _ _ h => h) (Bel.refl _) (by simp [maxLen]; omega) (by simp; omega) ?_); rintro v1 w1 ho hb1 _ _; rw [List.nil_append] at ho)
  go_ret
  exact ⟨_, rfl, ho, hb1⟩
end Go.Proofs.Ytfkopkjioohgoaa
