/- Walks: is it a pattern, the code's. -/
import Derived.Test.YtfkopkjioohgoaaPatW
set_option linter.unusedVariables false
set_option linter.unusedSimpArgs false
set_option linter.all false
namespace Go.Proofs.Ytfkopkjioohgoaa
open Go.RowKit Go.Cb Go.Sort
set_option maxRecDepth 100000 in
set_option maxHeartbeats 8000000 in
theorem check_c (S : Nat → Prop) (A : Option Addr) (c : Nat) (p : List PN) (tags : Int) (w : World) (h : Rd patT w S A c p) (n : Nat) (hn : n = p.length) :
    Calls Try.prog 24 #[.slice A n c, .int .i64 tags] w fun e w' => e = .returned (.bool (chkP p tags)) ∧ Bel w w' := by
  subst hn
  have hal : Bel w (w.alloc (.cells #[.int .i64 tags] 3)) := (Bel.refl _).alloc _
  have hX : (w.alloc (.cells #[.int .i64 tags] 3)).cell? ⟨w.heap.size, 0, none⟩ = some (.int .i64 tags) := cellAt (heap_alloc_new w _) 0
  have HQ := Lib.hid (whole_c w.heap.size _ A c p tags _ (h.to hal) hX _ rfl)
  clear h hX
  generalize chkP p tags = r at *
  go_enter Try.func24, Try.ntmps24
  go_wp2_with fail
  refine HQ.out.mono ?_
  rintro e w1 ⟨rfl, hb1⟩
  go_wp2
  go_ret
  exact ⟨rfl, hal.trans hb1⟩
end Go.Proofs.Ytfkopkjioohgoaa
