/- Walks: words, more. -/
import Derived.Test.YtjhnenineachaaaBag1
set_option linter.unusedVariables false
set_option linter.unusedSimpArgs false
set_option linter.all false
namespace Go.Proofs.Ytjhnenineachaaa
open Go.RowKit Go.Cb

theorem info_int : (Try.prog.info? 3).map (fun i => (i.zero, i.size, i.bytes)) = some (some (.int .i64 0), 1, 8) := by kernel_rfl

theorem own_lit0 {α : Type} (d : Ty α) (e : TypeId) (W : World) (base : Nat) (S : Nat → Prop) (hb : base ≤ W.heap.size) : Own d e (W.alloc (.cells #[] e)) base S (.slice (some ⟨W.heap.size, 0, none⟩) 0 0) [] :=
  ⟨[], World.ownsRow_lit W #[] 0 hb (by simp [maxLen]) (by simp), fun j x hj => by simp at hj⟩




end Go.Proofs.Ytjhnenineachaaa
