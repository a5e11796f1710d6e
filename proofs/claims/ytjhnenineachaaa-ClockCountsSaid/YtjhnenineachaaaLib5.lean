/- The library: regions that draw their order and whose calls may lay blocks. -/
import Derived.Test.YtjhnenineachaaaLib4
import Derived.Lib.QuietBelow
import Derived.BigQuiet
set_option linter.unusedVariables false
set_option linter.unusedSimpArgs false
set_option linter.all false
namespace Go.Cb
open Go.RowKit Go.Sort
theorem bel_regrown (w : World) (d : Nat) (os : Array Obj) : Bel w (grow (redrawn w d) os) := ⟨below_regrown w d os⟩
/-- A call in such a region: its contract, in every world in which what was there is as it was. -/
theorem callsReg {P : Program} {f : FuncId} {args : Array Value} {w : World} {d : Nat} {os : Array Obj} {v : Value}
    (h : ∀ W, Bel w W → Calls P f args W fun e w' => e = .returned v ∧ Bel W w') : Calls P f args (grow (redrawn w d) os) fun e w'' => e = .returned v ∧ ∃ p : Regrown, w'' = grow (redrawn w p.d) p.os :=
  Calls.regrown_of ((h _ (bel_regrown w d os)).mono fun _ _ ⟨a, b⟩ => ⟨a, b.out⟩)
theorem cellReg {w : World} {a : Addr} {v : Value} (h : w.cell? a = some v) : ∀ (d : Nat) (os : Array Obj), (grow (redrawn w d) os).cell? a = some v := fun d os => cell_regrown h d os
end Go.Cb
