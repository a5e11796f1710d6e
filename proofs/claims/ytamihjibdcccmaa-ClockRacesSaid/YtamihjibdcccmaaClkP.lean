/- The library: pairs compared. -/
import Derived.Test.YtamihjibdcccmaaClk7
import Derived.ChangeKeysEq
import Derived.Laws.StructEq
set_option linter.unusedVariables false
set_option linter.unusedSimpArgs false
set_option linter.all false
namespace Go.Proofs.Ytamihjibdcccmaa
open Go.RowKit Go.Cb Go.Sort
theorem equalIn_pair (w : World) (a b c d : Int) : (Op.equalIn 10000 34 (.agg #[.int .i64 a, .int .i64 b]) (.agg #[.int .i64 c, .int .i64 d])).run Try.prog w = .ok (a == c && b == d) w := by
  have hu : Try.prog.underlying 34 = some (.array 2 3) := by kernel_rfl
  have hm : (Try.prog.info? 3).map (fun i => i.size) = some 1 := by kernel_rfl
  obtain ⟨i, hi, _⟩ := Option.map_eq_some_iff.1 hm
  have hc : Try.prog.cellsOf 3 = 1 := by kernel_rfl
  have hui : Try.prog.underlying 3 = some (.int .i64) := by kernel_rfl
  rw [show (10000 : Nat) = 9999 + 1 from rfl, run_equalIn_array w 9999 _ _ hu hi, hc]
  have h1 : List.range 2 = [0, 1] := rfl
  rw [h1]
  have pa : ∀ (x y : Int), (part 3 #[.int .i64 x, .int .i64 y] (0 * 1)).run Try.prog w = .ok (.int .i64 x) w := fun x y => by kernel_rfl
  have pb : ∀ (x y : Int), (part 3 #[.int .i64 x, .int .i64 y] (1 * 1)).run Try.prog w = .ok (.int .i64 y) w := fun x y => by kernel_rfl
  have e1 : ∀ x y : Int, (Op.equalIn 9999 3 (.int .i64 x) (.int .i64 y)).run Try.prog w = .ok (x == y) w := fun x y => run_equalIn_int w 9998 _ .i64 .i64 x y hui
  simp only [Op.eqItems, Sem.run_bind, pa, pb, Result.andThen_ok, e1]
  cases (a == c)
  · simp
  · simp only [Bool.not_true, Bool.false_eq_true, if_false, Sem.run_bind, pb, Result.andThen_ok, e1, Bool.true_and]
    cases (b == d) <;> simp
@[go_sem] theorem neq_pair (w : World) (a b c d : Int) : (binOp .neq 34 (.agg #[.int .i64 a, .int .i64 b]) (.agg #[.int .i64 c, .int .i64 d])).run Try.prog w = .ok (.bool (!(a == c && b == d))) w := by
  rw [run_neq_struct, equalIn_pair]
  rfl
attribute [go_sem] equalIn_pair
end Go.Proofs.Ytamihjibdcccmaa
