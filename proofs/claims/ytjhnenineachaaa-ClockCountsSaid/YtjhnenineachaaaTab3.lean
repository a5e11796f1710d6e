/- Walks of tables: slices.Insert. -/
import Derived.Test.YtjhnenineachaaaTab2
import Derived.Laws.Externs
import Derived.Laws.IdiomCopy
import Derived.Shelf.Spec.SlicesInsert
set_option linter.unusedVariables false
set_option linter.unusedSimpArgs false
set_option linter.all false
namespace Go.Proofs.Ytjhnenineachaaa
open Go.RowKit Go.Cb
theorem info_ii : (Try.prog.info? 56).map (fun i => (i.zero, i.size, i.bytes)) = some (some (.agg #[(.int .i64 0), (.int .i64 0)]), 2, 16) := by kernel_rfl
theorem sizeOf_ii (w : World) : (Go.sizeOf 56).run Try.prog w = .ok 2 w := by kernel_rfl
theorem overlaps_ii (w : World) (vb g o lb cb : Nat) (c1 c2 : Array Value) (t1 t2 : TypeId) (h1 : w.heap[vb]? = some (.cells c1 t1 (0, 0))) (h2 : w.heap[g]? = some (.cells c2 t2 (0, 0))) (hz : c2.size ≠ 0) (hne : vb ≠ g) :
    (callFunc 31 #[.slice (some ⟨vb, 0, none⟩) 1 1, .slice (some ⟨g, o, none⟩) lb cb]).run Try.prog w = .ok (.value (.bool false)) w := by
  rw [run_callFunc_extern Try.func31 (by kernel_rfl) (by kernel_rfl) (by kernel_rfl) (e := Extern.SlicesOverlaps.overlaps #[57, 57] #[4]) (by kernel_rfl),
    Lib.run_overlaps_apart w 57 4 56 Try.underlying57 2 sizeOf_ii ⟨vb, 0, none⟩ ⟨g, o, none⟩ 1 1 lb cb hne t1 t2 c1.size c2.size (by simp [World.shape?, h1]) (by simp [World.shape?, h2]) hz (frozenAt h1 _) (frozenAt h1 _)]
  rfl
end Go.Proofs.Ytjhnenineachaaa
