/- Walks of tables: slices.Insert. -/
import Derived.Test.YtamihjibdcccmaaTab2
import Derived.Laws.Externs
import Derived.Laws.IdiomCopy
import Derived.Shelf.Spec.SlicesInsert
set_option linter.unusedVariables false
set_option linter.unusedSimpArgs false
set_option linter.all false
namespace Go.Proofs.Ytamihjibdcccmaa
open Go.RowKit Go.Cb
theorem info_ii : (Try.prog.info? 73).map (fun i => (i.zero, i.size, i.bytes)) = some (some (.agg #[(.int .i64 0), (.int .i64 0)]), 2, 16) := by kernel_rfl
theorem sizeOf_ii (w : World) : (Go.sizeOf 73).run Try.prog w = .ok 2 w := by kernel_rfl
theorem overlaps_ii (w : World) (vb g o lb cb : Nat) (c1 c2 : Array Value) (t1 t2 : TypeId) (h1 : w.heap[vb]? = some (.cells c1 t1 (0, 0))) (h2 : w.heap[g]? = some (.cells c2 t2 (0, 0))) (hz : c2.size ≠ 0) (hne : vb ≠ g) :
    (callFunc 39 #[.slice (some ⟨vb, 0, none⟩) 1 1, .slice (some ⟨g, o, none⟩) lb cb]).run Try.prog w = .ok (.value (.bool false)) w := by
  rw [run_callFunc_extern Try.func39 (by kernel_rfl) (by kernel_rfl) (by kernel_rfl) (e := Extern.SlicesOverlaps.overlaps #[69, 69] #[4]) (by kernel_rfl),
    Lib.run_overlaps_apart w 69 4 73 Try.underlying69 2 sizeOf_ii ⟨vb, 0, none⟩ ⟨g, o, none⟩ 1 1 lb cb hne t1 t2 c1.size c2.size (by simp [World.shape?, h1]) (by simp [World.shape?, h2]) hz (frozenAt h1 _) (frozenAt h1 _)]
  rfl
end Go.Proofs.Ytamihjibdcccmaa
