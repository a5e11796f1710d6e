/- Walks of tables: slices.Insert. -/
import Derived.Test.YtcnbmpkbocnniaaTab2
import Derived.Laws.Externs
import Derived.Laws.IdiomCopy
import Derived.Shelf.Spec.SlicesInsert
namespace Go.Proofs.Ytcnbmpkbocnniaa
open Go.RowKit Go.Cb
theorem info_ii : (Try.prog.info? 96).map (fun i => (i.zero, i.size, i.bytes)) = some (some (.agg #[(.int .i64 0), (.int .i64 0)]), 2, 16) := by kernel_rfl
theorem sizeOf_ii (w : World) : (Go.sizeOf 96).run Try.prog w = .ok 2 w := by kernel_rfl
theorem overlaps_ii (w : World) (vb g o lb cb : Nat) (c1 c2 : Array Value) (t1 t2 : TypeId) (h1 : w.heap[vb]? = some (.cells c1 t1 (0, 0))) (h2 : w.heap[g]? = some (.cells c2 t2 (0, 0))) (hz : c2.size ≠ 0) (hne : vb ≠ g) :
    (callFunc 77 #[.slice (some ⟨vb, 0, none⟩) 1 1, .slice (some ⟨g, o, none⟩) lb cb]).run Try.prog w = .ok (.value (.bool false)) w := by
  rw [run_callFunc_extern Try.func77 (by kernel_rfl) (by kernel_rfl) (by kernel_rfl) (e := Extern.SlicesOverlaps.overlaps #[91, 91] #[4]) (by kernel_rfl),
    Lib.run_overlaps_apart w 91 4 96 Try.underlying91 2 sizeOf_ii ⟨vb, 0, none⟩ ⟨g, o, none⟩ 1 1 lb cb hne t1 t2 c1.size c2.size (by simp [World.shape?, h1]) (by simp [World.shape?, h2]) hz (frozenAt h1 _) (frozenAt h1 _)]
  rfl
theorem info_is : (Try.prog.info? 123).map (fun i => (i.zero, i.size, i.bytes)) = some (some (.agg #[(.int .i64 0), (.string ⟨#[]⟩)]), 2, 24) := by kernel_rfl
theorem sizeOf_is (w : World) : (Go.sizeOf 123).run Try.prog w = .ok 2 w := by kernel_rfl
theorem overlaps_is (w : World) (vb g o lb cb : Nat) (c1 c2 : Array Value) (t1 t2 : TypeId) (h1 : w.heap[vb]? = some (.cells c1 t1 (0, 0))) (h2 : w.heap[g]? = some (.cells c2 t2 (0, 0))) (hz : c2.size ≠ 0) (hne : vb ≠ g) :
    (callFunc 86 #[.slice (some ⟨vb, 0, none⟩) 1 1, .slice (some ⟨g, o, none⟩) lb cb]).run Try.prog w = .ok (.value (.bool false)) w := by
  rw [run_callFunc_extern Try.func86 (by kernel_rfl) (by kernel_rfl) (by kernel_rfl) (e := Extern.SlicesOverlaps.overlaps #[118, 118] #[4]) (by kernel_rfl),
    Lib.run_overlaps_apart w 118 4 123 Try.underlying118 2 sizeOf_is ⟨vb, 0, none⟩ ⟨g, o, none⟩ 1 1 lb cb hne t1 t2 c1.size c2.size (by simp [World.shape?, h1]) (by simp [World.shape?, h2]) hz (frozenAt h1 _) (frozenAt h1 _)]
  rfl
theorem info_ss : (Try.prog.info? 85).map (fun i => (i.zero, i.size, i.bytes)) = some (some (.agg #[(.string ⟨#[]⟩), (.slice none 0 0)]), 2, 40) := by kernel_rfl
theorem sizeOf_ss (w : World) : (Go.sizeOf 85).run Try.prog w = .ok 2 w := by kernel_rfl
theorem overlaps_ss (w : World) (vb g o lb cb : Nat) (c1 c2 : Array Value) (t1 t2 : TypeId) (h1 : w.heap[vb]? = some (.cells c1 t1 (0, 0))) (h2 : w.heap[g]? = some (.cells c2 t2 (0, 0))) (hz : c2.size ≠ 0) (hne : vb ≠ g) :
    (callFunc 70 #[.slice (some ⟨vb, 0, none⟩) 1 1, .slice (some ⟨g, o, none⟩) lb cb]).run Try.prog w = .ok (.value (.bool false)) w := by
  rw [run_callFunc_extern Try.func70 (by kernel_rfl) (by kernel_rfl) (by kernel_rfl) (e := Extern.SlicesOverlaps.overlaps #[78, 78] #[4]) (by kernel_rfl),
    Lib.run_overlaps_apart w 78 4 85 Try.underlying78 2 sizeOf_ss ⟨vb, 0, none⟩ ⟨g, o, none⟩ 1 1 lb cb hne t1 t2 c1.size c2.size (by simp [World.shape?, h1]) (by simp [World.shape?, h2]) hz (frozenAt h1 _) (frozenAt h1 _)]
  rfl
end Go.Proofs.Ytcnbmpkbocnniaa
