/- The statements' raw sets: how great they are, how they are opened. -/
import Derived.Test.YtbfbhacdllhddaaGreatPureL
import Derived.Test.YtbfbhacdllhddaaGreatOf7
import Derived.Test.YtbfbhacdllhddaaGreatMB
set_option linter.unusedVariables false
set_option linter.unusedSimpArgs false
set_option linter.all false
namespace Go.Cb
theorem rawM_per (l : SemS) (k5 k6 k4 : Nat) : (rawM (l.take k5) k6 k4).length ≤ k5 ∧ ∀ x ∈ rawM (l.take k5) k6 k4, x.2.length ≤ k4 := by
  refine ⟨by unfold rawM; rw [List.length_map, List.length_take]; omega, fun x hx => ?_⟩
  unfold rawM at hx
  obtain ⟨y, _, rfl⟩ := List.mem_map.1 hx
  show ((y.2.take k4).map _).length ≤ _
  rw [List.length_map, List.length_take]; omega
theorem ofRaw_per (l : SemS) (n : List Int) (how m : Int) (k5 k6 k4 : Nat) (h5 : k5 ≤ 6) (h4 : k4 ≤ 8) : (ofRaw l n how m k5 k6 k4).length ≤ 6 ∧ ∀ x ∈ ofRaw l n how m k5 k6 k4, x.2.length ≤ 8 := by
  unfold ofRaw
  split
  · obtain ⟨a, b⟩ := rawM_per l k5 k6 k4
    exact ⟨by omega, fun x hx => Nat.le_trans (b x hx) h4⟩
  · obtain ⟨a, b⟩ := playSem_ok n
    exact ⟨b, a.per⟩
end Go.Cb
namespace Go.Proofs.YtbfbhacdllhddaaGreat
open Go.RowKit Go.Cb Go.Sort
abbrev raw7T : Ty Lin := linT
theorem opensRaws7 : Opens Tryz.prog (sl raw7T) (fun x => ∀ r ∈ x, (∀ n ∈ r.1, inI64 n) ∧ ∀ l ∈ r.2, ∀ n ∈ l, inI64 n) 42 :=
  opens_slice Tryz.underlying42 (by kernel_rfl) (opens_struct2 Tryz.underlying97 (by kernel_rfl) (by kernel_rfl) (by kernel_rfl) (by kernel_rfl) (by kernel_rfl) (opens_slice Tryz.underlying22 (by kernel_rfl) (opens_int Tryz.underlying3)) (opens_slice Tryz.underlying23 (by kernel_rfl) (opens_slice Tryz.underlying22 (by kernel_rfl) (opens_int Tryz.underlying3))))
abbrev raw11T : Ty Lin := linT
theorem opensRaws11 : Opens Tryz.prog (sl raw11T) (fun x => ∀ r ∈ x, (∀ n ∈ r.1, inI64 n) ∧ ∀ l ∈ r.2, ∀ n ∈ l, inI64 n) 48 :=
  opens_slice Tryz.underlying48 (by kernel_rfl) (opens_struct2 Tryz.underlying101 (by kernel_rfl) (by kernel_rfl) (by kernel_rfl) (by kernel_rfl) (by kernel_rfl) (opens_slice Tryz.underlying22 (by kernel_rfl) (opens_int Tryz.underlying3)) (opens_slice Tryz.underlying23 (by kernel_rfl) (opens_slice Tryz.underlying22 (by kernel_rfl) (opens_int Tryz.underlying3))))
end Go.Proofs.YtbfbhacdllhddaaGreat
