/- Walks: a carry with some of the periods, the document's; what is odd in a word, and half of it. -/
import Derived.Test.YtmdcgekiiopohaaGreatAut5
import Derived.Test.YtmdcgekiiopohaaGreatMB
set_option linter.unusedVariables false
set_option linter.unusedSimpArgs false
set_option linter.all false
namespace Go.Cb
theorem bit_one {k i : Nat} (h : (k / 2 ^ i) % 2 = 1) : (bits .and .i64 ((k : Int) / 2 ^ i) 1 == 1) = true := by
  rw [and1_i64]
  have : ((k : Int) / 2 ^ i) = ((k / 2 ^ i : Nat) : Int) := by push_cast; rfl
  rw [this]
  exact beq_iff_eq.2 (by omega)
theorem bit_nought {k i : Nat} (h : ¬ (k / 2 ^ i) % 2 = 1) : (bits .and .i64 ((k : Int) / 2 ^ i) 1 == 1) = false := by
  rw [and1_i64]
  have : ((k : Int) / 2 ^ i) = ((k / 2 ^ i : Nat) : Int) := by push_cast; rfl
  rw [this]
  exact beq_eq_false_iff_ne.2 (by omega)
def halfZ (b : List Int) (k : Nat) : List Int := (b.take k).map (· / 2) ++ List.replicate (b.length - k) 0
theorem halfZ_len {b : List Int} {k : Nat} (h : k ≤ b.length) : (halfZ b k).length = b.length := by simp [halfZ]; omega
theorem halfZ_zero (b : List Int) : halfZ b 0 = List.replicate b.length 0 := by simp [halfZ]
theorem halfZ_all (b : List Int) : halfZ b b.length = b.map (· / 2) := by simp [halfZ]
theorem halfZ_set {b : List Int} {k : Nat} (h : k < b.length) : (halfZ b k).set k (b[k] / 2) = halfZ b (k + 1) := by
  unfold halfZ
  rw [List.set_append_right _ _ (by simp; omega), List.length_map, List.length_take, Nat.min_eq_left (by omega), Nat.sub_self, show b.length - k = (b.length - (k + 1)) + 1 by omega, List.replicate_succ, List.set_cons_zero, List.take_add_one, List.getElem?_eq_getElem h]
  simp only [Option.toList_some, List.map_append, List.map_cons, List.map_nil, List.append_assoc, List.singleton_append]
theorem let_next0 {b : List Int} {k : Nat} {x : Int} (hk : k < b.length) (hx : b[k] = x) (lm : b.length ≤ 12) :
    bits .or .u64 (letS b 0 k) (IntKind.u64.wrap (IntKind.u64.wrap (bits .and .i64 x 1) * 2 ^ k)) = letS b 0 (k + 1) := by
  have := let_next (m := 0) hk hx lm
  rwa [Int.pow_zero, Int.ediv_one] at this
end Go.Cb
namespace Go.Proofs.YtmdcgekiiopohaaGreat
open Go.RowKit Go.Cb Go.Sort
end Go.Proofs.YtmdcgekiiopohaaGreat
