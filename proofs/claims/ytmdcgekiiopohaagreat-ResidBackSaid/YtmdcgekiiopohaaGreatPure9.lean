/- Plain laws of letters: bits of a word's numbers. -/
import Derived.Test.YtmdcgekiiopohaaGreatMA
import Derived.Laws.BitsAllLaws
set_option linter.unusedVariables false
set_option linter.unusedSimpArgs false
set_option linter.all false
namespace Go.Cb
theorem and1_i64 (x : Int) : bits .and .i64 x 1 = x % 2 := by
  show IntKind.i64.wrap ((BitVec.ofInt 64 x &&& BitVec.ofInt 64 1).toNat : Int) = _
  have h1 : (BitVec.ofInt 64 1).toNat = 1 := rfl
  rw [BitVec.toNat_and, h1, Nat.and_one_is_mod, BitVec.toNat_ofInt]
  have h2 : IntKind.i64.wrap (((x % ((2 ^ 64 : Nat) : Int)).toNat % 2 : Nat) : Int) = (((x % ((2 ^ 64 : Nat) : Int)).toNat % 2 : Nat) : Int) := by
    simp [IntKind.wrap, IntKind.bits, IntKind.signed]
    omega
  rw [h2]
  omega
theorem and1_u64 (x : Int) : bits .and .u64 x 1 = x % 2 := by
  show IntKind.u64.wrap ((BitVec.ofInt 64 x &&& BitVec.ofInt 64 1).toNat : Int) = _
  have h1 : (BitVec.ofInt 64 1).toNat = 1 := rfl
  rw [BitVec.toNat_and, h1, Nat.and_one_is_mod, BitVec.toNat_ofInt, IntKind.wrap_u64]
  omega
def bitI (n : Int) (d : Nat) : Int := (n / 2 ^ d) % 2
theorem bitI_01 (n : Int) (d : Nat) : bitI n d = 0 ∨ bitI n d = 1 := by unfold bitI; omega
def letS (b : List Int) (d : Nat) : Nat → Int
  | 0 => 0
  | k + 1 => letS b d k + bitI (b.getD k 0) d * 2 ^ k
theorem letS_range (b : List Int) (d : Nat) : ∀ k, 0 ≤ letS b d k ∧ letS b d k < 2 ^ k
  | 0 => by simp [letS]
  | k + 1 => by
    have h := letS_range b d k
    rw [letS, Int.pow_succ]
    rcases bitI_01 (b.getD k 0) d with e | e <;> rw [e] <;> omega
theorem or_bit {s v : Int} {k : Nat} (hk : k < 63) (h0 : 0 ≤ s) (h1 : s < 2 ^ k) (hv : v = 0 ∨ v = 1) : bits .or .u64 s (v * 2 ^ k) = s + v * 2 ^ k := by
  obtain ⟨n, rfl⟩ := Int.eq_ofNat_of_zero_le h0
  have hp : (2 : Nat) ^ k ≤ 2 ^ 62 := Nat.pow_le_pow_right (by omega) (by omega)
  have hn : n < 2 ^ k := by exact_mod_cast h1
  rcases hv with rfl | rfl
  · rw [Int.zero_mul, Int.add_zero]
    have := u64_or_nat n 0 (by omega) (by omega)
    simpa using this
  · rw [Int.one_mul]
    have := u64_or_nat n (2 ^ k) (by omega) (by omega)
    rw [show (n ||| 2 ^ k) = n + 2 ^ k from by
      have h := Nat.two_pow_add_eq_or_of_lt hn 1
      rw [Nat.mul_one] at h
      rw [Nat.or_comm, ← h, Nat.add_comm]] at this
    push_cast at this
    exact this
theorem letS_bit (b : List Int) (d : Nat) {t : Nat} : ∀ k, t < k → (letS b d k / 2 ^ t) % 2 = bitI (b.getD t 0) d
  | 0, h => absurd h (by omega)
  | k + 1, h => by
    have hr := letS_range b d k
    have hv := bitI_01 (b.getD k 0) d
    have hpt : (0 : Int) < 2 ^ t := Int.pow_pos (by omega)
    rw [letS]
    by_cases e : t = k
    · subst e
      rw [Int.add_mul_ediv_right _ _ (by omega), Int.ediv_eq_zero_of_lt hr.1 hr.2]
      omega
    · have ih := letS_bit b d (t := t) k (by omega)
      have e2 : (2 : Int) ^ k = 2 ^ (k - t - 1) * 2 * 2 ^ t := by
        rw [show (2 : Int) ^ (k - t - 1) * 2 = 2 ^ (k - t) from by rw [← Int.pow_succ]; congr 1; omega, ← Int.pow_add, show k - t + t = k by omega]
      rw [e2, ← Int.mul_assoc, ← Int.mul_assoc, Int.add_mul_ediv_right _ _ (by omega), Int.add_mul_emod_self_right]
      exact ih
theorem letS_out (b : List Int) (d : Nat) {t k : Nat} (h : k ≤ t) : letS b d k / 2 ^ t = 0 := by
  have hr := letS_range b d k
  have hp : (2 : Int) ^ k ≤ 2 ^ t := by
    have := Nat.pow_le_pow_right (n := 2) (by omega) h
    exact_mod_cast this
  exact Int.ediv_eq_zero_of_lt hr.1 (by omega)
def lettI (b : List Int) (d : Int) : Int := if rightB b = true ∧ 0 ≤ d ∧ d ≤ 62 then letS b d.toNat b.length else 0
theorem mod_step {n : Int} (h : 0 ≤ n) (d : Nat) : n % 2 ^ d + bitI n d * 2 ^ d = n % 2 ^ (d + 1) := by
  obtain ⟨m, rfl⟩ := Int.eq_ofNat_of_zero_le h
  unfold bitI
  have := Nat.mod_pow_succ (x := m) (b := 2) (k := d)
  have h2 : ((m % 2 ^ (d + 1) : Nat) : Int) = ((m % 2 ^ d + 2 ^ d * (m / 2 ^ d % 2) : Nat) : Int) := by rw [this]
  push_cast at h2
  rw [h2, Int.mul_comm]
theorem let_next {b : List Int} {m k : Nat} {x : Int} (hk : k < b.length) (hx : b[k] = x) (lm : b.length ≤ 12) :
    bits .or .u64 (letS b m k) (IntKind.u64.wrap (IntKind.u64.wrap (bits .and .i64 (x / 2 ^ m) 1) * 2 ^ k)) = letS b m (k + 1) := by
  have hg : b.getD k 0 = x := by rw [List.getD_eq_getElem?_getD, List.getElem?_eq_getElem hk, hx]; rfl
  have hr := letS_range b m k
  have hp : (2 : Nat) ^ k ≤ 2 ^ 12 := Nat.pow_le_pow_right (by omega) (by omega)
  have hq : (0 : Nat) < 2 ^ k := Nat.pow_pos (by omega)
  have ep : ((2 ^ k : Nat) : Int) = (2 : Int) ^ k := by push_cast; rfl
  have hp' : (2 : Int) ^ k ≤ 4096 := by rw [← ep]; omega
  have hq' : (0 : Int) < 2 ^ k := by rw [← ep]; omega
  rw [letS, hg, and1_i64]
  have e : (x / 2 ^ m) % 2 = bitI x m := rfl
  rw [e]
  have hv := bitI_01 x m
  have hw : IntKind.u64.wrap (IntKind.u64.wrap (bitI x m) * 2 ^ k) = bitI x m * 2 ^ k := by
    rcases hv with e | e <;> rw [e]
    · rw [show IntKind.u64.wrap 0 = 0 from rfl, Int.zero_mul]; rfl
    · rw [show IntKind.u64.wrap 1 = 1 from rfl, Int.one_mul, IntKind.wrap_u64]; exact Int.emod_eq_of_lt (by omega) (by omega)
  rw [hw]
  exact or_bit (by omega) hr.1 hr.2 hv
theorem lettI_in {b : List Int} {m : Nat} (hr : rightB b = true) (hm : m ≤ 62) : lettI b m = letS b m b.length := by
  unfold lettI
  rw [if_pos ⟨hr, by omega, by omega⟩]
  rfl
theorem lettI_out {b : List Int} {D : Int} (h : rightB b = false ∨ D < 0 ∨ 62 < D) : lettI b D = 0 := by
  unfold lettI
  rw [if_neg]
  rintro ⟨h1, h2, h3⟩
  rcases h with h | h | h
  · rw [h1] at h; cases h
  · omega
  · omega
end Go.Cb
