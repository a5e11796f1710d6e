/- Plain laws: a word of a set is read to the end. -/
import Derived.Test.YtmdcgekiiopohaaGreatAutL
set_option linter.unusedVariables false
set_option linter.unusedSimpArgs false
set_option linter.all false
namespace Go.Cb
/-- So many times each period, at a tag. -/
def dotF (f : Nat → Nat) (t : Nat) : List (List Int) → Nat → Int
  | [], _ => 0
  | p :: r, i => (f i : Int) * p.getD t 0 + dotF f t r (i + 1)
theorem sumB_dot (k t : Nat) : ∀ (ps : List (List Int)) (i : Nat), sumB k t ps i = dotF (fun i => k / 2 ^ i % 2) t ps i
  | [], _ => rfl
  | p :: r, i => by rw [sumB, dotF, sumB_dot k t r (i + 1)]
theorem dotF_congr {f g : Nat → Nat} {t : Nat} : ∀ {ps : List (List Int)} {i : Nat}, (∀ j, i ≤ j → j < i + ps.length → f j = g j) → dotF f t ps i = dotF g t ps i
  | [], _, _ => rfl
  | p :: r, i, h => by
    rw [dotF, dotF, h i (Nat.le_refl _) (by simp), dotF_congr (ps := r) (i := i + 1) (fun j h1 h2 => h j (by omega) (by simp only [List.length_cons]; omega))]
theorem dotF_split (f : Nat → Nat) (t : Nat) : ∀ (ps : List (List Int)) (i : Nat), dotF f t ps i = dotF (fun j => f j % 2) t ps i + 2 * dotF (fun j => f j / 2) t ps i
  | [], _ => rfl
  | p :: r, i => by
    rw [dotF, dotF, dotF, dotF_split f t r (i + 1)]
    have h : ((f i : Nat) : Int) = ((f i % 2 : Nat) : Int) + 2 * ((f i / 2 : Nat) : Int) := by omega
    rw [h, Int.add_mul, Int.mul_assoc]
    omega
theorem dotF_nonneg {f : Nat → Nat} {t : Nat} : ∀ {ps : List (List Int)} {i : Nat}, (∀ p ∈ ps, 0 ≤ p.getD t 0) → 0 ≤ dotF f t ps i
  | [], _, _ => Int.le_refl _
  | p :: r, i, h => by
    rw [dotF]
    have h1 := dotF_nonneg (f := f) (ps := r) (i := i + 1) (fun q hq => h q (by simp [hq]))
    have h2 : 0 ≤ (f i : Int) * p.getD t 0 := Int.mul_nonneg (by omega) (h p (by simp))
    omega
theorem mask_ex (g : Nat → Nat) (hg : ∀ i, g i ≤ 1) : ∀ m, ∃ k, k < 2 ^ m ∧ ∀ i, i < m → k / 2 ^ i % 2 = g i
  | 0 => ⟨0, by simp, fun i hi => absurd hi (by omega)⟩
  | m + 1 => by
    obtain ⟨k, h1, h2⟩ := mask_ex g hg m
    have hp : 2 ^ (m + 1) = 2 ^ m * 2 := Nat.pow_succ _ _
    have hgm := hg m
    have h01 : g m = 0 ∨ g m = 1 := by omega
    rcases h01 with e | e
    · refine ⟨k, by omega, fun i hi => ?_⟩
      by_cases hi2 : i < m
      · exact h2 i hi2
      · obtain rfl : i = m := by omega
        rw [Nat.div_eq_of_lt h1, e]
    · refine ⟨k + 2 ^ m, by omega, fun i hi => ?_⟩
      by_cases hi2 : i < m
      · have hs : 2 ^ m = 2 ^ i * (2 * 2 ^ (m - i - 1)) := by
          rw [← Nat.pow_succ', ← Nat.pow_add]; congr 1; omega
        rw [hs, Nat.add_mul_div_left _ _ (Nat.pow_pos (by decide)), Nat.add_mul_mod_self_left]
        exact h2 i hi2
      · obtain rfl : i = m := by omega
        rw [Nat.add_div_right _ (Nat.pow_pos (by decide)), Nat.div_eq_of_lt h1, e]
theorem letS_more (b : List Int) (d : Nat) : ∀ (n m : Nat), b.length ≤ n → letS b d (n + m) = letS b d n
  | n, 0, _ => rfl
  | n, m + 1, h => by
    show letS b d (n + m) + bitI (b.getD (n + m) 0) d * 2 ^ (n + m) = _
    rw [letS_more b d n m h, List.getD_eq_getElem?_getD, List.getElem?_eq_none (by omega)]
    have : bitI ((none : Option Int).getD 0) d = 0 := by unfold bitI; simp
    rw [this]; omega
theorem letS_at4 {b : List Int} (d : Nat) (h : b.length ≤ 4) : letS b d b.length = letS b d 4 := by
  have := letS_more b d b.length (4 - b.length) (Nat.le_refl _)
  rw [show b.length + (4 - b.length) = 4 by omega] at this
  exact this.symm
theorem letS_congr {a b : List Int} {d e : Nat} : ∀ (n : Nat), (∀ t, t < n → bitI (a.getD t 0) d = bitI (b.getD t 0) e) → letS a d n = letS b e n
  | 0, _ => rfl
  | n + 1, h => by
    show letS a d n + bitI (a.getD n 0) d * 2 ^ n = letS b e n + bitI (b.getD n 0) e * 2 ^ n
    rw [letS_congr n (fun t ht => h t (by omega)), h n (by omega)]
/-- How far a word is read: an item of set j holds what is left. -/
def ReadTo (s : SemS) (j : Nat) (w : List Int) (f : Nat → Nat) (d : Nat) (l : List Itm) : Prop :=
  ∃ c, (((j : Int), c) : Itm) ∈ l ∧ ∀ t, w.getD t 0 / 2 ^ d = c.getD t 0 + dotF (fun i => f i / 2 ^ d) t (s.getD j ([], [])).2 0
theorem read_step {s : SemS} (hs : SetP s) {l l' : List Itm} (h : BoxI s l) {j : Nat} (hj : j < s.length) {w : List Int} (hw : rightB w = true) (hw4 : w.length ≤ 4) {f : Nat → Nat} {d : Nat} (hd : d ≤ 62) (hr : ReadTo s j w f d l)
    (hm : ∀ y, y ∈ l' ↔ ∃ x ∈ l, ∃ k, k < 2 ^ (psOf s x).length ∧ ∃ b, pickF k (psOf s x) 0 x.2 = some b ∧ lettI b 0 = lettI w (d : Int) ∧ y = (x.1, halfB b)) : ReadTo s j w f (d + 1) l' := by
  obtain ⟨c, hc, he⟩ := hr
  have hps : psOf s ((j : Int), c) = (s.getD j ([], [])).2 := by unfold psOf; rw [Int.toNat_natCast]
  obtain ⟨h8, hp⟩ := box_pick hs (x := ((j : Int), c)) rfl hj (h.rb _ hc) (h.len _ hc) (h.le _ hc)
  rw [hps] at h8 hp
  obtain ⟨ps, hpe⟩ : ∃ ps, (s.getD j ([], [])).2 = ps := ⟨_, rfl⟩
  rw [hpe] at h8 hp hps he
  obtain ⟨k, hk1, hk2⟩ := mask_ex (fun i => f i / 2 ^ d % 2) (fun i => by have := Nat.mod_lt (f i / 2 ^ d) (show 0 < 2 by decide); show f i / 2 ^ d % 2 ≤ 1; omega) ps.length
  obtain ⟨b, b1, b2, b3, b4, b5⟩ := hp k
  have hsum : ∀ t, b.getD t 0 = c.getD t 0 + dotF (fun i => f i / 2 ^ d % 2) t ps 0 := fun t => by
    rw [b5 t, sumB_dot]
    congr 1
    exact dotF_congr (fun i _ hi => by rw [Nat.zero_add] at hi; exact hk2 i hi)
  have hdd : ∀ t, w.getD t 0 / 2 ^ d = b.getD t 0 + 2 * dotF (fun i => f i / 2 ^ (d + 1)) t ps 0 := fun t => by
    rw [he t, dotF_split, hsum t]
    have : dotF (fun j => f j / 2 ^ d / 2) t ps 0 = dotF (fun i => f i / 2 ^ (d + 1)) t ps 0 := dotF_congr (fun i _ _ => by rw [Nat.div_div_eq_div_mul, ← Nat.pow_succ])
    rw [this]
    omega
  have hlet : lettI b 0 = lettI w (d : Int) := by
    have h1 := lettI_in (m := 0) b2 (by omega)
    have h2 := lettI_in (m := d) hw hd
    rw [show ((0 : Nat) : Int) = 0 from rfl] at h1
    rw [h1, h2, letS_at4 0 b3, letS_at4 d hw4]
    refine letS_congr 4 (fun t _ => ?_)
    unfold bitI
    rw [hdd t, Int.pow_zero, Int.ediv_one]
    omega
  refine ⟨halfB b, (hm _).2 ⟨((j : Int), c), hc, k, by rw [hps]; exact hk1, b, by rw [hps]; exact b1, hlet, rfl⟩, fun t => ?_⟩
  rw [halfB_getD b2, hpe]
  have h3 : w.getD t 0 / 2 ^ (d + 1) = w.getD t 0 / 2 ^ d / 2 := by
    rw [Int.pow_succ, Int.ediv_ediv_eq_ediv_mul' ]
  rw [h3, hdd t]
  omega
where
  Int.ediv_ediv_eq_ediv_mul' {a : Int} {d : Nat} : a / (2 ^ d * 2) = a / 2 ^ d / 2 := by
    rw [Int.ediv_ediv_of_nonneg]
    exact Int.pow_nonneg (by decide)
theorem read_done {s : SemS} (hs : SetP s) {l : List Itm} (h : BoxI s l) {j : Nat} (hj : j < s.length) {w : List Int} {f : Nat → Nat} {d : Nat} (hr : ReadTo s j w f d l) (h0 : ∀ t, w.getD t 0 / 2 ^ d = 0) : (l.any fun x => x.2.length == 0) = true := by
  obtain ⟨c, hc, he⟩ := hr
  refine List.any_eq_true.2 ⟨_, hc, ?_⟩
  have hcr := h.rb _ hc
  have hce : c = [] := right_ext hcr rfl (fun t => by
    have h1 := he t
    rw [h0 t] at h1
    have h2 := (right_getD hcr t).1
    dsimp only at h2
    have h3 : 0 ≤ dotF (fun i => f i / 2 ^ d) t (s.getD j ([], [])).2 0 := dotF_nonneg (fun p hp => by
      rw [getDs_of hj] at hp
      exact (right_getD (hs.pl _ (List.getElem_mem hj) p hp).1 t).1)
    rw [getD0_nil]
    omega)
  simp [hce]
theorem read_start {s : SemS} (hs : SetP s) {j : Nat} (hj : j < s.length) {w : List Int} {f : Nat → Nat} (h : ∀ t, w.getD t 0 = (s.getD j ([], [])).1.getD t 0 + dotF f t (s.getD j ([], [])).2 0) : ReadTo s j w f 0 (startS s) := by
  refine ⟨s[j].1, ?_, fun t => ?_⟩
  · have e : startS s = s.mapIdx fun j x => ((j : Int), x.1) := by unfold startS; rw [if_pos hs.right]
    rw [e]
    exact List.mem_mapIdx.2 ⟨j, hj, rfl⟩
  · rw [Int.pow_zero, Int.ediv_one, h t, getDs_of hj]
    congr 1
    exact dotF_congr (fun i _ _ => by simp)
theorem dotF_snoc (f : Nat → Nat) (t : Nat) (p : List Int) : ∀ (ps : List (List Int)) (i : Nat), dotF f t (ps ++ [p]) i = dotF f t ps i + (f (i + ps.length) : Int) * p.getD t 0
  | [], i => by simp [dotF]
  | q :: r, i => by
    rw [List.cons_append, dotF, dotF, dotF_snoc f t p r (i + 1), List.length_cons, show i + 1 + r.length = i + (r.length + 1) by omega]
    omega
end Go.Cb
