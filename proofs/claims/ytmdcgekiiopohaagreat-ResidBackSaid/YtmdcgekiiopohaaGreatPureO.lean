/- Plain laws: what is read to the end is one of the words; what is left when one has come. -/
import Derived.Test.YtmdcgekiiopohaaGreatPureH
import Derived.Test.YtmdcgekiiopohaaGreatPureL
set_option linter.unusedVariables false
set_option linter.unusedSimpArgs false
set_option linter.all false
namespace Go.Cb
/-- One of a set's words. -/
def InW (s : SemS) (w : List Int) : Prop := ∃ x ∈ s, ∃ f : Nat → Nat, ∀ t, w.getD t 0 = x.1.getD t 0 + dotF f t x.2 0
theorem dotF_add (f g : Nat → Nat) (t : Nat) : ∀ (ps : List (List Int)) (i : Nat), dotF (fun j => f j + g j) t ps i = dotF f t ps i + dotF g t ps i
  | [], _ => rfl
  | p :: r, i => by
    rw [dotF, dotF, dotF, dotF_add f g t r (i + 1), Int.natCast_add, Int.add_mul]
    omega
theorem dotF_mul (m : Nat) (f : Nat → Nat) (t : Nat) : ∀ (ps : List (List Int)) (i : Nat), dotF (fun j => m * f j) t ps i = (m : Int) * dotF f t ps i
  | [], _ => by simp [dotF]
  | p :: r, i => by rw [dotF, dotF, dotF_mul m f t r (i + 1), Int.natCast_mul, Int.mul_assoc, Int.mul_add]
theorem bits4 {a b : List Int} {d e : Nat} (h : letS a d 4 = letS b e 4) : ∀ t, t < 4 → bitI (a.getD t 0) d = bitI (b.getD t 0) e := by
  simp only [letS] at h
  have a0 := bitI_01 (a.getD 0 0) d
  have a1 := bitI_01 (a.getD 1 0) d
  have a2 := bitI_01 (a.getD 2 0) d
  have a3 := bitI_01 (a.getD 3 0) d
  have b0 := bitI_01 (b.getD 0 0) e
  have b1 := bitI_01 (b.getD 1 0) e
  have b2 := bitI_01 (b.getD 2 0) e
  have b3 := bitI_01 (b.getD 3 0) e
  intro t ht
  obtain rfl | rfl | rfl | rfl : t = 0 ∨ t = 1 ∨ t = 2 ∨ t = 3 := by omega
  · omega
  · omega
  · omega
  · omega
theorem getD_short {b : List Int} (h : b.length ≤ 4) {t : Nat} (ht : 4 ≤ t) : b.getD t 0 = 0 := by
  rw [List.getD_eq_getElem?_getD, List.getElem?_eq_none (by omega)]; rfl
/-- An item behind so many letters: what it carries is what some of the periods make more than was read. -/
theorem read_sound {s : SemS} (hs : SetP s) {w : List Int} (hw : rightB w = true) (hw4 : w.length ≤ 4) : ∀ d, d ≤ 63 → ∀ y ∈ readS s w d, ∃ f : Nat → Nat, ∀ t, (s.getD y.1.toNat ([], [])).1.getD t 0 + dotF f t (psOf s y) 0 = w.getD t 0 % 2 ^ d + 2 ^ d * y.2.getD t 0
  | 0, _, y, hy => by
    have e : startS s = s.mapIdx fun j x => ((j : Int), x.1) := by unfold startS; rw [if_pos hs.right]
    rw [readS, e] at hy
    obtain ⟨j, hj, rfl⟩ := List.mem_mapIdx.1 hy
    refine ⟨fun _ => 0, fun t => ?_⟩
    rw [dotF_zero, Int.pow_zero, Int.emod_one, Int.toNat_natCast, getDs_of hj]
    dsimp only
    omega
  | d + 1, hd, y, hy => by
    obtain ⟨l', he, _, hm⟩ := next_none hs (readS_box hs w d) (lettI w (d : Int))
    rw [readS, he] at hy
    obtain ⟨x, hx, k, _, b, hb, hl, rfl⟩ := (hm y).1 hy
    obtain ⟨f, hf⟩ := read_sound hs hw hw4 d (by omega) x hx
    have hB := readS_box hs w d
    obtain ⟨j, ej, hj⟩ := hB.at_ x hx
    obtain ⟨_, hp⟩ := box_pick hs ej hj (hB.rb x hx) (hB.len x hx) (hB.le x hx)
    obtain ⟨b', b1, b2, b3, _, b5⟩ := hp k
    rw [hb] at b1
    injection b1 with b1
    subst b1
    have h1 := lettI_in (m := 0) b2 (by omega)
    have h2 := lettI_in (m := d) hw (by omega)
    rw [show ((0 : Nat) : Int) = 0 from rfl] at h1
    rw [h1, h2, letS_at4 0 b3, letS_at4 d hw4] at hl
    refine ⟨fun i => f i + 2 ^ d * (k / 2 ^ i % 2), fun t => ?_⟩
    show (s.getD x.1.toNat ([], [])).1.getD t 0 + dotF (fun i => f i + 2 ^ d * (k / 2 ^ i % 2)) t (psOf s x) 0 = w.getD t 0 % 2 ^ (d + 1) + 2 ^ (d + 1) * (halfB b).getD t 0
    have h5 := b5 t
    have h6 := hf t
    have hbit : b.getD t 0 % 2 = bitI (w.getD t 0) d := by
      by_cases ht : t < 4
      · have := bits4 hl t ht
        rw [← this]
        unfold bitI
        rw [Int.pow_zero, Int.ediv_one]
      · rw [getD_short b3 (by omega), getD_short hw4 (by omega)]
        unfold bitI
        rw [Int.zero_ediv]
    rw [sumB_dot] at h5
    rw [dotF_add, dotF_mul, halfB_getD b2, ← mod_step (right_getD hw t).1 d, ← hbit, Int.natCast_pow, Int.pow_succ]
    show _ + (_ + (2 : Int) ^ d * _) = _
    generalize (2 : Int) ^ d = P at *
    generalize dotF (fun i => k / 2 ^ i % 2) t (psOf s x) 0 = D at *
    generalize dotF f t (psOf s x) 0 = E at *
    generalize (s.getD x.1.toNat ([], [])).1.getD t 0 = F at *
    generalize w.getD t 0 % P = G at *
    have h7 : P * b.getD t 0 = P * x.2.getD t 0 + P * D := by rw [h5, Int.mul_add]
    have h8 : P * b.getD t 0 = b.getD t 0 % 2 * P + P * 2 * (b.getD t 0 / 2) := by
      have h9 : b.getD t 0 = b.getD t 0 % 2 + 2 * (b.getD t 0 / 2) := by omega
      rw [Int.mul_comm (b.getD t 0 % 2) P, Int.mul_assoc, ← Int.mul_add, ← h9]
    omega
theorem hasS_iff {s : SemS} (hs : SetP s) {w : List Int} (hw : rightB w = true) (hw4 : w.length ≤ 4) : hasS s w = true ↔ InW s w := by
  constructor
  · intro h
    unfold hasS at h
    obtain ⟨y, hy, h0⟩ := List.any_eq_true.1 h
    have h0 : y.2 = [] := List.eq_nil_of_length_eq_zero (by simpa using h0)
    obtain ⟨f, hf⟩ := read_sound hs hw hw4 _ (by have := digB_le hw w.length; omega) y hy
    obtain ⟨j, e, hj⟩ := (readS_box hs w _).at_ y hy
    refine ⟨s[j], List.getElem_mem hj, f, fun t => ?_⟩
    have h1 := hf t
    have h2 := digB_zero hw t
    have h3 := Int.emod_add_mul_ediv (w.getD t 0) (2 ^ digB w w.length)
    unfold psOf at h1
    rw [e, Int.toNat_natCast, getDs_of hj, h0, getD0_nil, Int.mul_zero] at h1
    rw [h2, Int.mul_zero] at h3
    omega
  · rintro ⟨x, hx, f, hf⟩
    obtain ⟨j, hj, hjx⟩ := List.mem_iff_getElem.1 hx
    exact hasS_yes hs hj hw hw4 (f := f) (fun t => by rw [getDs_of hj, hjx]; exact hf t)
/-! ### what is left -/
theorem one_getD {tag : Int} (h0 : 0 ≤ tag) (h12 : tag < 12) (t : Nat) : (oneB tag 1).getD t 0 = if t = tag.toNat then 1 else 0 := by
  unfold oneB
  rw [if_pos (by unfold far; omega), List.getD_eq_getElem?_getD]
  by_cases h1 : t < tag.toNat
  · rw [List.getElem?_append_left (by simpa using h1), List.getElem?_replicate, if_pos h1, if_neg (by omega)]; rfl
  · rw [List.getElem?_append_right (by simpa using h1), List.length_replicate]
    by_cases h2 : t = tag.toNat
    · rw [if_pos h2, h2, Nat.sub_self]; rfl
    · rw [if_neg h2, List.getElem?_eq_none (by simp; omega)]; rfl
theorem one_len {tag : Int} (h0 : 0 ≤ tag) (h12 : tag < 12) : (oneB tag 1).length = tag.toNat + 1 := by
  unfold oneB
  rw [if_pos (by unfold far; omega)]
  simp
theorem sub_one {p : List Int} (hp : rightB p = true) {tag : Int} (h0 : 0 ≤ tag) (h12 : tag < 12) (hh : hasB p tag = true) :
    ∃ q, subB p (oneB tag 1) = (q, true) ∧ rightB q = true ∧ q.length ≤ p.length ∧ ∀ t, p.getD t 0 = q.getD t 0 + (oneB tag 1).getD t 0 := by
  unfold hasB at hh
  simp only [Bool.and_eq_true, decide_eq_true_eq] at hh
  have hle : leP p (oneB tag 1) = true := (leP_iff _ _).2 ⟨by rw [one_len h0 h12]; omega, fun i hi => by
    rw [one_getD h0 h12]
    split
    · rename_i e; rw [e]; omega
    · exact (right_getD hp i).1⟩
  have h1 := addB_sub hp (oneB_right tag 1) hle
  have h2 := subB_yes hp (oneB_right tag 1) hle
  refine ⟨(subB p (oneB tag 1)).1, Prod.ext rfl (by rw [h2]), ?_, ?_, fun t => ?_⟩
  · have h3 : (addB (subB p (oneB tag 1)).1 (oneB tag 1)).2 = true := by rw [h1]
    unfold addB at h3
    split at h3
    · rename_i h4; exact h4.1
    · cases h3
  · rw [h2]
    have h5 := cutB_length (subP p (oneB tag 1))
    have h6 := subP_length p (oneB tag 1) ((leP_iff _ _).1 hle).1
    show (cutB _).length ≤ _
    omega
  · have h3 := addB_getD (a := (subB p (oneB tag 1)).1) (b := oneB tag 1) (by rw [h1]) t
    rw [h1] at h3
    exact h3
/-- What one set leaves. -/
def piecesF (tag : Int) (x : Lin) : List Lin := if hasB x.1 tag = true then [((subB x.1 (oneB tag 1)).1, x.2)] else (x.2.filter (fun p => hasB p tag)).map fun p => (lessF x tag p).1
theorem leftF_none (x : Lin) (tag : Int) : ∀ (r : List (List Int)) (acc : List Lin), (∀ p ∈ r, hasB p tag = true → (lessF x tag p).2 = true) → leftF x tag r none acc = (none, acc ++ (r.filter (fun p => hasB p tag)).map (fun p => (lessF x tag p).1), 0)
  | [], acc, _ => by simp [leftF]
  | p :: r, acc, h => by
    rw [leftF]
    by_cases hp : hasB p tag = true
    · rw [if_pos hp, if_pos (show (spendM none 1).2 = true from rfl), if_pos (h p (by simp) hp), List.filter_cons, if_pos hp, show (spendM none 1).1 = none from rfl, leftF_none x tag r _ (fun q hq => h q (by simp [hq]))]
      simp
    · rw [if_neg hp, List.filter_cons, if_neg hp, leftF_none x tag r _ (fun q hq => h q (by simp [hq]))]
theorem byF_none (tag : Int) : ∀ (s : SemS) (acc : List Lin), (∀ x ∈ s, ∀ p ∈ x.2, hasB p tag = true → (lessF x tag p).2 = true) → byF tag s none acc = (none, acc ++ s.flatMap (piecesF tag), 0)
  | [], acc, _ => by simp [byF]
  | x :: r, acc, h => by
    have h1 : leftS x tag none acc = (none, acc ++ piecesF tag x, 0) := by
      unfold leftS piecesF
      rw [if_pos (show (spendM none 1).2 = true from rfl), show (spendM none 1).1 = none from rfl]
      by_cases hb : hasB x.1 tag = true
      · rw [if_pos hb, if_pos hb]
      · rw [if_neg hb, if_neg hb, leftF_none x tag x.2 acc (h x (by simp))]
    rw [byF, h1]
    dsimp only
    rw [if_pos rfl, byF_none tag r _ (fun y hy => h y (by simp [hy])), List.flatMap_cons, List.append_assoc]
theorem pieces_len (tag : Int) : ∀ (s : SemS), (∀ x ∈ s, x.2.length ≤ 4) → (s.flatMap (piecesF tag)).length ≤ 4 * s.length
  | [], _ => by simp
  | x :: r, h => by
    have h1 := pieces_len tag r (fun y hy => h y (by simp [hy]))
    have h2 := h x (by simp)
    have h3 : (piecesF tag x).length ≤ 4 := by
      unfold piecesF
      split
      · simp
      · rw [List.length_map]
        have := List.length_filter_le (fun p => hasB p tag) x.2
        omega
    rw [List.flatMap_cons, List.length_append, List.length_cons]
    omega
theorem dotF_pos {f : Nat → Nat} {t : Nat} : ∀ {ps : List (List Int)} {i : Nat}, (∀ p ∈ ps, 0 ≤ p.getD t 0) → 0 < dotF f t ps i → ∃ j, i ≤ j ∧ j < i + ps.length ∧ 1 ≤ f j ∧ 0 < (ps.getD (j - i) []).getD t 0
  | [], _, _, h => by simp [dotF] at h
  | p :: r, i, hp, h => by
    rw [dotF] at h
    have hp0 := hp p (by simp)
    by_cases h1 : 1 ≤ f i ∧ 0 < p.getD t 0
    · exact ⟨i, Nat.le_refl _, by simp only [List.length_cons]; omega, h1.1, by rw [Nat.sub_self]; exact h1.2⟩
    · have h2 : (f i : Int) * p.getD t 0 = 0 := by
        rcases Nat.eq_zero_or_pos (f i) with e | e
        · rw [e]; simp
        · have : p.getD t 0 = 0 := by
            have : ¬ 0 < p.getD t 0 := fun h9 => h1 ⟨e, h9⟩
            omega
          rw [this, Int.mul_zero]
      obtain ⟨j, j1, j2, j3, j4⟩ := dotF_pos (f := f) (ps := r) (i := i + 1) (fun q hq => hp q (by simp [hq])) (by omega)
      refine ⟨j, by omega, by simp only [List.length_cons]; omega, j3, ?_⟩
      rw [show j - i = (j - (i + 1)) + 1 by omega]
      exact j4
/-- What is left when one has come: a small set; its words are those that with one more are words of the set. -/
theorem by_law {s : SemS} (hs : SetP s) (h6 : s.length ≤ 6) (h4 : ∀ x ∈ s, x.2.length ≤ 4) (hb : ∀ x ∈ s, ∀ i, x.1.getD i 0 ≤ 120) {tag : Int} (t0 : 0 ≤ tag) (t4 : tag < 4) :
    ∃ left, byS none s tag = (none, left, 0) ∧ SetP left ∧ ∀ b, rightB b = true → b.length ≤ 4 → (∀ i, b.getD i 0 ≤ 1000000) → (addB b (oneB tag 1)).2 = true ∧ rightB (addB b (oneB tag 1)).1 = true ∧ (addB b (oneB tag 1)).1.length ≤ 4 ∧ hasS left b = hasS s (addB b (oneB tag 1)).1 := by
  have hless : ∀ x ∈ s, ∀ p ∈ x.2, hasB p tag = true → ∃ q, subB p (oneB tag 1) = (q, true) ∧ rightB q = true ∧ q.length ≤ 4 ∧ (∀ t, p.getD t 0 = q.getD t 0 + (oneB tag 1).getD t 0) ∧ (addB x.1 q).2 = true := fun x hx p hp hh => by
    obtain ⟨p1, p2, p3⟩ := hs.pl x hx p hp
    obtain ⟨b1, b2, b3⟩ := hs.base x hx
    obtain ⟨q, q1, q2, q3, q4⟩ := sub_one p1 t0 (by omega) hh
    refine ⟨q, q1, q2, by omega, q4, addB_small b1 q2 (fun t => ?_)⟩
    have h1 := b3 t
    have h2 := p3 t
    have h3 := q4 t
    have h5 := (right_getD (oneB_right tag 1) t).1
    unfold far
    omega
  have hby := byF_none tag s [] (fun x hx p hp hh => by
    obtain ⟨q, q1, _, _, _, q5⟩ := hless x hx p hp hh
    unfold lessF
    rw [q1]
    exact q5)
  rw [List.nil_append] at hby
  have hmem : ∀ y ∈ s.flatMap (piecesF tag), ∃ x ∈ s, y.2 = x.2 ∧ rightB y.1 = true ∧ y.1.length ≤ 4 ∧ ∀ t, y.1.getD t 0 ≤ 160 := fun y hy => by
    obtain ⟨x, hx, hyx⟩ := List.mem_flatMap.1 hy
    obtain ⟨b1, b2, b3⟩ := hs.base x hx
    unfold piecesF at hyx
    split at hyx
    · rename_i hh
      obtain ⟨q, q1, q2, q3, q4⟩ := sub_one b1 t0 (by omega) hh
      rw [q1] at hyx
      obtain rfl : y = (q, x.2) := by simpa using hyx
      refine ⟨x, hx, rfl, q2, by show q.length ≤ 4; omega, fun t => ?_⟩
      have h1 := q4 t
      have h2 := b3 t
      have h5 := (right_getD (oneB_right tag 1) t).1
      show q.getD t 0 ≤ 160
      omega
    · obtain ⟨p, hp, rfl⟩ := List.mem_map.1 hyx
      obtain ⟨hp, hh⟩ := List.mem_filter.1 hp
      obtain ⟨q, q1, q2, q3, q4, q5⟩ := hless x hx p hp hh
      obtain ⟨_, _, p3⟩ := hs.pl x hx p hp
      unfold lessF
      rw [q1]
      refine ⟨x, hx, rfl, addB_right q5, by dsimp only; rw [addB_len q5]; omega, fun t => ?_⟩
      have h1 := q4 t
      have h2 := hb x hx t
      have h3 := p3 t
      have h5 := (right_getD (oneB_right tag 1) t).1
      dsimp only
      rw [addB_getD q5]
      omega
  have hright : ∀ y ∈ s.flatMap (piecesF tag), rightL y = true := fun y hy => by
    obtain ⟨x, hx, e, h1, _⟩ := hmem y hy
    have h2 := (rightL_iff (b := x.1) (ps := x.2)).1 (rightS_each hs.right hx)
    have := rightL_mk h1 h2.2
    rw [← e] at this
    exact this
  have hin : ∀ y, y ∈ (ofS (s.flatMap (piecesF tag))).1 ↔ y ∈ s.flatMap (piecesF tag) := fun y => ofS_mem_iff hright
  have hP : SetP (ofS (s.flatMap (piecesF tag))).1 := by
    refine ⟨ofS_right _, ?_, fun y hy => ?_, fun y hy p hp => ?_, fun y hy => ?_⟩
    · have h1 := ofS_length (s.flatMap (piecesF tag))
      have h2 := pieces_len tag s h4
      omega
    · obtain ⟨x, hx, e, _⟩ := hmem y ((hin y).1 hy)
      rw [e]; exact hs.per x hx
    · obtain ⟨x, hx, e, _⟩ := hmem y ((hin y).1 hy)
      rw [e] at hp; exact hs.pl x hx p hp
    · obtain ⟨x, hx, e, h1⟩ := hmem y ((hin y).1 hy)
      exact h1
  refine ⟨(ofS (s.flatMap (piecesF tag))).1, ?_, hP, fun b c1 c2 c3 => ?_⟩
  · unfold byS
    rw [if_pos ⟨hs.right, t0, by omega⟩, hby]
    rfl
  · have ha : (addB b (oneB tag 1)).2 = true := addB_small c1 (oneB_right tag 1) (fun t => by
      have h1 := c3 t
      have h2 := oneB_get tag 1 (by decide) t
      unfold far
      omega)
    have hr := addB_right ha
    have hl : (addB b (oneB tag 1)).1.length ≤ 4 := by rw [addB_len ha, one_len t0 (by omega)]; omega
    refine ⟨ha, hr, hl, ?_⟩
    rw [Bool.eq_iff_iff, hasS_iff hP c1 c2, hasS_iff hs hr hl]
    constructor
    · rintro ⟨y, hy, f, hf⟩
      obtain ⟨x, hx, hyx⟩ := List.mem_flatMap.1 ((hin y).1 hy)
      obtain ⟨b1, b2, b3⟩ := hs.base x hx
      unfold piecesF at hyx
      split at hyx
      · rename_i hh
        obtain ⟨q, q1, q2, q3, q4⟩ := sub_one b1 t0 (by omega) hh
        rw [q1] at hyx
        obtain rfl : y = (q, x.2) := by simpa using hyx
        refine ⟨x, hx, f, fun t => ?_⟩
        have h1 := q4 t
        have h2 := hf t
        dsimp only at h2
        rw [addB_getD ha]
        omega
      · obtain ⟨p, hp, rfl⟩ := List.mem_map.1 hyx
        obtain ⟨hp, hh⟩ := List.mem_filter.1 hp
        obtain ⟨q, q1, q2, q3, q4, q5⟩ := hless x hx p hp hh
        obtain ⟨i, hi, hip⟩ := List.mem_iff_getElem.1 hp
        refine ⟨x, hx, fun j => f j + (if j = i then 1 else 0), fun t => ?_⟩
        have h1 := q4 t
        have h2 := hf t
        unfold lessF at h2
        rw [q1] at h2
        dsimp only at h2
        rw [addB_getD q5] at h2
        rw [addB_getD ha, dotF_add, dotF_one t i x.2 0 (Nat.zero_le _), Nat.sub_zero, List.getD_eq_getElem?_getD (l := x.2), List.getElem?_eq_getElem hi, hip, Option.getD_some]
        omega
    · rintro ⟨x, hx, f, hf⟩
      obtain ⟨b1, b2, b3⟩ := hs.base x hx
      by_cases hh : hasB x.1 tag = true
      · obtain ⟨q, q1, q2, q3, q4⟩ := sub_one b1 t0 (by omega) hh
        refine ⟨(q, x.2), (hin _).2 (List.mem_flatMap.2 ⟨x, hx, ?_⟩), f, fun t => ?_⟩
        · unfold piecesF
          rw [if_pos hh, q1]
          exact List.mem_singleton.2 rfl
        · have h1 := q4 t
          have h2 := hf t
          rw [addB_getD ha] at h2
          dsimp only
          omega
      · have h1 := hf tag.toNat
        rw [addB_getD ha, one_getD t0 (by omega), if_pos rfl] at h1
        have h2 : ¬ 0 < x.1.getD tag.toNat 0 := fun h => hh ((hasB_iff t0).2 h)
        have h3 := (right_getD c1 tag.toNat).1
        have hpos : ∀ p ∈ x.2, 0 ≤ p.getD tag.toNat 0 := fun p hp => (right_getD (hs.pl x hx p hp).1 _).1
        obtain ⟨i, _, i2, i3, i4⟩ := dotF_pos (f := f) hpos (show 0 < dotF f tag.toNat x.2 0 by omega)
        rw [Nat.zero_add] at i2
        rw [Nat.sub_zero, List.getD_eq_getElem?_getD (l := x.2), List.getElem?_eq_getElem i2, Option.getD_some] at i4
        have hp := List.getElem_mem i2
        have hhp : hasB x.2[i] tag = true := (hasB_iff t0).2 i4
        obtain ⟨q, q1, q2, q3, q4, q5⟩ := hless x hx _ hp hhp
        refine ⟨((addB x.1 q).1, x.2), (hin _).2 (List.mem_flatMap.2 ⟨x, hx, ?_⟩), fun j => if j = i then f j - 1 else f j, fun t => ?_⟩
        · unfold piecesF
          rw [if_neg hh]
          refine List.mem_map.2 ⟨x.2[i], List.mem_filter.2 ⟨hp, hhp⟩, ?_⟩
          unfold lessF
          rw [q1]
        · have g1 := q4 t
          have g2 := hf t
          rw [addB_getD ha] at g2
          have g3 : dotF f t x.2 0 = dotF (fun j => if j = i then f j - 1 else f j) t x.2 0 + (x.2[i]).getD t 0 := by
            have e1 := dotF_add (fun j => if j = i then f j - 1 else f j) (fun j => if j = i then 1 else 0) t x.2 0
            rw [dotF_one t i x.2 0 (Nat.zero_le _), Nat.sub_zero, List.getD_eq_getElem?_getD (l := x.2), List.getElem?_eq_getElem i2, Option.getD_some] at e1
            rw [← e1]
            exact dotF_congr (fun j _ _ => by
              by_cases e : j = i
              · rw [if_pos e, if_pos e, e]; omega
              · rw [if_neg e, if_neg e]; rfl)
          dsimp only
          rw [addB_getD q5]
          omega
end Go.Cb
