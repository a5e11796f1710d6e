/- Plain laws: items of small sets stay small, and few. -/
import Derived.Test.YtmdcgekiiopohaaGreatPureJ
import Derived.Test.YtmdcgekiiopohaaGreatMK
import Derived.Test.YtmdcgekiiopohaaGreatAut3
set_option linter.unusedVariables false
set_option linter.unusedSimpArgs false
set_option linter.all false
namespace Go.Cb
open Go.RowKit
/-- A small set. -/
structure SetP (s : SemS) : Prop where
  right : rightS s = true
  six : s.length ≤ 24
  per : ∀ x ∈ s, x.2.length ≤ 8
  pl : ∀ x ∈ s, ∀ p ∈ x.2, rightB p = true ∧ p.length ≤ 4 ∧ ∀ i, p.getD i 0 ≤ 20
  base : ∀ x ∈ s, rightB x.1 = true ∧ x.1.length ≤ 4 ∧ ∀ i, x.1.getD i 0 ≤ 160
theorem playSem_P (l : List Int) : SetP (playSem l) := by
  obtain ⟨h, h6⟩ := playSem_ok l
  have hp := playSem_per l
  refine ⟨h.right, by omega, h.per, fun x hx p hpx => ⟨?_, ?_, fun i => hp x hx p hpx i⟩, fun x hx => ⟨?_, ?_, fun i => Int.le_trans ((h.sm x hx).base i) (by decide)⟩⟩
  · exact ((rightL_iff (b := x.1) (ps := x.2)).1 (rightS_each h.right hx)).2.each p hpx |>.2
  · have := (h.sm x hx).plen p hpx; omega
  · exact ((rightL_iff (b := x.1) (ps := x.2)).1 (rightS_each h.right hx)).1
  · have := (h.sm x hx).len; omega
/-- What a number's digits choose of the periods, at a tag. -/
def sumB (k t : Nat) : List (List Int) → Nat → Int
  | [], _ => 0
  | p :: r, i => ((k / 2 ^ i % 2 : Nat) : Int) * p.getD t 0 + sumB k t r (i + 1)
theorem getD0_nil (t : Nat) : ([] : List Int).getD t 0 = 0 := by simp
theorem pickF_some {k : Nat} : ∀ {ps : List (List Int)} {i : Nat} {c : List Int} {C : Int}, rightB c = true → c.length ≤ 4 → (∀ t, c.getD t 0 ≤ C) → (∀ p ∈ ps, rightB p = true ∧ p.length ≤ 4 ∧ ∀ t, p.getD t 0 ≤ 20) → C + 20 * ps.length ≤ far →
    ∃ b, pickF k ps i c = some b ∧ rightB b = true ∧ b.length ≤ 4 ∧ (∀ t, b.getD t 0 ≤ C + 20 * ps.length) ∧ ∀ t, b.getD t 0 = c.getD t 0 + sumB k t ps i
  | [], i, c, C, h1, h2, h3, _, _ => ⟨c, rfl, h1, h2, fun t => Int.le_trans (h3 t) (by simp), fun t => by simp [sumB]⟩
  | p :: r, i, c, C, h1, h2, h3, h4, h5 => by
    obtain ⟨p1, p2, p3⟩ := h4 p (by simp)
    have hr : ((p :: r).length : Int) = r.length + 1 := by simp
    rw [hr] at h5
    have hp0 : ∀ t, 0 ≤ p.getD t 0 := fun t => (right_getD p1 t).1
    by_cases hb : (k / 2 ^ i) % 2 = 1
    · have ha : (addB c p).2 = true := addB_small h1 p1 (fun t => by have := h3 t; have := p3 t; omega)
      obtain ⟨b, b1, b2, b3, b4, b5⟩ := pickF_some (k := k) (ps := r) (i := i + 1) (c := (addB c p).1) (C := C + 20) (addB_right ha) (by rw [addB_len ha]; omega) (fun t => by rw [addB_getD ha]; have := h3 t; have := p3 t; omega) (fun q hq => h4 q (by simp [hq])) (by omega)
      refine ⟨b, by rw [pickF, if_pos hb, if_pos ha]; exact b1, b2, b3, fun t => by rw [hr]; have := b4 t; omega, fun t => ?_⟩
      rw [b5 t, addB_getD ha, sumB, hb]; simp; omega
    · obtain ⟨b, b1, b2, b3, b4, b5⟩ := pickF_some (k := k) (ps := r) (i := i + 1) (c := c) (C := C) h1 h2 h3 (fun q hq => h4 q (by simp [hq])) (by omega)
      refine ⟨b, by rw [pickF, if_neg hb]; exact b1, b2, b3, fun t => by rw [hr]; have := b4 t; omega, fun t => ?_⟩
      rw [b5 t, sumB, show k / 2 ^ i % 2 = 0 by omega]; simp
theorem halfB_getD {b : List Int} (h : rightB b = true) (t : Nat) : (halfB b).getD t 0 = b.getD t 0 / 2 := by
  unfold halfB
  rw [normB_eq (by rw [List.length_map]; exact right_len h) (fun x hx => by
    obtain ⟨y, hy, rfl⟩ := List.mem_map.1 hx
    have := right_ok h y hy
    unfold far at *
    omega), cutB_getD]
  rw [List.getD_eq_getElem?_getD, List.getD_eq_getElem?_getD, List.getElem?_map]
  cases b[t]? <;> simp
theorem halfB_len {b : List Int} (h : rightB b = true) : (halfB b).length ≤ b.length := by
  unfold halfB
  rw [normB_eq (by rw [List.length_map]; exact right_len h) (fun x hx => by
    obtain ⟨y, hy, rfl⟩ := List.mem_map.1 hx
    have := right_ok h y hy
    unfold far at *
    omega)]
  have := cutB_length (b.map (· / 2))
  rwa [List.length_map] at this
/-- What one item leads to, all of it. -/
theorem stepsF_all {j : Int} {c : List Int} {ps : List (List Int)} {letter : Int} : ∀ (ks : List Nat) (acc : List Itm), (∀ k ∈ ks, ∃ b, pickF k ps 0 c = some b) →
    ∃ acc', stepsF j c ps letter ks acc = some acc' ∧ ∀ y, y ∈ acc' ↔ y ∈ acc ∨ ∃ k ∈ ks, ∃ b, pickF k ps 0 c = some b ∧ lettI b 0 = letter ∧ y = (j, halfB b)
  | [], acc, _ => ⟨acc, rfl, fun y => by simp⟩
  | k :: r, acc, h => by
    obtain ⟨b, hb⟩ := h k (by simp)
    obtain ⟨acc', h1, h2⟩ := stepsF_all (j := j) (letter := letter) r (if lettI b 0 = letter then acc ++ [(j, halfB b)] else acc) (fun q hq => h q (by simp [hq]))
    refine ⟨acc', by rw [stepsF, hb]; exact h1, fun y => ?_⟩
    rw [h2 y]
    by_cases hl : lettI b 0 = letter
    · rw [if_pos hl, List.mem_append, List.mem_singleton]
      constructor
      · rintro ((h | h) | ⟨q, hq, h⟩)
        · exact .inl h
        · exact .inr ⟨k, by simp, b, hb, hl, h⟩
        · exact .inr ⟨q, by simp [hq], h⟩
      · rintro (h | ⟨q, hq, b', h3, h4, h5⟩)
        · exact .inl (.inl h)
        · rcases List.mem_cons.1 hq with rfl | hq
          · rw [hb] at h3
            injection h3 with h3
            subst h3
            exact .inl (.inr h5)
          · exact .inr ⟨q, hq, b', h3, h4, h5⟩
    · rw [if_neg hl]
      constructor
      · rintro (h | ⟨q, hq, h⟩)
        · exact .inl h
        · exact .inr ⟨q, by simp [hq], h⟩
      · rintro (h | ⟨q, hq, b', h3, h4, h5⟩)
        · exact .inl h
        · rcases List.mem_cons.1 hq with rfl | hq
          · rw [hb] at h3
            injection h3 with h3
            subst h3
            exact absurd h4 hl
          · exact .inr ⟨q, hq, b', h3, h4, h5⟩
def psOf (s : SemS) (x : Itm) : List (List Int) := (s.getD x.1.toNat ([], [])).2
/-- What a step costs. -/
def costI (s : SemS) (l : List Itm) : Nat := (l.map fun x => 2 ^ (psOf s x).length).sum
/-- All that these items lead to, if it is paid for: or it is not. -/
theorem itemsF_all {s : SemS} {letter : Int} : ∀ (l : List Itm) (st : MSt) (acc : List Itm), (∀ x ∈ l, (psOf s x).length ≤ 20 ∧ ∀ k, k < 2 ^ (psOf s x).length → ∃ b, pickF k (psOf s x) 0 x.2 = some b) →
    ((∃ st' acc', itemsF s letter l st acc = (st', acc', 0) ∧ ∀ y, y ∈ acc' ↔ y ∈ acc ∨ ∃ x ∈ l, ∃ k, k < 2 ^ (psOf s x).length ∧ ∃ b, pickF k (psOf s x) 0 x.2 = some b ∧ lettI b 0 = letter ∧ y = (x.1, halfB b)) ∨
      (st ≠ none ∧ ∃ st', itemsF s letter l st acc = (st', [], 7)))
  | [], st, acc, _ => .inl ⟨st, acc, rfl, fun y => by simp⟩
  | x :: r, st, acc, h => by
    obtain ⟨h20, hkk⟩ := h x (by simp)
    have hps : (s.getD x.1.toNat ([], [])).2 = psOf s x := rfl
    cases hs : (spendM st ((2 ^ (psOf s x).length : Nat) : Int)).2 with
    | false => exact .inr ⟨(fun e => by subst e; cases hs), _, itemsF_work hps h20 hs⟩
    | true =>
      obtain ⟨acc', h1, h2⟩ := stepsF_all (j := x.1) (c := x.2) (ps := psOf s x) (letter := letter) (List.range (2 ^ (psOf s x).length)) acc (fun k hk' => hkk k (by simpa using hk'))
      rw [itemsF_next hps h20 hs h1]
      have hn : (spendM st ((2 ^ (psOf s x).length : Nat) : Int)).1 ≠ none → st ≠ none := fun h e => h (by subst e; rfl)
      rcases itemsF_all (letter := letter) r (spendM st ((2 ^ (psOf s x).length : Nat) : Int)).1 acc' (fun y hy => h y (by simp [hy])) with ⟨st', acc2, h3, h4⟩ | ⟨h3, st', h4⟩
      · refine .inl ⟨st', acc2, h3, fun y => ?_⟩
        rw [h4 y, h2 y]
        constructor
        · rintro ((h | ⟨k, hk, b, h5⟩) | ⟨z, hz, k, hk, b, h5⟩)
          · exact .inl h
          · exact .inr ⟨x, by simp, k, by simpa using hk, b, h5⟩
          · exact .inr ⟨z, by simp [hz], k, hk, b, h5⟩
        · rintro (h | ⟨z, hz, k, hk, b, h5⟩)
          · exact .inl (.inl h)
          · rcases List.mem_cons.1 hz with rfl | hz
            · exact .inl (.inr ⟨k, by simpa using hk, b, h5⟩)
            · exact .inr ⟨z, hz, k, hk, b, h5⟩
      · exact .inr ⟨hn h3, st', h4⟩
/-- What is paid: just the cost; what can't be paid is not done. -/
theorem itemsF_pay {s : SemS} {letter : Int} {B : Int} : ∀ (l : List Itm) (S : Int) (acc : List Itm), 0 ≤ S → (∀ x ∈ l, (psOf s x).length ≤ 20 ∧ ∀ k, k < 2 ^ (psOf s x).length → ∃ b, pickF k (psOf s x) 0 x.2 = some b) →
    (S + (costI s l : Nat) ≤ B → (itemsF s letter l (some (B, S, false)) acc).1 = some (B, S + (costI s l : Nat), false) ∧ (itemsF s letter l (some (B, S, false)) acc).2.2 = 0) ∧
    (S ≤ B → B < S + (costI s l : Nat) → (itemsF s letter l (some (B, S, false)) acc).2.2 = 7)
  | [], S, acc, h0, _ => ⟨fun _ => ⟨by simp [costI, itemsF], rfl⟩, fun h1 h2 => absurd h2 (by simp [costI]; omega)⟩
  | x :: r, S, acc, h0, h => by
    obtain ⟨h20, hk⟩ := h x (by simp)
    have hps : (s.getD x.1.toNat ([], [])).2 = psOf s x := rfl
    have hc : costI s (x :: r) = 2 ^ (psOf s x).length + costI s r := by unfold costI; simp
    obtain ⟨acc', h1, h2⟩ := stepsF_all (j := x.1) (c := x.2) (ps := psOf s x) (letter := letter) (List.range (2 ^ (psOf s x).length)) acc (fun k hk' => hk k (by simpa using hk'))
    obtain ⟨P, hP⟩ : ∃ P : Nat, 2 ^ (psOf s x).length = P := ⟨_, rfl⟩
    by_cases hpay : S + (P : Int) ≤ B
    · have hok : spendOk B S false (P : Int) = true := by unfold spendOk; simp; omega
      have hsp : spendM (some (B, S, false)) (P : Int) = (some (B, S + P, false), true) := by
        rw [spendM_some', hok, (spendOk_yes' (by omega) hok), show spendO B S false (P : Int) = false by unfold spendO; rw [hok]; rfl]
      have hs1 : (spendM (some (B, S, false)) ((2 ^ (psOf s x).length : Nat) : Int)).2 = true := by rw [hP, hsp]
      rw [itemsF_next hps h20 hs1 h1, hP, hsp, hc, hP]
      obtain ⟨g1, g2⟩ := itemsF_pay (letter := letter) (B := B) r (S + P) acc' (by omega) (fun y hy => h y (by simp [hy]))
      refine ⟨fun h5 => ?_, fun h5 h6 => g2 (by omega) (by omega)⟩
      obtain ⟨g3, g4⟩ := g1 (by omega)
      exact ⟨by rw [g3, show S + (P : Int) + ((costI s r : Nat) : Int) = S + ((P + costI s r : Nat) : Int) by omega], g4⟩
    · have hok : spendOk B S false (P : Int) = false := by unfold spendOk; simp; omega
      have hs1 : (spendM (some (B, S, false)) ((2 ^ (psOf s x).length : Nat) : Int)).2 = false := by rw [hP]; exact hok
      rw [itemsF_work hps h20 hs1, hc, hP]
      exact ⟨fun h5 => absurd h5 (by omega), fun _ _ => rfl⟩
where
  spendM_some' (b s : Int) (o : Bool) (n : Int) : spendM (some (b, s, o)) n = (some (b, spendS b s o n, spendO b s o n), spendOk b s o n) := rfl
  spendOk_yes' {b s : Int} {o : Bool} {n : Int} (hn : 0 ≤ n) (h : spendOk b s o n = true) : spendS b s o n = s + n := by
    unfold spendS
    rw [h]
    show s + max n 0 = _
    omega
/-- Rising items of a set, each of them small. -/
structure BoxI (s : SemS) (l : List Itm) : Prop where
  up : l.Pairwise fun x y => cmpItem x y < 0
  at_ : ∀ x ∈ l, ∃ j : Nat, x.1 = (j : Int) ∧ j < s.length
  rb : ∀ x ∈ l, rightB x.2 = true
  len : ∀ x ∈ l, x.2.length ≤ 4
  le : ∀ x ∈ l, ∀ t, x.2.getD t 0 ≤ 160
theorem BoxI.right {s : SemS} {l : List Itm} (h : BoxI s l) (hs : rightS s = true) : rightI s l = true := by
  unfold rightI
  rw [hs, Bool.true_and, List.all_eq_true]
  intro i hi
  have hi : i < l.length := by simpa using hi
  obtain ⟨j, hj, hjl⟩ := h.at_ _ (List.getElem_mem hi)
  rw [okAtI_at (List.getElem?_eq_getElem hi), hj, h.rb _ (List.getElem_mem hi), decide_eq_true (show (0 : Int) ≤ (j : Int) by omega), decide_eq_true (show (j : Int) < (s.length : Int) by omega)]
  rcases Nat.eq_zero_or_pos i with e | e
  · subst e; rfl
  · have h1 : cmpItem l[i - 1] l[i] < 0 := List.pairwise_iff_getElem.1 h.up (i - 1) i (by omega) hi (by omega)
    rw [getDi_of (List.getElem?_eq_getElem (show i - 1 < l.length by omega)), decide_eq_true h1]
    simp
theorem psOf_at {s : SemS} {x : Itm} {j : Nat} (hx : x.1 = (j : Int)) (hj : j < s.length) : ∃ y ∈ s, psOf s x = y.2 := ⟨s[j], List.getElem_mem hj, by unfold psOf; rw [hx, Int.toNat_natCast, getDs_of hj]⟩
/-- Each step of a small item is small. -/
theorem box_pick {s : SemS} (hs : SetP s) {x : Itm} {j : Nat} (hx : x.1 = (j : Int)) (hj : j < s.length) (h1 : rightB x.2 = true) (h2 : x.2.length ≤ 4) (h3 : ∀ t, x.2.getD t 0 ≤ 160) :
    (psOf s x).length ≤ 8 ∧ ∀ k, ∃ b, pickF k (psOf s x) 0 x.2 = some b ∧ rightB b = true ∧ b.length ≤ 4 ∧ (∀ t, b.getD t 0 ≤ 320) ∧ ∀ t, b.getD t 0 = x.2.getD t 0 + sumB k t (psOf s x) 0 := by
  obtain ⟨y, hy, e⟩ := psOf_at hx hj
  rw [e]
  have h8 := hs.per y hy
  refine ⟨h8, fun k => ?_⟩
  obtain ⟨b, b1, b2, b3, b4, b5⟩ := pickF_some (k := k) (i := 0) h1 h2 h3 (hs.pl y hy) (by unfold far; omega)
  exact ⟨b, b1, b2, b3, fun t => by have := b4 t; omega, b5⟩
theorem box_all {s : SemS} (hs : SetP s) {l : List Itm} (h : BoxI s l) : ∀ x ∈ l, (psOf s x).length ≤ 20 ∧ ∀ k, k < 2 ^ (psOf s x).length → ∃ b, pickF k (psOf s x) 0 x.2 = some b := fun x hx => by
  obtain ⟨j, e, hj⟩ := h.at_ x hx
  obtain ⟨h8, hp⟩ := box_pick hs e hj (h.rb x hx) (h.len x hx) (h.le x hx)
  exact ⟨by omega, fun k _ => let ⟨b, hb, _⟩ := hp k; ⟨b, hb⟩⟩
/-- One letter more: the items stay small; what they are. -/
theorem next_box {s : SemS} (hs : SetP s) {l : List Itm} (h : BoxI s l) (letter : Int) (st : MSt) :
    (∃ st' l', nextS st s l letter = (st', l', 0) ∧ BoxI s l' ∧ ∀ y, y ∈ l' ↔ ∃ x ∈ l, ∃ k, k < 2 ^ (psOf s x).length ∧ ∃ b, pickF k (psOf s x) 0 x.2 = some b ∧ lettI b 0 = letter ∧ y = (x.1, halfB b)) ∨
      (st ≠ none ∧ ∃ st', nextS st s l letter = (st', [], 7)) := by
  have hr := h.right hs.right
  rcases itemsF_all (letter := letter) l st [] (box_all hs h) with ⟨st', acc, h1, h2⟩ | ⟨h1, st', h2⟩
  · have hnew : ∀ y ∈ acc, ∃ x ∈ l, ∃ k, k < 2 ^ (psOf s x).length ∧ ∃ b, pickF k (psOf s x) 0 x.2 = some b ∧ lettI b 0 = letter ∧ y = (x.1, halfB b) := fun y hy => by
      rcases (h2 y).1 hy with h | h
      · simp at h
      · exact h
    have hprop : ∀ y ∈ acc, (∃ j : Nat, y.1 = (j : Int) ∧ j < s.length) ∧ rightB y.2 = true ∧ y.2.length ≤ 4 ∧ ∀ t, y.2.getD t 0 ≤ 160 := fun y hy => by
      obtain ⟨x, hx, k, hk, b, hb, _, rfl⟩ := hnew y hy
      obtain ⟨j, e, hj⟩ := h.at_ x hx
      obtain ⟨_, hp⟩ := box_pick hs e hj (h.rb x hx) (h.len x hx) (h.le x hx)
      obtain ⟨b', b1, b2, b3, b4, _⟩ := hp k
      rw [hb] at b1
      injection b1 with b1
      subst b1
      refine ⟨⟨j, e, hj⟩, halfB_right b, Nat.le_trans (halfB_len b2) b3, fun t => ?_⟩
      dsimp only
      rw [halfB_getD b2]
      have := b4 t
      omega
    obtain ⟨g, m⟩ := foldl_putO itemO GoodO.nil (fun y hy => (hprop y hy).2.1)
    have hmem : ∀ y, y ∈ acc.foldl (putO cmpItem) [] ↔ y ∈ acc := fun y => by rw [m y]; simp
    refine .inl ⟨st', acc.foldl (putO cmpItem) [], nextS_ok hr h1, ⟨g.up, fun y hy => (hprop y ((hmem y).1 hy)).1, fun y hy => (hprop y ((hmem y).1 hy)).2.1, fun y hy => (hprop y ((hmem y).1 hy)).2.2.1, fun y hy => (hprop y ((hmem y).1 hy)).2.2.2⟩, fun y => ?_⟩
    rw [hmem y, h2 y]
    simp
  · exact .inr ⟨h1, st', nextS_bad hr h2 (by decide)⟩
/-- Numbers below N, no one twice: at most N of them. -/
theorem few : ∀ (N : Nat) (l : List Nat), l.Nodup → (∀ x ∈ l, x < N) → l.length ≤ N
  | 0, l, _, h => by
    cases l with
    | nil => simp
    | cons x r => exact absurd (h x (by simp)) (by omega)
  | N + 1, l, hn, h => by
    have h1 := few N (l.filter (fun x => decide (x ≠ N))) (hn.filter _) (fun x hx => by
      obtain ⟨a, b⟩ := List.mem_filter.1 hx
      have := h x a
      have : x ≠ N := of_decide_eq_true b
      omega)
    have h2 : l.length ≤ (l.filter (fun x => decide (x ≠ N))).length + 1 := by
      clear h h1
      induction l with
      | nil => simp
      | cons y r ih =>
        have hy := List.nodup_cons.1 hn
        by_cases e : y = N
        · have : r.filter (fun x => decide (x ≠ N)) = r := by
            refine List.filter_eq_self.2 (fun x hx => decide_eq_true (fun e2 => hy.1 (by rw [e, ← e2]; exact hx)))
          rw [List.filter_cons, if_neg (by simp [e]), this]
          simp
        · rw [List.filter_cons, if_pos (by simpa using e)]
          have := ih hy.2
          simp only [List.length_cons]
          omega
    omega
def codeI (x : Itm) : Nat := (((x.1.toNat * 161 + (x.2.getD 0 0).toNat) * 161 + (x.2.getD 1 0).toNat) * 161 + (x.2.getD 2 0).toNat) * 161 + (x.2.getD 3 0).toNat
/-- Small items are few. -/
theorem BoxI.few {s : SemS} {l : List Itm} (h : BoxI s l) (h6 : s.length ≤ 24) : l.length ≤ 16125557784 := by
  have hb : ∀ x ∈ l, ∀ t, 0 ≤ x.2.getD t 0 ∧ x.2.getD t 0 ≤ 160 := fun x hx t => ⟨(right_getD (h.rb x hx) t).1, h.le x hx t⟩
  have h1 : (l.map codeI).Nodup := by
    rw [List.nodup_iff_pairwise_ne, List.pairwise_map]
    refine h.up.imp_of_mem (fun {x y} hx hy hxy => ?_)
    intro e
    obtain ⟨i, ei, hi⟩ := h.at_ x hx
    obtain ⟨j, ej, hj⟩ := h.at_ y hy
    have x0 := hb x hx 0
    have x1 := hb x hx 1
    have x2 := hb x hx 2
    have x3 := hb x hx 3
    have y0 := hb y hy 0
    have y1 := hb y hy 1
    have y2 := hb y hy 2
    have y3 := hb y hy 3
    unfold codeI at e
    rw [ei, ej] at e
    simp only [Int.toNat_natCast] at e
    have hxy2 : x.2 = y.2 := right_ext (h.rb x hx) (h.rb y hy) (fun t => by
      by_cases ht : t < 4
      · obtain rfl | rfl | rfl | rfl : t = 0 ∨ t = 1 ∨ t = 2 ∨ t = 3 := by omega
        · omega
        · omega
        · omega
        · omega
      · have hx4 := h.len x hx
        have hy4 := h.len y hy
        rw [List.getD_eq_getElem?_getD, List.getD_eq_getElem?_getD, List.getElem?_eq_none (by omega), List.getElem?_eq_none (by omega)])
    have hxy1 : x.1 = y.1 := by rw [ei, ej]; omega
    have : x = y := Prod.ext hxy1 hxy2
    subst this
    have := cmpItem_neg x x
    omega
  have h2 := Go.Cb.few 16125557784 (l.map codeI) h1 (fun n hn => by
    obtain ⟨x, hx, rfl⟩ := List.mem_map.1 hn
    obtain ⟨i, ei, hi⟩ := h.at_ x hx
    have x0 := hb x hx 0
    have x1 := hb x hx 1
    have x2 := hb x hx 2
    have x3 := hb x hx 3
    unfold codeI
    rw [ei]
    simp only [Int.toNat_natCast]
    omega)
  rwa [List.length_map] at h2
theorem startS_box {s : SemS} (hs : SetP s) : BoxI s (startS s) := by
  have e : startS s = s.mapIdx fun j x => ((j : Int), x.1) := by unfold startS; rw [if_pos hs.right]
  rw [e]
  have hm : ∀ y ∈ (s.mapIdx fun j x => ((j : Int), x.1)), ∃ j : Nat, ∃ hj : j < s.length, y = ((j : Int), s[j].1) := fun y hy => by
    obtain ⟨j, hj, rfl⟩ := List.mem_mapIdx.1 hy
    exact ⟨j, hj, rfl⟩
  refine ⟨List.pairwise_iff_getElem.2 fun i j hi hj hij => ?_, fun y hy => ?_, fun y hy => ?_, fun y hy => ?_, fun y hy t => ?_⟩
  · rw [List.getElem_mapIdx, List.getElem_mapIdx]
    have := lessI_lt (x := ((i : Int), (s[i]'(by simpa using hi)).1)) (y := ((j : Int), (s[j]'(by simpa using hj)).1)) (by show (i : Int) < (j : Int); omega)
    exact of_decide_eq_true this
  all_goals
    obtain ⟨j, hj, rfl⟩ := hm y hy
    have hb := hs.base _ (List.getElem_mem hj)
  · exact ⟨j, rfl, hj⟩
  · exact hb.1
  · exact hb.2.1
  · have := hb.2.2 t
    show s[j].1.getD t 0 ≤ 160
    omega
end Go.Cb
