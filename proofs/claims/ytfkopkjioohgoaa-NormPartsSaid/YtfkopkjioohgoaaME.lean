/- Walks: the document's linear sets together, and their order. -/
import Derived.Test.YtfkopkjioohgoaaMC
import Derived.Test.YtfkopkjioohgoaaMA
import Derived.Test.YtfkopkjioohgoaaMD
set_option linter.unusedVariables false
set_option linter.unusedSimpArgs false
set_option linter.all false
namespace Go.Cb
theorem putF_at {ps acc : List (List Int)} {k : Nat} {p : List Int} (h : ps[k]? = some p) : (ps.drop k).foldl putB acc = (ps.drop (k + 1)).foldl putB (putB acc p) := by
  obtain ⟨hk, he⟩ := List.getElem?_eq_some_iff.1 h
  rw [List.drop_eq_getElem_cons hk, he]; rfl
end Go.Cb
namespace Go.Proofs.Ytfkopkjioohgoaa
open Go.RowKit Go.Cb
end Go.Proofs.Ytfkopkjioohgoaa

/- Walks: a copy of a linear set; raw ones. -/
namespace Go.Proofs.Ytfkopkjioohgoaa
open Go.RowKit Go.Cb
end Go.Proofs.Ytfkopkjioohgoaa

/- Plain laws: rising lists of linear sets. -/
namespace Go.Cb
/-- An order, as a comparison tells it, of what is right. -/
structure OrdF {α : Type} (f : α → α → Int) (R : α → Prop) : Prop where
  zero : ∀ x y, R x → R y → (f x y = 0 ↔ x = y)
  neg : ∀ x y, f y x = -f x y
  trans : ∀ x y z, R x → R y → R z → f x y ≤ 0 → f y z ≤ 0 → f x z ≤ 0
section
variable {α : Type} {f : α → α → Int} {R : α → Prop}
theorem OrdF.ltt (O : OrdF f R) {a b c : α} (ha : R a) (hb : R b) (hc : R c) (h1 : f a b < 0) (h2 : f b c < 0) : f a c < 0 := by
  have h3 := O.trans a b c ha hb hc (by omega) (by omega)
  rcases Int.lt_or_eq_of_le h3 with h | h
  · exact h
  · have e := (O.zero a c ha hc).1 h
    subst e
    have := O.neg a b
    omega
def putO (f : α → α → Int) : List α → α → List α
  | [], b => [b]
  | p :: ps, b => if f p b < 0 then p :: putO f ps b else if f p b = 0 then p :: ps else b :: p :: ps
structure GoodO (f : α → α → Int) (R : α → Prop) (ps : List α) : Prop where
  each : ∀ p ∈ ps, R p
  up : ps.Pairwise fun a b => f a b < 0
theorem GoodO.nil : GoodO f R [] := ⟨fun _ h => by simp at h, .nil⟩
theorem GoodO.tail {p : α} {ps : List α} (h : GoodO f R (p :: ps)) : GoodO f R ps := ⟨fun q hq => h.each q (by simp [hq]), (List.pairwise_cons.1 h.up).2⟩
theorem mem_putO : ∀ {ps : List α} {b x : α}, x ∈ putO f ps b → x ∈ ps ∨ x = b
  | [], b, x, h => by simp [putO] at h; exact .inr h
  | p :: ps, b, x, h => by
    rw [putO] at h
    split at h
    · rcases List.mem_cons.1 h with rfl | h
      · exact .inl (by simp)
      · rcases mem_putO h with h | h
        · exact .inl (by simp [h])
        · exact .inr h
    · split at h
      · exact .inl h
      · rcases List.mem_cons.1 h with h | h
        · exact .inr h
        · exact .inl h
theorem mem_putO_iff (O : OrdF f R) {ps : List α} {b x : α} (hp : ∀ p ∈ ps, R p) (hb : R b) : x ∈ putO f ps b ↔ x ∈ ps ∨ x = b := by
  refine ⟨mem_putO, ?_⟩
  induction ps with
  | nil =>
    rintro (h | rfl)
    · simp at h
    · simp [putO]
  | cons p ps ih =>
    have ih := ih (fun q hq => hp q (by simp [hq]))
    rw [putO]
    rintro h
    split
    · rcases h with h | h
      · rcases List.mem_cons.1 h with rfl | h
        · simp
        · exact List.mem_cons.2 (.inr (ih (.inl h)))
      · exact List.mem_cons.2 (.inr (ih (.inr h)))
    · split
      · rename_i h2
        have e := (O.zero p b (hp p (by simp)) hb).1 h2
        rcases h with h | h
        · exact h
        · rw [h, ← e]; simp
      · rcases h with h | h
        · exact List.mem_cons.2 (.inr h)
        · rw [h]; simp
theorem GoodO.put (O : OrdF f R) : ∀ {ps : List α} {b : α}, GoodO f R ps → R b → GoodO f R (putO f ps b)
  | [], b, _, h2 => ⟨fun q hq => by simp [putO] at hq; subst hq; exact h2, by simp [putO]⟩
  | p :: ps, b, h, h2 => by
    have hp := h.each p (by simp)
    have hup := List.pairwise_cons.1 h.up
    rw [putO]
    split
    · rename_i hlt
      have ih := GoodO.put O h.tail h2
      refine ⟨fun q hq => ?_, List.pairwise_cons.2 ⟨fun q hq => ?_, ih.up⟩⟩
      · rcases List.mem_cons.1 hq with rfl | hq
        · exact hp
        · exact ih.each q hq
      · rcases mem_putO hq with hq | rfl
        · exact hup.1 q hq
        · exact hlt
    · split
      · exact h
      · rename_i hn hz
        have hbp : f b p < 0 := by have := O.neg p b; omega
        refine ⟨fun q hq => ?_, List.pairwise_cons.2 ⟨fun q hq => ?_, h.up⟩⟩
        · rcases List.mem_cons.1 hq with rfl | hq
          · exact h2
          · exact h.each q hq
        · rcases List.mem_cons.1 hq with rfl | hq
          · exact hbp
          · exact O.ltt h2 hp (h.each q (by simp [hq])) hbp (hup.1 q hq)
theorem ext_riseO (O : OrdF f R) : ∀ {a b : List α}, (a.Pairwise fun x y => f x y < 0) → (b.Pairwise fun x y => f x y < 0) → (∀ x, x ∈ a ↔ x ∈ b) → a = b
  | [], [], _, _, _ => rfl
  | [], y :: b, _, _, h => by have := (h y).2 (by simp); simp at this
  | x :: a, [], _, _, h => by have := (h x).1 (by simp); simp at this
  | x :: a, y :: b, ha, hb, h => by
    have ha' := List.pairwise_cons.1 ha
    have hb' := List.pairwise_cons.1 hb
    have e : x = y := by
      rcases List.mem_cons.1 ((h x).1 (by simp)) with e | hx
      · exact e
      · rcases List.mem_cons.1 ((h y).2 (by simp)) with e | hy
        · exact e.symm
        · have h1 := hb'.1 x hx
          have h2 := ha'.1 y hy
          have := O.neg x y
          omega
    subst e
    have hirr : ∀ z, ¬ f z z < 0 := fun z => by have := O.neg z z; omega
    rw [ext_riseO O ha'.2 hb'.2 (fun z => by
      constructor
      · intro hz
        rcases List.mem_cons.1 ((h z).1 (by simp [hz])) with e | hz2
        · subst e; exact absurd (ha'.1 z hz) (hirr z)
        · exact hz2
      · intro hz
        rcases List.mem_cons.1 ((h z).2 (by simp [hz])) with e | hz2
        · subst e; exact absurd (hb'.1 z hz) (hirr z)
        · exact hz2)]
/-- What stands next to its like is left out. -/
def cmpctO [DecidableEq α] : List α → List α
  | [] => []
  | [x] => [x]
  | x :: y :: r => if x = y then cmpctO (y :: r) else x :: cmpctO (y :: r)
variable [DecidableEq α]
theorem cmpctO_mem : ∀ {l : List α} {x : α}, x ∈ cmpctO l ↔ x ∈ l
  | [], x => by simp [cmpctO]
  | [y], x => by simp [cmpctO]
  | y :: z :: r, x => by
    rw [cmpctO]
    split
    · rename_i e
      rw [cmpctO_mem (l := z :: r), e]
      simp
    · rw [List.mem_cons, cmpctO_mem (l := z :: r), List.mem_cons (l := z :: r)]
theorem cmpctO_rise (O : OrdF f R) : ∀ {l : List α}, (∀ p ∈ l, R p) → (l.Pairwise fun x y => ¬ f y x < 0) → (cmpctO l).Pairwise fun x y => f x y < 0
  | [], _, _ => by simp [cmpctO]
  | [x], _, _ => by simp [cmpctO]
  | x :: y :: r, hr, h => by
    have h' := List.pairwise_cons.1 h
    have ih := cmpctO_rise O (l := y :: r) (fun p hp => hr p (by simp [hp])) h'.2
    rw [cmpctO]
    split
    · exact ih
    · rename_i hne
      have hxy : f x y < 0 := by
        have h1 := h'.1 y (by simp)
        have h2 := O.neg x y
        rcases Int.lt_or_le (f x y) 0 with h3 | h3
        · exact h3
        · exact absurd ((O.zero x y (hr x (by simp)) (hr y (by simp))).1 (by omega)) hne
      refine List.pairwise_cons.2 ⟨fun z hz => ?_, ih⟩
      have hz' := cmpctO_mem.1 hz
      rcases List.mem_cons.1 hz' with rfl | hz2
      · exact hxy
      · have h1 := (List.pairwise_cons.1 h'.2).1 z hz2
        have h2 := O.neg y z
        rcases Int.lt_or_le (f y z) 0 with h3 | h3
        · exact O.ltt (hr x (by simp)) (hr y (by simp)) (hr z (by simp [hz2])) hxy h3
        · have e := (O.zero y z (hr y (by simp)) (hr z (by simp [hz2]))).1 (by omega)
          rw [← e]; exact hxy
theorem cmpctO_snoc : ∀ (l : List α) (x : α), cmpctO (l ++ [x]) = if l.getLast? = some x then cmpctO l else cmpctO l ++ [x]
  | [], x => by simp [cmpctO]
  | [y], x => by
    show cmpctO [y, x] = _
    by_cases e : y = x
    · subst e; simp [cmpctO]
    · simp [cmpctO, e]
  | y :: z :: r, x => by
    have ih := cmpctO_snoc (z :: r) x
    have hl : (y :: z :: r).getLast? = (z :: r).getLast? := by simp [List.getLast?_cons_cons]
    rw [hl]
    show cmpctO (y :: z :: (r ++ [x])) = _
    rw [cmpctO, cmpctO]
    rw [show z :: (r ++ [x]) = (z :: r) ++ [x] from rfl, ih]
    by_cases e : y = z
    · rw [if_pos e, if_pos e]
    · rw [if_neg e, if_neg e]
      split <;> simp
theorem cmpctO_length : ∀ l : List α, (cmpctO l).length ≤ l.length
  | [] => by simp [cmpctO]
  | [x] => by simp [cmpctO]
  | x :: y :: r => by
    have := cmpctO_length (y :: r)
    rw [cmpctO]
    split <;> simp at this ⊢ <;> omega
theorem take_lastO {l : List α} {k : Nat} (h0 : 0 < k) (hk : k ≤ l.length) : (l.take k).getLast? = l[k - 1]? := by
  rw [List.getLast?_eq_getElem?, List.length_take, Nat.min_eq_left hk, List.getElem?_take, if_pos (by omega)]
theorem cmpctO_take {l : List α} {k : Nat} {x y : α} (h0 : 0 < k) (hy : l[k - 1]? = some y) (hx : l[k]? = some x) : cmpctO (l.take (k + 1)) = if y = x then cmpctO (l.take k) else cmpctO (l.take k) ++ [x] := by
  have hk := (List.getElem?_eq_some_iff.1 hx).1
  rw [List.take_add_one, hx]
  show cmpctO (l.take k ++ [x]) = _
  rw [cmpctO_snoc, take_lastO h0 (by omega), hy]
  by_cases e : y = x
  · rw [if_pos e, if_pos (by rw [e])]
  · rw [if_neg e, if_neg (fun h => e (Option.some.inj h))]
end
section
variable {α : Type} {f : α → α → Int} {R : α → Prop}
theorem foldl_putO (O : OrdF f R) : ∀ {ps acc : List α}, GoodO f R acc → (∀ p ∈ ps, R p) → GoodO f R (ps.foldl (putO f) acc) ∧ ∀ x, x ∈ ps.foldl (putO f) acc ↔ x ∈ acc ∨ x ∈ ps
  | [], acc, h, _ => ⟨h, fun x => by simp⟩
  | p :: ps, acc, h, hr => by
    have hp := hr p (by simp)
    obtain ⟨g, m⟩ := foldl_putO (ps := ps) O (h.put O hp) (fun q hq => hr q (by simp [hq]))
    refine ⟨g, fun x => ?_⟩
    show x ∈ ps.foldl (putO f) (putO f acc p) ↔ _
    rw [m x, mem_putO_iff O h.each hp, List.mem_cons, or_assoc]
theorem putO_length : ∀ (ps : List α) (b : α), (putO f ps b).length ≤ ps.length + 1
  | [], b => by simp [putO]
  | p :: ps, b => by
    rw [putO]
    split
    · simp only [List.length_cons]; have := putO_length ps b; omega
    · split <;> simp
theorem foldl_putO_length : ∀ (ps acc : List α), (ps.foldl (putO f) acc).length ≤ acc.length + ps.length
  | [], acc => by simp
  | p :: ps, acc => by
    have := foldl_putO_length ps (putO f acc p)
    have h2 := putO_length (f := f) acc p
    simp only [List.foldl_cons, List.length_cons]
    omega
/-- Sorted, and what comes twice left out: just what putting in one by one makes. -/
theorem sorted_putO [DecidableEq α] (O : OrdF f R) {ps q : List α} (hr : ∀ p ∈ ps, R p) (hp : q.Perm ps) (hs : q.Pairwise fun x y => ¬ f y x < 0) : ps.foldl (putO f) [] = cmpctO q := by
  obtain ⟨g, m⟩ := foldl_putO O GoodO.nil hr
  exact ext_riseO O g.up (cmpctO_rise O (fun p h => hr p (hp.mem_iff.1 h)) hs) (fun x => by rw [m x, cmpctO_mem, hp.mem_iff]; simp)
/-- Those ahead of b, up to k. -/
def belowO (f : α → α → Int) (ps : List α) (b : α) (k : Nat) : Prop := ∀ i, i < k → ∀ h : i < ps.length, f ps[i] b < 0
theorem belowO_zero (ps : List α) (b : α) : belowO f ps b 0 := fun i hi => absurd hi (by omega)
theorem belowO_snoc {ps : List α} {b : α} {k : Nat} (h : belowO f ps b k) (hk : k < ps.length) (hc : f ps[k] b < 0) : belowO f ps b (k + 1) := by
  intro i hi hl
  by_cases e : i = k
  · subst e; exact hc
  · exact h i (by omega) hl
theorem putO_skip : ∀ (k : Nat) (ps : List α) (b : α), k ≤ ps.length → belowO f ps b k → putO f ps b = ps.take k ++ putO f (ps.drop k) b
  | 0, _, _, _, _ => rfl
  | k + 1, p :: ps, b, hk, h => by
    have h0 : f p b < 0 := h 0 (by omega) (by simp)
    rw [putO, if_pos h0, putO_skip k ps b (by simpa using hk) (fun i hi hl => h (i + 1) (by omega) (by simpa using hl))]
    rfl
  | k + 1, [], _, hk, _ => by simp at hk
theorem putO_same {ps : List α} {b : α} {k : Nat} (hk : k < ps.length) (h : belowO f ps b k) (hc : f ps[k] b = 0) : putO f ps b = ps := by
  rw [putO_skip k ps b (by omega) h, List.drop_eq_getElem_cons hk, putO, if_neg (by omega), if_pos hc, ← List.drop_eq_getElem_cons hk, List.take_append_drop]
theorem putO_in {ps : List α} {b : α} {k : Nat} (hk : k ≤ ps.length) (h : belowO f ps b k) (hc : ∀ h : k < ps.length, 0 < f ps[k] b) : putO f ps b = ps.take k ++ [b] ++ ps.drop k := by
  rw [putO_skip k ps b hk h]
  by_cases e : k < ps.length
  · have := hc e
    rw [List.drop_eq_getElem_cons e, putO, if_neg (by omega), if_neg (by omega)]; simp
  · rw [List.drop_eq_nil_of_le (by omega), putO]; simp
end

/-! ### semilinear sets -/
theorem linO : OrdF cmpLin (fun l => rightL l = true) := ⟨fun _ _ hx hy => cmpLin_zero hx hy, cmpLin_neg, fun _ _ _ hx hy hz h1 h2 => cmpLin_trans hx hy hz h1 h2⟩
abbrev SemS := List Lin
def okAtS (s : SemS) (i : Nat) : Bool := rightL (s.getD i ([], [])) && (i == 0 || decide (cmpLin (s.getD (i - 1) ([], [])) (s.getD i ([], [])) < 0))
def okToS (s : SemS) (k : Nat) : Bool := (List.range k).all (okAtS s)
def rightS (s : SemS) : Bool := okToS s s.length
theorem okToS_succ (s : SemS) (k : Nat) : okToS s (k + 1) = (okToS s k && okAtS s k) := by
  unfold okToS
  rw [List.range_succ, List.all_append]; simp
theorem okToS_bad {s : SemS} {k : Nat} (hk : k < s.length) (h : okAtS s k = false) : rightS s = false := by
  unfold rightS okToS
  rw [← Bool.not_eq_true, List.all_eq_true]
  intro h2
  have := h2 k (List.mem_range.2 hk)
  rw [h] at this; cases this
theorem getDs_of {s : SemS} {k : Nat} (h : k < s.length) : s.getD k ([], []) = s[k] := by rw [List.getD_eq_getElem?_getD, List.getElem?_eq_getElem h]; rfl
theorem okAtS_first {s : SemS} {k : Nat} (h : k < s.length) (h0 : ¬ 0 < k) : okAtS s k = rightL s[k] := by
  unfold okAtS
  obtain rfl : k = 0 := by omega
  rw [getDs_of h]; simp
theorem okAtS_next {s : SemS} {k : Nat} (h : k < s.length) (h0 : 0 < k) : okAtS s k = (rightL s[k] && decide (cmpLin s[k - 1] s[k] < 0)) := by
  unfold okAtS
  rw [getDs_of h, getDs_of (by omega), show (k == 0) = false by simp; omega]; simp
theorem rightS_iff {s : SemS} : rightS s = true ↔ GoodO cmpLin (fun l => rightL l = true) s := by
  constructor
  · intro h
    have ho : ∀ k, k < s.length → okAtS s k = true := fun k hk => by
      unfold rightS okToS at h
      exact List.all_eq_true.1 h k (List.mem_range.2 hk)
    have he : ∀ k (hk : k < s.length), rightL s[k] = true := fun k hk => by
      have := ho k hk
      by_cases h0 : 0 < k
      · rw [okAtS_next hk h0] at this; simp only [Bool.and_eq_true] at this; exact this.1
      · rw [okAtS_first hk h0] at this; exact this
    refine ⟨fun p hp => ?_, ?_⟩
    · obtain ⟨k, hk, rfl⟩ := List.getElem_of_mem hp
      exact he k hk
    · refine List.pairwise_iff_getElem.2 fun i j hi hj hij => ?_
      induction j with
      | zero => omega
      | succ j ih =>
        have hs := ho (j + 1) hj
        rw [okAtS_next hj (by omega)] at hs
        simp only [Nat.add_sub_cancel, Bool.and_eq_true, decide_eq_true_eq] at hs
        by_cases e : i = j
        · subst e; exact hs.2
        · exact linO.ltt (he i hi) (he j (by omega)) (he (j + 1) hj) (ih (by omega) (by omega)) hs.2
  · intro h
    unfold rightS okToS
    rw [List.all_eq_true]
    intro k hk
    have hk := List.mem_range.1 hk
    have he := h.each s[k] (List.getElem_mem hk)
    by_cases h0 : 0 < k
    · rw [okAtS_next hk h0, he, decide_eq_true (List.pairwise_iff_getElem.1 h.up (k - 1) k (by omega) hk (by omega))]; rfl
    · rw [okAtS_first hk h0, he]
/-- All words of these. -/
def ofS (l : SemS) : SemS × Bool := if l.all (fun x => rightL x) = true then (l.foldl (putO cmpLin) [], true) else ([], false)
theorem ofS_yes {l : SemS} (h : ∀ x ∈ l, rightL x = true) : ofS l = (l.foldl (putO cmpLin) [], true) := by unfold ofS; rw [if_pos (List.all_eq_true.2 h)]
theorem ofS_no {l : SemS} {x : Lin} (h : x ∈ l) (hx : rightL x = false) : ofS l = ([], false) := by
  unfold ofS
  rw [if_neg (fun h2 => by have := List.all_eq_true.1 h2 x h; rw [hx] at this; cases this)]
theorem ofS_right (l : SemS) : rightS (ofS l).1 = true := by
  unfold ofS
  split
  · rename_i h
    exact rightS_iff.2 (foldl_putO linO GoodO.nil (List.all_eq_true.1 h)).1
  · rfl
theorem ofS_length (l : SemS) : (ofS l).1.length ≤ l.length := by
  unfold ofS
  split
  · have := foldl_putO_length (f := cmpLin) l []
    simpa using this
  · simp
theorem ofS_sorted {l q : SemS} (h : ∀ x ∈ l, rightL x = true) (hp : q.Perm l) (hs : q.Pairwise fun x y => ¬ cmpLin y x < 0) : ofS l = (cmpctO q, true) := by
  rw [ofS_yes h, sorted_putO linO h hp hs]
end Go.Cb

/- Walks: semilinear sets that are right. -/
namespace Go.Cb
open Go.RowKit
def semT : Ty (List (List Int × List (List Int))) := sl linT
theorem next_cell {w : World} {ad : Addr} {n : Nat} {v : Value} (h : w.cell? (ad.add (n + 1)) = some v) : w.cell? ⟨(ad.add n).block, (ad.add n).off + 1, none⟩ = some v := by
  have : (⟨(ad.add n).block, (ad.add n).off + 1, none⟩ : Addr) = ad.add (n + 1) := by
    obtain ⟨b, o, sp⟩ := ad
    unfold Addr.add
    by_cases h1 : n = 0
    · subst h1; simp
    · simp [h1]; omega
  rw [this]
  exact h
theorem Rd.lrow {w : World} {S : Nat → Prop} {A : Option Addr} {c : Nat} {xs : List (List Int × List (List Int))} (h : Rd linT w S A c xs) {k : Nat} (hk : k < xs.length) :
    ∃ ad A0 c0 A1 c1, A = some ad ∧ w.cell? (ad.add (k * 2)) = some (.slice A0 xs[k].1.length c0) ∧ w.cell? ⟨(ad.add (k * 2)).block, (ad.add (k * 2)).off + 1, none⟩ = some (.slice A1 xs[k].2.length c1) ∧ Rd intT w S A0 c0 xs[k].1 ∧ Rd bagT w S A1 c1 xs[k].2 := by
  obtain ⟨ad, cs, e, hS, hr, hc⟩ := h.2.2 k _ (List.getElem?_eq_getElem hk)
  obtain ⟨A0, c0, A1, c1, rfl, h0, h1⟩ := lin_rd hr
  exact ⟨ad, A0, c0, A1, c1, e, hc 0 _ rfl, next_cell (hc 1 _ rfl), h0, h1⟩
end Go.Cb
namespace Go.Proofs.Ytfkopkjioohgoaa
open Go.RowKit Go.Cb Go.Sort
set_option maxRecDepth 100000 in
set_option maxHeartbeats 8000000 in
theorem semRight_c (S : Nat → Prop) (A : Option Addr) (c : Nat) (s : SemS) (w : World) (h : Rd linT w S A c s) (n : Nat) (hn : n = s.length) :
    Calls Try.prog 16 #[.slice A n c] w fun e w' => e = .returned (.bool (rightS s)) ∧ Bel w w' := by
  subst hn
  have lm := h.lenMax
  go_enter Try.func16, Try.ntmps16
  go_wp2
  go_loopw [7] (fun v wr => ∃ (k : Nat) (W : World), W = wr ∧ k ≤ s.length ∧ v = .int .i64 k ∧ Hid (okToS s k = true) ∧ Bel w W) (fun v _ => s.length - (intOf v).toNat)
  case atStart => exact ⟨0, _, rfl, Nat.zero_le _, rfl, rfl, Bel.refl _⟩
  case round =>
    obtain ⟨k, W, rfl, hk, rfl, hp, hb⟩ := hrel
    by_cases hlt : k < s.length
    · obtain ⟨ad, A0, c0, A1, c1, rfl, h0, h1, r0, r1⟩ := (h.to hb).lrow hlt
      obtain ⟨x, hx⟩ : ∃ x, s[k] = x := ⟨_, rfl⟩
      rw [hx] at h0 h1 r0 r1
      have HX := Lib.hid hx
      have hal : Bel W (W.alloc (.cells #[.slice A0 x.1.length c0, .slice A1 x.2.length c1] 46)) := (Bel.refl _).alloc _
      have T := Box.new W 46 (.slice A0 x.1.length c0) (.slice A1 x.2.length c1)
      clear hx
      go_wp2_with fail
      clear h0 h1
      have hb1 := hb.trans hal
      replace r0 := r0.to hal
      replace r1 := r1.to hal
      generalize W.alloc (.cells #[.slice A0 x.1.length c0, .slice A1 x.2.length c1] 46) = W1 at *
      generalize W.heap.size = g at *
      obtain ⟨t0, t1, _, _⟩ := T.cells
      have T0 := cellReg t0
      have T1 := cellReg t1
      clear t0 t1
      cases hr : rightL x with
      | false =>
        have Hb := Lib.hid (okToS_bad hlt (by
          by_cases h0 : 0 < k
          · rw [okAtS_next hlt h0, HX.out, hr]; rfl
          · rw [okAtS_first hlt h0, HX.out, hr]))
        have K1 := Lib.hid (show ∀ W', Bel W1 W' → Calls Try.prog 31 #[.agg #[.slice A0 x.1.length c0, .slice A1 x.2.length c1]] W' fun e w' => e = .returned (.bool false) ∧ Bel W' w' from fun W' h => by
          have := linRight_c _ _ _ _ _ _ x.1 x.2 W' (r0.to h) (r1.to h) _ _ rfl rfl
          rw [show ((x.1, x.2) : Lin) = x from rfl, hr] at this
          exact this)
        clear hr
        refine wp_region_quiet_below (by kernel_rfl) (by kernel_rfl) ?_
        repeat (go_big_quiet_step (first | with_reducible exact callsReg K1.out))
        refine wpQuiet_nil ?_
        intro _ hw'
        obtain ⟨⟨dq, oq⟩, hw''⟩ := hw'
        subst hw''
        go_wp2_with fail
        go_ret
        exact ⟨by rw [Hb.out]; rfl, hb1.trans (bel_regrown _ _ _)⟩
      | true =>
        have K1 := Lib.hid (show ∀ W', Bel W1 W' → Calls Try.prog 31 #[.agg #[.slice A0 x.1.length c0, .slice A1 x.2.length c1]] W' fun e w' => e = .returned (.bool true) ∧ Bel W' w' from fun W' h => by
          have := linRight_c _ _ _ _ _ _ x.1 x.2 W' (r0.to h) (r1.to h) _ _ rfl rfl
          rw [show ((x.1, x.2) : Lin) = x from rfl, hr] at this
          exact this)
        by_cases hk0 : 0 < k
        · obtain ⟨ad', B0, d0, B1, d1, e', g0, g1, q0, q1⟩ := (h.to hb1).lrow (k := k - 1) (by omega)
          injection e' with e'
          subst e'
          obtain ⟨y, hy⟩ : ∃ y, s[k - 1] = y := ⟨_, rfl⟩
          rw [hy] at g0 g1 q0 q1
          have hs := okToS_succ s k
          rw [hp.out, okAtS_next hlt hk0, HX.out, hr, hy] at hs
          have HY := Lib.hid hy
          have G0 := cellReg g0
          have G1 := cellReg g1
          have hd : decide (0 < (k : Int)) = true := decide_eq_true (by omega)
          have hw : IntKind.i64.wrap ((k : Int) - 1) = ((k - 1 : Nat) : Int) := by rw [IntKind.wrap_i64]; omega
          obtain ⟨z, hz⟩ : ∃ z, cmpLin y x = z := ⟨_, rfl⟩
          have K2 := Lib.hid (show ∀ W', Bel W1 W' → Calls Try.prog 32 #[.agg #[.slice B0 y.1.length d0, .slice B1 y.2.length d1], .agg #[.slice A0 x.1.length c0, .slice A1 x.2.length c1]] W' fun e w' => e = .returned (.int .i64 z) ∧ Bel W' w' from fun W' h => by
            have := linCompare_c _ _ _ _ _ _ _ _ _ _ _ _ y x W' (q0.to h) (q1.to h) (r0.to h) (r1.to h) _ _ _ _ rfl rfl rfl rfl
            rw [hz] at this
            exact this)
          rw [hz] at hs
          have Hs := Lib.hid hs
          clear hs hy hr hz g0 g1
          by_cases hcm : z < 0
          · have hcd : decide (0 ≤ z) = false := decide_eq_false (by omega)
            have Hs2 := Lib.hid (show okToS s (k + 1) = true from by rw [Hs.out, decide_eq_true hcm]; rfl)
            refine wp_region_quiet_below (by kernel_rfl) (by kernel_rfl) ?_
            repeat (go_big_quiet_step (first | with_reducible exact callsReg K1.out | with_reducible exact callsReg K2.out))
            refine wpQuiet_nil ?_
            intro _ hw'
            obtain ⟨⟨dq, oq⟩, hw''⟩ := hw'
            subst hw''
            go_wp2
            go_roundw
            case rel => exact ⟨k + 1, _, rfl, by omega, by go_num, Hs2.out, hb1.trans (bel_regrown _ _ _)⟩
            case measure => simp [intOf]; omega
          · have hcd : decide (0 ≤ z) = true := decide_eq_true (by omega)
            have Hb := Lib.hid (okToS_bad (s := s) hlt (by
              have := okToS_succ s k
              rw [hp.out, Bool.true_and] at this
              rw [← this, Hs.out, decide_eq_false hcm]; rfl))
            refine wp_region_quiet_below (by kernel_rfl) (by kernel_rfl) ?_
            repeat (go_big_quiet_step (first | with_reducible exact callsReg K1.out | with_reducible exact callsReg K2.out))
            refine wpQuiet_nil ?_
            intro _ hw'
            obtain ⟨⟨dq, oq⟩, hw''⟩ := hw'
            subst hw''
            go_wp2
            go_ret
            exact ⟨by rw [Hb.out]; rfl, hb1.trans (bel_regrown _ _ _)⟩
        · have Hs := Lib.hid (show okToS s (k + 1) = true from by rw [okToS_succ, hp.out, okAtS_first hlt hk0, HX.out, hr]; rfl)
          have hd : decide (0 < (k : Int)) = false := decide_eq_false (by omega)
          clear hr
          refine wp_region_quiet_below (by kernel_rfl) (by kernel_rfl) ?_
          repeat (go_big_quiet_step (first | with_reducible exact callsReg K1.out))
          refine wpQuiet_nil ?_
          intro _ hw'
          obtain ⟨⟨dq, oq⟩, hw''⟩ := hw'
          subst hw''
          go_wp2
          go_roundw
          case rel => exact ⟨k + 1, _, rfl, by omega, by go_num, Hs.out, hb1.trans (bel_regrown _ _ _)⟩
          case measure => simp [intOf]; omega
    · obtain rfl : k = s.length := by omega
      go_wp2
      go_ret
      exact ⟨by rw [show rightS s = true from hp.out]; rfl, hb⟩
end Go.Proofs.Ytfkopkjioohgoaa

/- The library: as Grow, the first operations being whichever (hd: in an order in which each waits but for such as stand ahead of it), the others (tl) going one by one behind them. -/
namespace Go.Cb
open Go
def cntL (listed : Array Bool) : List Nat → Nat
  | [] => 0
  | i :: r => cntL listed r + (if listed.getD i false = true then 0 else 1)
theorem cntL_zero {listed : Array Bool} : ∀ {r : List Nat}, cntL listed r = 0 → ∀ i ∈ r, listed.getD i false = true
  | i :: r, h, j, hj => by
    unfold cntL at h
    rcases List.mem_cons.1 hj with rfl | hj
    · by_cases hh : listed.getD j false = true
      · exact hh
      · rw [if_neg hh] at h; omega
    · exact cntL_zero (r := r) (by omega) j hj
theorem cntL_pos {listed : Array Bool} : ∀ {r : List Nat}, cntL listed r ≠ 0 → ∃ i ∈ r, listed.getD i false = false
  | [], h => absurd rfl h
  | i :: r, h => by
    unfold cntL at h
    by_cases hh : listed.getD i false = true
    · rw [if_pos hh] at h
      obtain ⟨j, hj, e⟩ := cntL_pos (r := r) (by omega)
      exact ⟨j, List.mem_cons_of_mem _ hj, e⟩
    · exact ⟨i, by simp, by simpa using hh⟩
theorem cntL_other {listed : Array Bool} {i : Nat} : ∀ {r : List Nat}, i ∉ r → cntL (listed.setIfInBounds i true) r = cntL listed r
  | [], _ => rfl
  | j :: r, h => by
    simp only [List.mem_cons, not_or] at h
    unfold cntL
    rw [cntL_other h.2, getD_set_neF h.1]
theorem cntL_set {listed : Array Bool} {i : Nat} (hs : i < listed.size) (hu : listed.getD i false = false) : ∀ {r : List Nat}, r.Nodup → i ∈ r → cntL (listed.setIfInBounds i true) r + 1 = cntL listed r
  | j :: r, hn, hi => by
    have hn' := List.nodup_cons.1 hn
    unfold cntL
    by_cases e : i = j
    · subst e
      rw [cntL_other hn'.1, getD_set_eq hs, hu]
      simp
    · have := cntL_set hs hu hn'.2 (by rcases List.mem_cons.1 hi with h | h; exact absurd h e; exact h)
      rw [getD_set_neF e]
      omega
theorem cntL_none : ∀ (r : List Nat) (m : Nat), cntL (Array.replicate m false) r = r.length
  | [], _ => rfl
  | i :: r, m => by
    unfold cntL
    rw [cntL_none r m, getD_replicate_false]
    simp
def doneL (hd : List Nat) (m : Nat) : Array Bool := ((List.range m).map fun i => hd.contains i).toArray
theorem doneL_eq {listed : Array Bool} {hd : List Nat} {m : Nat} (hs : listed.size = m) (h1 : ∀ i ∈ hd, listed.getD i false = true) (h2 : ∀ t, t ∉ hd → t < m → listed.getD t true = false) : listed = doneL hd m := by
  have : listed.toList = (List.range m).map fun i => hd.contains i := by
    apply List.ext_getElem
    · simp [hs]
    · intro i hi hi2
      have hi' : i < listed.size := by simpa using hi
      rw [List.getElem_map, List.getElem_range]
      by_cases e : i ∈ hd
      · have := h1 i e
        simp [hi'] at this
        simp [this, e]
      · have := h2 i e (by omega)
        simp [hi'] at this
        simp [this, e]
  unfold doneL
  rw [← this]
def depsL (md : Region.Mode) (ops : Array Oper) : List Nat → List Nat → Bool
  | _, [] => true
  | done, i :: r => ((ops[i]?).map fun o => o.after.all fun e => !Region.binds md e || done.contains e.on).getD false && depsL md ops (i :: done) r
def waitsT (md : Region.Mode) (ops : Array Oper) : Nat → Nat → Nat → Bool
  | 0, t, i => Region.waitsFor md ops t i
  | f + 1, t, i => Region.waitsFor md ops t i || (List.range ops.size).any fun j => Region.waitsFor md ops t j && waitsT md ops f j i
def seqL (md : Region.Mode) (ops : Array Oper) : List Nat → Array Bool → Bool
  | [], listed => (Region.ready md ops listed).isEmpty
  | k :: r, listed => decide (Region.ready md ops listed = [k]) && seqL md ops r (listed.setIfInBounds k true)
def growLB (md : Region.Mode) (ops : Array Oper) (pu hd tl : List Nat) : Bool :=
  (hd.all fun i => decide (i < ops.size)) && decide hd.Nodup && depsL md ops pu hd && (hd.all fun i => !pu.contains i) && decide (tl.length + hd.length + pu.length = ops.size) &&
  ((List.range ops.size).all fun t => pu.contains t || hd.contains t || hd.all fun i => waitsT md ops 3 t i) && seqL md ops tl (doneL (pu ++ hd) ops.size)
/-- A move that waits for nothing, and that may be carried out ahead of all that is not yet done. -/
def pureOp (md : Region.Mode) (ops : Array Oper) (listed : Array Bool) (i : Nat) : Bool :=
  (match ops[i]? with | some o => o.after.isEmpty && o.guard.isNone && (match o.op with | .move _ => true | _ => false) | none => false) && !listed.getD i true && Region.free md ops listed i
def pureB (md : Region.Mode) (ops : Array Oper) : List Nat → Array Bool → Bool
  | [], _ => true
  | i :: r, listed => pureOp md ops listed i && pureB md ops r (listed.setIfInBounds i true)
def pureV (o : Oper) (a : Act) : Value := match o.op with | .move x => a.eval x | _ => undef
def pureA (l : List Oper) : List Nat → Act → Act
  | [], a => a
  | i :: r, a => pureA l r (a.put ((l[i]?).bind (·.dst)) (((l[i]?).map fun o => pureV o a).getD undef))
def setAll : List Nat → Array Bool → Array Bool
  | [], x => x
  | i :: r, x => setAll r (x.setIfInBounds i true)
/-- Nothing but the normal end. -/
def Nrm (Q : Exit → Act → World → Prop) : Exit → Act → World → Prop := fun ex a w => ex = .normal ∧ Q .normal a w
structure LInv (md : Region.Mode) (ops : Array Oper) (pu hd : List Nat) (listed : Array Bool) : Prop where
  size : listed.size = ops.size
  pure_ : ∀ i ∈ pu, listed.getD i false = true
  closed : ∀ j oj, ops[j]? = some oj → listed.getD j false = true → ∀ e ∈ oj.after, Region.binds md e = true → listed.getD e.on false = true
  tail : ∀ t, t ∉ pu → t ∉ hd → t < ops.size → listed.getD t true = false
section
variable {P : Program} {ops : Array Oper} {md : Region.Mode}
theorem LInv.set {pu hd : List Nat} {i : Nat} {listed : Array Bool} (inv : LInv md ops pu hd listed) (hi : i ∈ Region.ready md ops listed) (hin : i ∈ hd) : LInv md ops pu hd (listed.setIfInBounds i true) := by
  obtain ⟨_, oi, hoi, hall⟩ := mem_ready.1 hi
  refine ⟨by simp [inv.size], fun p hp => getD_set_true (inv.pure_ p hp), fun j oj hj hl e he hb => ?_, fun t hp ht ht' => by rw [getD_set_ne true (show i ≠ t from fun e => ht (by rw [← e]; exact hin))]; exact inv.tail t hp ht ht'⟩
  by_cases hij : i = j
  · subst hij
    have : oj = oi := Option.some.inj (hj.symm.trans hoi)
    subst this
    exact getD_set_true (hall e he hb)
  · rw [getD_set_ne false hij] at hl
    exact getD_set_true (inv.closed j oj hj hl e he hb)
theorem waitsT_listed {pu hd : List Nat} {listed : Array Bool} (inv : LInv md ops pu hd listed) : ∀ (f t i : Nat), (∀ o, ops[t]? = some o → ∀ e ∈ o.after, Region.binds md e = true → listed.getD e.on false = true) → waitsT md ops f t i = true → listed.getD i false = true
  | 0, t, i, hd, h => by
    obtain ⟨o, ho, e, he, hb, rfl⟩ := Region.waitsFor_spec h
    exact hd o ho e he hb
  | f + 1, t, i, hd, h => by
    unfold waitsT at h
    rcases Bool.or_eq_true _ _ |>.mp h with h | h
    · obtain ⟨o, ho, e, he, hb, rfl⟩ := Region.waitsFor_spec h
      exact hd o ho e he hb
    · obtain ⟨j, _, hj⟩ := List.any_eq_true.1 h
      simp only [Bool.and_eq_true] at hj
      obtain ⟨o, ho, e, he, hb, hon⟩ := Region.waitsFor_spec hj.1
      have hl := hd o ho e he hb
      rw [hon] at hl
      exact waitsT_listed inv f j i (fun oj hoj e he hb => inv.closed j oj hoj hl e he hb) hj.2
theorem depsL_first {listed : Array Bool} : ∀ {r done : List Nat}, depsL md ops done r = true → (∀ d ∈ done, listed.getD d false = true) → (∃ i ∈ r, listed.getD i false = false) →
    ∃ i ∈ r, listed.getD i false = false ∧ ∃ o, ops[i]? = some o ∧ ∀ e ∈ o.after, Region.binds md e = true → listed.getD e.on false = true
  | [], _, _, _, ⟨i, hi, _⟩ => by simp at hi
  | i :: r, done, h, hd, hx => by
    unfold depsL at h
    simp only [Bool.and_eq_true] at h
    cases hl : listed.getD i false with
    | false =>
      refine ⟨i, by simp, hl, ?_⟩
      cases ho : ops[i]? with
      | none => rw [ho] at h; simp at h
      | some o =>
        refine ⟨o, rfl, fun e he hb => ?_⟩
        rw [ho] at h
        simp only [Option.map_some, Option.getD_some] at h
        have h2 := Array.all_eq_true'.1 h.1 e he
        simp only [Bool.or_eq_true, Bool.not_eq_true'] at h2
        rcases h2 with h2 | h2
        · rw [h2] at hb; cases hb
        · exact hd _ (by simpa using h2)
    | true =>
      obtain ⟨j, hj, hjl⟩ := hx
      have hj2 : j ∈ r := by
        rcases List.mem_cons.1 hj with rfl | hj
        · rw [hl] at hjl; cases hjl
        · exact hj
      obtain ⟨k, hk, rest⟩ := depsL_first (r := r) (done := i :: done) h.2 (fun d hd2 => by
        rcases List.mem_cons.1 hd2 with rfl | h3
        · exact hl
        · exact hd d h3) ⟨j, hj2, hjl⟩
      exact ⟨k, List.mem_cons_of_mem _ hk, rest⟩
theorem depsL_mem : ∀ {r done : List Nat}, depsL md ops done r = true → ∀ i ∈ r, ∀ k, Region.waitsFor md ops i k = true → k ∈ done ∨ k ∈ r
  | [], _, _, i, hi, _, _ => by simp at hi
  | i :: r, done, h, j, hj, k, hk => by
    unfold depsL at h
    simp only [Bool.and_eq_true] at h
    rcases List.mem_cons.1 hj with rfl | hj
    · obtain ⟨o, ho, e, he, hb, rfl⟩ := Region.waitsFor_spec hk
      rw [ho] at h
      simp only [Option.map_some, Option.getD_some] at h
      have h2 := Array.all_eq_true'.1 h.1 e he
      simp only [Bool.or_eq_true, Bool.not_eq_true'] at h2
      rcases h2 with h2 | h2
      · rw [h2] at hb; cases hb
      · exact .inl (by simpa using h2)
    · rcases depsL_mem h.2 j hj k hk with h3 | h3
      · rcases List.mem_cons.1 h3 with rfl | h3
        · exact .inr (by simp)
        · exact .inl h3
      · exact .inr (List.mem_cons_of_mem _ h3)
theorem wpAny_of_seqL {Q' : Exit → Act → World → Prop} : ∀ (tl : List Nat) (listed : Array Bool) (a : Act) (w : World), (∀ k ∈ tl, k < ops.size) → seqL md ops tl listed = true →
    wpList P ops Q' (tl.filterMap (ops[·]?)) a w → wpAny P md ops Q' tl.length listed a w
  | [], _, _, _, _, hB, h => ⟨by simpa [seqL] using hB, h⟩
  | k :: r, listed, a, w, hl, hB, h => by
    have hk := hl k (by simp)
    have h0 : ops[k]? = some ops[k] := Array.getElem?_eq_getElem hk
    simp only [seqL, Bool.and_eq_true, decide_eq_true_eq] at hB
    rw [List.filterMap_cons, h0] at h
    refine ⟨fun h1 => (by rw [hB.1] at h1; cases h1), fun i hi => ?_⟩
    rw [hB.1] at hi
    have hik : i = k := by simpa using hi
    subst hik
    have hw : wpOp P ops Q' i (wpList P ops Q' (r.filterMap (ops[·]?))) a w := by unfold wpOp; simp only [h0]; exact h
    exact wpOp_mono (fun a' w' h' => wpAny_of_seqL r _ a' w' (fun x hx => hl x (List.mem_cons_of_mem _ hx)) hB.2 h') hw
end
/-- The first operations' slots, whatever they hold. -/
def frL (l : List Oper) : List Nat → Act → (Nat → Value) → Act
  | [], a, _ => a
  | i :: r, a, u => (frL l r a u).put ((l[i]?).bind (·.dst)) (u i)
theorem frL_other {l : List Oper} : ∀ {r : List Nat} {a : Act} {u : Nat → Value} {i : Nat} {v : Value}, i ∉ r → frL l r a (fun k => if k = i then v else u k) = frL l r a u
  | [], _, _, _, _, _ => rfl
  | j :: r, a, u, i, v, h => by
    simp only [List.mem_cons, not_or] at h
    unfold frL
    rw [frL_other h.2]
    simp only [if_neg (Ne.symm h.1)]
theorem frL_put {l : List Oper} : ∀ {r : List Nat} {a : Act} {u : Nat → Value} {i : Nat} {v : Value}, r.Nodup → (∀ p ∈ r, ∀ q ∈ r, p ≠ q → ((l[p]?).bind (·.dst)) ≠ ((l[q]?).bind (·.dst))) → i ∈ r → (frL l r a u).put ((l[i]?).bind (·.dst)) v = frL l r a (fun k => if k = i then v else u k)
  | j :: r, a, u, i, v, hn, hd, hi => by
    have hn' := List.nodup_cons.1 hn
    unfold frL
    by_cases e : i = j
    · subst e
      rw [put_put, frL_other hn'.1]
      simp only [if_true]
    · have hi2 : i ∈ r := by rcases List.mem_cons.1 hi with h | h; exact absurd h e; exact h
      rw [Act.put_comm _ _ _ (fun d h1 h2 => hd j (by simp) i hi (Ne.symm e) (h1.trans h2.symm)), frL_put hn'.2 (fun p hp q hq => hd p (List.mem_cons_of_mem _ hp) q (List.mem_cons_of_mem _ hq)) hi2]
      simp only [if_neg (show ¬ j = i from fun h => e h.symm)]
theorem frL_self {l : List Oper} : ∀ (r : List Nat), r.Nodup → ∀ (a : Act), ∃ u, a = frL l r a u
  | [], _, a => ⟨fun _ => undef, rfl⟩
  | i :: r, hn, a => by
    have hn' := List.nodup_cons.1 hn
    obtain ⟨u, hu⟩ := frL_self (l := l) r hn'.2 a
    obtain ⟨v, hv⟩ := put_self a ((l[i]?).bind (·.dst))
    refine ⟨fun k => if k = i then v else u k, ?_⟩
    unfold frL
    rw [frL_other hn'.1, ← hu]
    simp only [if_true]
    exact hv.symm
def opL (l : List Oper) (i : Nat) : Oper := l[i]?.getD ⟨none, .move (.const undef), 0, "", #[], none⟩
def stepsL (P : Program) (l : List Oper) (hd : List Nat) (w : World) (a : Act) (Φ : List SPred) : List Nat → Prop
  | [] => True
  | i :: r => (∀ (u : Nat → Value) (ρ : Nat → Nat × Nat) w1, Bel w w1 → (∀ k, (hd.contains k && Region.waitsFor .any l.toArray i k) = true → (Φ.getD k SPred.any).φ (u k) (ρ k).1 (ρ k).2 w1) → wpList P l.toArray (growQ (frL l hd a u) (opL l i) w1 (Φ.getD i SPred.any).φ) [opL l i] (frL l hd a u) w1) ∧ stepsL P l hd w a Φ r
theorem stepsL_at {P : Program} {l : List Oper} {hd : List Nat} {w : World} {a : Act} {Φ : List SPred} : ∀ {r : List Nat}, stepsL P l hd w a Φ r → ∀ i ∈ r, ∀ o, l[i]? = some o →
    ∀ (u : Nat → Value) (ρ : Nat → Nat × Nat) w1, Bel w w1 → (∀ k, (hd.contains k && Region.waitsFor .any l.toArray i k) = true → (Φ.getD k SPred.any).φ (u k) (ρ k).1 (ρ k).2 w1) → wpList P l.toArray (growQ (frL l hd a u) o w1 (Φ.getD i SPred.any).φ) [o] (frL l hd a u) w1
  | [], _, i, hi, _, _ => by simp at hi
  | j :: r, h, i, hi, o, ho => by
    rcases List.mem_cons.1 hi with rfl | hi
    · have := h.1
      unfold opL at this
      rw [ho] at this
      exact this
    · exact stepsL_at h.2 i hi o ho
def dstsL (l : List Oper) (hd : List Nat) : Bool := hd.all fun i => hd.all fun j => decide (i = j) || ((l[i]?).bind (·.dst)) != ((l[j]?).bind (·.dst))
theorem wpAny_nrm {P : Program} {ops : Array Oper} {md : Region.Mode} {Q : Exit → Act → World → Prop} : ∀ (f : Nat) (listed : Array Bool) (a : Act) (w : World), wpAny P md ops (Nrm Q) f listed a w → wpAny P md ops Q f listed a w
  | 0, _, _, _, h => ⟨h.1, h.2.2⟩
  | f + 1, listed, a, w, h => ⟨fun h0 => (h.1 h0).2, fun i hi => by
    have h1 := h.2 i hi
    unfold wpOp at *
    split
    · rename_i ho; simp only [ho] at h1; exact wpAny_nrm f _ _ _ h1
    · rename_i o ho
      simp only [ho] at h1
      split
      · rename_i hw
        simp only [hw, if_true] at h1
        rcases h1 with h1 | ⟨_, x, y, hh⟩
        · exact .inl (wp_only (fun _ _ _ h => h.1) (fun a' w' h' => wpAny_nrm f _ a' w' h') h1)
        · exact absurd hh.1 (by simp)
      · rename_i hw; simp only [hw] at h1; exact wpAny_nrm f _ _ _ h1⟩
theorem wpAny_pure {P : Program} {l : List Oper} {md : Region.Mode} {Q : Exit → Act → World → Prop} (hs : Region.noSelect l.toArray = true) : ∀ (pu : List Nat) (f : Nat) (listed : Array Bool) (a : Act) (w : World), pureB md l.toArray pu listed = true →
    wpAny P md l.toArray (Nrm Q) f (setAll pu listed) (pureA l pu a) w → wpAny P md l.toArray (Nrm Q) (pu.length + f) listed a w
  | [], f, listed, a, w, _, h => by rw [List.length_nil, Nat.zero_add]; exact h
  | i :: r, f, listed, a, w, hp, h => by
    simp only [pureB, Bool.and_eq_true] at hp
    obtain ⟨hp1, hp2⟩ := hp
    unfold pureOp at hp1
    simp only [Bool.and_eq_true, Bool.not_eq_true'] at hp1
    obtain ⟨⟨h1, hun⟩, hf⟩ := hp1
    cases ho : l.toArray[i]? with
    | none => rw [ho] at h1; cases h1
    | some o =>
      rw [ho] at h1
      simp only [Bool.and_eq_true] at h1
      obtain ⟨⟨hae, hg⟩, hm⟩ := h1
      have hlo : l[i]? = some o := by simpa using ho
      rw [List.length_cons, show r.length + 1 + f = (r.length + f) + 1 by omega]
      have hready : i ∈ Region.ready md l.toArray listed := mem_ready.2 ⟨hun, o, ho, fun e he _ => by
        have : o.after = #[] := by simpa using hae
        rw [this] at he; simp at he⟩
      have hyield : Yields P l.toArray o (pureV o a) a := by
        refine .inl ⟨by unfold Region.wanted; rw [show o.guard = none by simpa using hg], fun w' => ?_⟩
        have hx : ∃ x, o.op = .move x := by
          cases hop : o.op <;> rw [hop] at hm <;> first | exact ⟨_, rfl⟩ | (simp at hm)
        obtain ⟨x, hop⟩ := hx
        unfold pureV execOp
        rw [hop]
        rfl
      have := wpAny_first (P := P) (md := md) (Q := Nrm Q) ho (Region.noSelect_spec hs) (fun c a' w' hq => absurd hq.1 (by simp)) (r.length + f) listed a w (Region.free_spec ho hf) hready hyield
      refine this ?_
      have ih := wpAny_pure (P := P) (Q := Q) hs r f (listed.setIfInBounds i true) (a.put o.dst (pureV o a)) w hp2
      refine ih ?_
      have h2 := h
      simp only [setAll, pureA, hlo, Option.bind_some, Option.map_some, Option.getD_some] at h2
      exact h2
theorem setAll_size : ∀ (r : List Nat) (x : Array Bool), (setAll r x).size = x.size
  | [], _ => rfl
  | i :: r, x => by unfold setAll; rw [setAll_size r]; simp
theorem setAll_get : ∀ (r : List Nat) (x : Array Bool) (i : Nat), i < x.size → ((setAll r x).getD i false = true ↔ i ∈ r ∨ x.getD i false = true)
  | [], x, i, _ => by simp [setAll]
  | j :: r, x, i, hi => by
    unfold setAll
    rw [setAll_get r _ i (by simpa using hi)]
    by_cases e : j = i
    · subst e; simp [getD_set_eq hi]
    · rw [getD_set_neF e]; simp [Ne.symm e]
/-- **The region**: see the head of this text. -/
theorem wp_region_grow3 {P : Program} {id : Nat} {Q : Exit → Act → World → Prop} {a : Act} {w : World} {l : List Oper} (pu hd tl : List Nat) (hm : P.follows .mixedOrders = true) (hB : growLB .any l.toArray pu hd tl = true) (hP : pureB .any l.toArray pu (Array.replicate l.toArray.size false) = true) (hN : Region.noSelect l.toArray = true) (hD : dstsL l hd = true) (Φ : List SPred)
    (hstep : stepsL P l hd w (pureA l pu a) Φ hd)
    (htail : ∀ (u : Nat → Value) (ρ : Nat → Nat × Nat) w1, Bel w w1 → (∀ k, k ∈ hd → (Φ.getD k SPred.any).φ (u k) (ρ k).1 (ρ k).2 w1 ∧ w.heap.size ≤ (ρ k).1 ∧ (ρ k).1 ≤ (ρ k).2 ∧ (ρ k).2 ≤ w1.heap.size) →
      (∀ i j, i ∈ hd → j ∈ hd → i ≠ j → (ρ i).2 ≤ (ρ j).1 ∨ (ρ j).2 ≤ (ρ i).1) → wpList P l.toArray (Nrm Q) (tl.filterMap (l[·]?)) (frL l hd (pureA l pu a) u) w1) :
    (Code.region id l.toArray true).wp P Q a w := by
  have hdd : ∀ p ∈ hd, ∀ q ∈ hd, p ≠ q → ((l[p]?).bind (·.dst)) ≠ ((l[q]?).bind (·.dst)) := fun p hp q hq hpq => by
    have h1 := List.all_eq_true.1 hD p hp
    have h2 := List.all_eq_true.1 h1 q hq
    simp only [Bool.or_eq_true, decide_eq_true_eq, bne_iff_ne] at h2
    rcases h2 with h2 | h2
    · exact absurd h2 hpq
    · exact h2
  unfold growLB at hB
  simp only [Bool.and_eq_true, decide_eq_true_eq] at hB
  obtain ⟨⟨⟨⟨⟨⟨hlt, hnd⟩, hdp⟩, hdis0⟩, hlen⟩, hwt⟩, hseq⟩ := hB
  have hdis : ∀ i ∈ hd, i ∉ pu := fun i hi hp => by
    have := List.all_eq_true.1 hdis0 i hi
    simp [hp] at this
  have hlt' : ∀ i ∈ hd, i < l.toArray.size := fun i hi => by simpa using List.all_eq_true.1 hlt i hi
  have htl : ∀ k ∈ tl, k < l.toArray.size := by
    have : ∀ (tl : List Nat) (listed : Array Bool), seqL .any l.toArray tl listed = true → ∀ k ∈ tl, k < l.toArray.size := by
      intro tl
      induction tl with
      | nil => intro _ _ k hk; simp at hk
      | cons j r ih =>
        intro listed h k hk
        simp only [seqL, Bool.and_eq_true, decide_eq_true_eq] at h
        rcases List.mem_cons.1 hk with rfl | hk
        · have h2 : k ∈ Region.ready .any l.toArray listed := by rw [h.1]; simp
          obtain ⟨_, o, ho, _⟩ := mem_ready.1 h2
          exact (Array.getElem?_eq_some_iff.1 ho).1
        · exact ih _ h.2 k hk
    exact this tl _ hseq
  have main : ∀ (f : Nat) (listed : Array Bool) (u : Nat → Value) (ρ : Nat → Nat × Nat) (w1 : World), LInv .any l.toArray pu hd listed → cntL listed hd = f → Bel w w1 →
      (∀ k ∈ hd, listed.getD k false = true → (Φ.getD k SPred.any).φ (u k) (ρ k).1 (ρ k).2 w1 ∧ w.heap.size ≤ (ρ k).1 ∧ (ρ k).1 ≤ (ρ k).2 ∧ (ρ k).2 ≤ w1.heap.size) →
      (∀ i j, i ∈ hd → j ∈ hd → listed.getD i false = true → listed.getD j false = true → i ≠ j → (ρ i).2 ≤ (ρ j).1 ∨ (ρ j).2 ≤ (ρ i).1) →
      wpAny P .any l.toArray (Nrm Q) (f + tl.length) listed (frL l hd (pureA l pu a) u) w1 := by
    intro f
    induction f with
    | zero =>
      intro listed u ρ w1 inv hcnt hb hΦ hdj
      have hall := cntL_zero hcnt
      have hle := doneL_eq (hd := pu ++ hd) inv.size (fun i hi => by
        rcases List.mem_append.1 hi with h | h
        · exact inv.pure_ i h
        · exact hall i h) (fun t ht => inv.tail t (fun h => ht (List.mem_append_left _ h)) (fun h => ht (List.mem_append_right _ h)))
      have := wpAny_of_seqL (P := P) (md := .any) (ops := l.toArray) (Q' := Nrm Q) tl listed (frL l hd (pureA l pu a) u) w1 htl (by rw [hle]; exact hseq)
        (by
          have := htail u ρ w1 hb (fun k hk => hΦ k hk (hall k hk)) (fun i j hi hj hij => hdj i j hi hj (hall i hi) (hall j hj) hij)
          simpa using this)
      rwa [Nat.zero_add]
    | succ f ih =>
      intro listed u ρ w1 inv hcnt hb hΦ hdj
      have hun0 := cntL_pos (listed := listed) (r := hd) (by omega)
      have hsz := inv.size
      rw [show f + 1 + tl.length = (f + tl.length) + 1 by omega]
      refine ⟨fun h => ?_, fun i hi => ?_⟩
      · exfalso
        obtain ⟨i, hi, hl, o, ho, hall⟩ := depsL_first hdp (fun d h => inv.pure_ d h) hun0
        have : i ∈ Region.ready .any l.toArray listed := mem_ready.2 ⟨getD_in (by have := hlt' i hi; omega) hl, o, ho, hall⟩
        rw [h] at this
        cases this
      · obtain ⟨hun, o, ho, hall⟩ := mem_ready.1 hi
        have hin : i ∈ hd := by
          cases hc : hd.contains i with
          | true => simpa using hc
          | false =>
            exfalso
            have h1 := List.all_eq_true.1 hwt i (List.mem_range.2 (Array.getElem?_eq_some_iff.1 ho).1)
            have hnp : pu.contains i = false := by
              cases hpc : pu.contains i with
              | false => rfl
              | true =>
                have h9 := inv.pure_ i (by simpa using hpc)
                rw [getD_both hun] at h9; cases h9
            rw [hc, hnp, Bool.false_or, Bool.false_or] at h1
            obtain ⟨j, hj, hjl⟩ := hun0
            have h2 := List.all_eq_true.1 h1 j hj
            have h3 := waitsT_listed inv 3 i j (fun o' ho' e he hb => by
              have : o' = o := Option.some.inj (ho'.symm.trans ho)
              subst this
              exact hall e he hb) h2
            rw [h3] at hjl; cases hjl
        have hlo : l[i]? = some o := by simpa using ho
        refine wpOp_only ho (fun _ _ _ h => h.1) ?_ (stepsL_at hstep i hin o hlo u ρ w1 hb (fun k hk => ?_))
        · rintro a' w2 ⟨_, v, rfl, hb2, hv⟩
          have hput := frL_put (a := pureA l pu a) (u := u) (v := v) hnd hdd hin
          rw [hlo] at hput
          have hput2 : (frL l hd (pureA l pu a) u).put o.dst v = frL l hd (pureA l pu a) (fun k => if k = i then v else u k) := hput
          rw [hput2]
          have hcs := cntL_set (listed := listed) (i := i) (by have := hlt' i hin; omega) (getD_both hun) hnd hin
          refine ih _ _ (fun k => if k = i then (w1.heap.size, w2.heap.size) else ρ k) w2 (inv.set hi hin) (by omega) (hb.trans hb2) (fun k hk hlk => ?_) (fun p q hp hq hlp hlq hpq => ?_)
          · by_cases e : k = i
            · subst e
              simp only [if_true]
              exact ⟨hv, hb.size, hb2.size, Nat.le_refl _⟩
            · simp only [if_neg e]
              rw [getD_set_neF (Ne.symm e)] at hlk
              obtain ⟨h1, h2, h3, h4⟩ := hΦ k hk hlk
              exact ⟨(Φ.getD k SPred.any).st _ _ _ _ _ h1 hb2, h2, h3, Nat.le_trans h4 hb2.size⟩
          · by_cases e1 : p = i
            · subst e1
              have e2 : q ≠ p := Ne.symm hpq
              simp only [if_true, if_neg e2]
              rw [getD_set_neF (Ne.symm e2)] at hlq
              exact .inr (hΦ q hq hlq).2.2.2
            · by_cases e2 : q = i
              · subst e2
                simp only [if_true, if_neg e1]
                rw [getD_set_neF (Ne.symm e1)] at hlp
                exact .inl (hΦ p hp hlp).2.2.2
              · simp only [if_neg e1, if_neg e2]
                rw [getD_set_neF (Ne.symm e1)] at hlp
                rw [getD_set_neF (Ne.symm e2)] at hlq
                exact hdj p q hp hq hlp hlq hpq
        · simp only [Bool.and_eq_true] at hk
          obtain ⟨hkh0, hk⟩ := hk
          have hkl : listed.getD k false = true := by
            obtain ⟨o', ho', e, he, hb', hon⟩ := Region.waitsFor_spec hk
            have : o' = o := Option.some.inj (ho'.symm.trans ho)
            subst this
            have h1 := hall e he hb'
            rw [hon] at h1
            exact h1
          exact (hΦ k (by simpa using hkh0) hkl).1
  refine wp_region_any hm ?_
  refine wpAny_nrm _ _ _ _ ?_
  obtain ⟨u0, hu0⟩ := frL_self (l := l) hd hnd (pureA l pu a)
  have hbase : ∀ j, (Array.replicate l.toArray.size false).getD j false = false := getD_replicate_false _
  have hafter : ∀ (r : List Nat) (x : Array Bool), pureB .any l.toArray r x = true → ∀ i ∈ r, ∀ o, l.toArray[i]? = some o → o.after = #[] := by
    intro r
    induction r with
    | nil => intro _ _ i hi; simp at hi
    | cons p r ih =>
      intro x hx i hi o ho
      simp only [pureB, Bool.and_eq_true] at hx
      rcases List.mem_cons.1 hi with rfl | hi
      · have h1 := hx.1
        unfold pureOp at h1
        rw [ho] at h1
        simp only [Bool.and_eq_true] at h1
        simpa using h1.1.1.1.1
      · exact ih _ hx.2 i hi o ho
  have hsz1 : (setAll pu (Array.replicate l.toArray.size false)).size = l.toArray.size := by rw [setAll_size]; simp
  have hget : ∀ i, i < l.toArray.size → ((setAll pu (Array.replicate l.toArray.size false)).getD i false = true ↔ i ∈ pu) := fun i hi => by
    rw [setAll_get pu _ i (by simpa using hi), hbase]; simp
  have hpul : ∀ (r : List Nat) (x : Array Bool), pureB .any l.toArray r x = true → ∀ i ∈ r, i < l.toArray.size := by
    intro r
    induction r with
    | nil => intro _ _ i hi; simp at hi
    | cons p r ih =>
      intro x hx i hi
      simp only [pureB, Bool.and_eq_true] at hx
      rcases List.mem_cons.1 hi with rfl | hi
      · have h1 := hx.1
        unfold pureOp at h1
        cases ho : l.toArray[i]? with
        | none => rw [ho] at h1; simp at h1
        | some o => exact (Array.getElem?_eq_some_iff.1 ho).1
      · exact ih _ hx.2 i hi
  have inv0 : LInv .any l.toArray pu hd (setAll pu (Array.replicate l.toArray.size false)) := by
    refine ⟨hsz1, fun i hi => (hget i (hpul pu _ hP i hi)).2 hi, fun j oj hoj hl e he _ => ?_, fun t hp _ ht => ?_⟩
    · have hj := (hget j (Array.getElem?_eq_some_iff.1 hoj).1).1 hl
      rw [hafter pu _ hP j hj oj hoj] at he
      simp at he
    · refine getD_in (by rw [hsz1]; exact ht) ?_
      cases hc : (setAll pu (Array.replicate l.toArray.size false)).getD t false with
      | false => rfl
      | true => exact absurd ((hget t ht).1 hc) hp
  have hun : ∀ i ∈ hd, (setAll pu (Array.replicate l.toArray.size false)).getD i false = false := fun i hi => by
    cases hc : (setAll pu (Array.replicate l.toArray.size false)).getD i false with
    | false => rfl
    | true => exact absurd ((hget i (hlt' i hi)).1 hc) (hdis i hi)
  have hcnt : ∀ r : List Nat, (∀ i ∈ r, i ∈ hd) → cntL (setAll pu (Array.replicate l.toArray.size false)) r = r.length := by
    intro r
    induction r with
    | nil => intro _; rfl
    | cons p r ih =>
      intro h
      unfold cntL
      rw [ih (fun i hi => h i (List.mem_cons_of_mem _ hi)), hun p (h p (by simp))]
      simp
  have := main hd.length (setAll pu (Array.replicate l.toArray.size false)) u0 (fun _ => (0, 0)) { w with drawn := w.drawn + 1 } inv0 (hcnt hd (fun _ h => h)) (Bel.refl w).drew
    (fun k hk h => by rw [hun k hk] at h; cases h) (fun i j hi _ h => by rw [hun i hi] at h; cases h)
  rw [← hu0] at this
  have h3 := wpAny_pure hN pu (hd.length + tl.length) _ a _ hP this
  rwa [show pu.length + (hd.length + tl.length) = l.toArray.size by omega] at h3
end Go.Cb

/- The library: parts of a row of the call's own. -/
namespace Go.Cb
open Go.RowKit
section
variable {α : Type} {d : Ty α} {e : TypeId} {w : World} {base g n c : Nat} {S : Nat → Prop} {xs : List α}
theorem Own.sub (h : Own d e w base S (.slice (some ⟨g, 0, none⟩) n c) xs) (hn : n = xs.length) {j : Nat} (hj : j ≤ n) :
    ∃ news : List Value, news.length = (xs.drop j).length * d.sz ∧ (∀ i u, news[i]? = some u → w.cell? ⟨g, j * d.sz + i, none⟩ = some u) ∧ (∀ u ∈ news, u.oneCell' = true) ∧
      ∀ i x, (xs.drop j)[i]? = some x → d.rd w (fun k => S k ∧ k ≠ g) x ((news.drop (i * d.sz)).take d.sz) := by
  subst hn
  obtain ⟨inner, ho, hr⟩ := h
  have hil : inner.length = xs.length * d.sz := ho.1
  have hrd : ∀ i x, (xs.drop j)[i]? = some x → d.rd w (fun k => S k ∧ k ≠ g) x (((inner.drop (j * d.sz)).drop (i * d.sz)).take d.sz) := fun i x hx => by
    rw [List.getElem?_drop] at hx
    have := hr (j + i) x hx
    rw [List.drop_drop, ← Nat.add_mul]
    exact d.mono (fun k hk => ⟨hk.1, fun e => hk.2 (by rw [e]; rfl)⟩) this
  refine ⟨inner.drop (j * d.sz), by rw [List.length_drop, List.length_drop, hil, Nat.sub_mul], fun i u hu => ?_, fun u hu => ?_, hrd⟩
  · rw [List.getElem?_drop] at hu
    have := ho.cells (g := g) rfl _ _ hu
    rwa [add_plain] at this
  · obtain ⟨i, hi, rfl⟩ := List.getElem_of_mem hu
    have hp := d.pos
    rw [List.length_drop, hil, ← Nat.sub_mul] at hi
    have hq : i / d.sz < (xs.drop j).length := by rw [List.length_drop]; exact Nat.div_lt_of_lt_mul (by rwa [Nat.mul_comm] at hi)
    have h1 := hrd (i / d.sz) _ (List.getElem?_eq_getElem hq)
    refine d.one h1 _ ?_
    have h2 : (((inner.drop (j * d.sz)).drop (i / d.sz * d.sz)).take d.sz)[i % d.sz]? = some ((inner.drop (j * d.sz))[i]) := by
      have e9 : i / d.sz * d.sz + i % d.sz = i := by rw [Nat.mul_comm]; exact Nat.div_add_mod _ _
      rw [List.getElem?_take, if_pos (Nat.mod_lt _ hp), List.getElem?_drop, e9]
      exact List.getElem?_eq_getElem _
    exact List.mem_of_getElem? h2
theorem Own.pre {A : Option Addr} (h : Own d e w base S (.slice A n c) xs) {i : Nat} (hi : i ≤ xs.length) : Own d e w base S (.slice A i c) (xs.take i) := by
  obtain ⟨A', c', he, _⟩ := h.rd
  injection he with e1 e2 e3
  subst e1 e2 e3
  rcases Nat.eq_zero_or_pos xs.length with h0 | h0
  · have : xs = [] := List.eq_nil_of_length_eq_zero h0
    subst this
    obtain rfl : i = 0 := by simpa using hi
    exact h
  · obtain ⟨g, rfl, _, _⟩ := h.addr h0
    exact h.prefix_ rfl hi
end
section
variable {P : Program} {ops : Array Oper} {rest : List Oper} {o : Oper} {a : Act} {Q : Exit → Act → World → Prop}
/-- append(nil, row[j:]...): a row of the call's own, copied from j on: its elements lie outside of the row that they are copied from. -/
theorem wp_append_sub {α : Type} (d : Ty α) {w0 W : World} (t e : TypeId) (z : Value) (bytes : Nat) (hgd : o.guard = none) (s x : Operand)
    (ho : o.op = .call { callee := .builtin .append, args := #[s, x], argTypes := #[t, t] })
    (ht : P.underlying t = some (.slice e)) (hinfo : (P.info? e).map (fun i => (i.zero, i.size, i.bytes)) = some (some z, d.sz, bytes)) (hz : z.cells.size = d.sz)
    {base g c : Nat} {S : Nat → Prop} {xs : List α} (j : Nat) (hj : j ≤ xs.length) (n' c' : Nat) (hs : a.eval s = .slice none 0 0) (hx : a.eval x = .slice (some ⟨g, j * d.sz, none⟩) n' c') (hn : n' = (xs.drop j).length)
    (HO : Own d e W base S (.slice (some ⟨g, 0, none⟩) xs.length c) xs) (HB : Bel w0 W) (hl : xs.length ≤ maxLen) (hl2 : xs.length * bytes ≤ 140737488355328)
    (h : ∀ v1 w1, Own d e w1 w0.heap.size (fun k => S k ∧ k ≠ g) v1 (xs.drop j) → Bel w0 w1 → W.grownBy w1 none → wpList P ops Q rest (a.put o.dst v1) w1) :
    wpList P ops Q (o :: rest) a W := by
  subst hn
  refine wpList_plain hgd fun K hK => ?_
  obtain ⟨news, h1, h2, h3, h4⟩ := HO.sub rfl hj
  have hle : (xs.drop j).length ≤ xs.length := by rw [List.length_drop]; omega
  obtain ⟨v1, w1, hr, k2, k3, k4, k5⟩ := run_appendC (P := P) d o.type t e z bytes ht hinfo hz (w0 := w0) (W := W) (fun k => S k ∧ k ≠ g) (.slice none 0 0) [] (xs.drop j) ⟨g, j * d.sz, none⟩ c' news (Own.nil _ _ _ _ _) h1
    (fun i u hu => by
      have := h2 i u hu
      have e1 : (⟨g, j * d.sz, none⟩ : Addr).add i = ⟨g, j * d.sz + i, none⟩ := by unfold Addr.add; split <;> simp_all
      rw [e1]; exact this) h3 (fun i x hx => d.mono (fun k hk => ⟨hk, fun e => absurd (show some k = none from e) (by simp)⟩) (h4 i x hx)) HB (by simp only [List.length_nil]; omega)
      (by simp only [List.length_nil, Nat.zero_add]; exact Nat.le_trans (Nat.mul_le_mul_right _ hle) hl2)
  unfold Oper.wp execOp
  simp only [ho, resolve, invoke, builtin, Sem.run_bind, Sem.run_pure, Result.andThen_ok, List.map_toArray, List.map_cons, List.map_nil, hs, hx, hr]
  exact hK _ _ (h v1 w1 (by simpa using k2) k3 k4)
end
/-- A linear set whose blocks were made from b on. -/
def SPred.linB (b : Nat) (l : List Int × List (List Int)) : SPred :=
  ⟨fun v _ hi w => ∃ A0 c0 A1 c1, v = .agg #[.slice A0 l.1.length c0, .slice A1 l.2.length c1] ∧ RdW w (fun k => b ≤ k ∧ k < hi) A0 c0 l.1 ∧ Rd wbT w (fun k => b ≤ k ∧ k < hi) A1 c1 l.2,
    fun _ _ _ _ _ ⟨A0, c0, A1, c1, e, h0, h1⟩ hb => ⟨A0, c0, A1, c1, e, h0.to hb, h1.to hb⟩⟩
/-- .. read alone. -/
def SPred.linR (b : Nat) (l : List Int × List (List Int)) : SPred :=
  ⟨fun v _ hi w => ∃ A0 c0 A1 c1, v = .agg #[.slice A0 l.1.length c0, .slice A1 l.2.length c1] ∧ Rd intT w (fun k => b ≤ k ∧ k < hi) A0 c0 l.1 ∧ Rd bagT w (fun k => b ≤ k ∧ k < hi) A1 c1 l.2,
    fun _ _ _ _ _ ⟨A0, c0, A1, c1, e, h0, h1⟩ hb => ⟨A0, c0, A1, c1, e, h0.to hb, h1.to hb⟩⟩
/-- A row of one linear set. -/
def SPred.litR (b : Nat) (t : TypeId) (l : List Int × List (List Int)) : SPred :=
  ⟨fun v lo hi w => v = .slice (some ⟨lo, 0, none⟩) 1 1 ∧ b ≤ lo ∧ lo < hi ∧ ∃ A0 c0 A1 c1, w.heap[lo]? = some (.cells #[.slice A0 l.1.length c0, .slice A1 l.2.length c1] t (0, 0)) ∧ Rd intT w (fun k => b ≤ k ∧ k < lo) A0 c0 l.1 ∧ Rd bagT w (fun k => b ≤ k ∧ k < lo) A1 c1 l.2,
    fun _ _ _ _ _ ⟨e, h1, h2, A0, c0, A1, c1, h3, h4, h5⟩ hb => ⟨e, h1, h2, A0, c0, A1, c1, (hb.block (blk_lt h3)).trans h3, h4.to hb, h5.to hb⟩⟩
theorem SPred.litR_rd {b : Nat} {t : TypeId} {l : List Int × List (List Int)} {v : Value} {lo hi : Nat} {w : World} (h : (SPred.litR b t l).φ v lo hi w) :
    v = .slice (some ⟨lo, 0, none⟩) 1 1 ∧ b ≤ lo ∧ lo < w.heap.size ∧ Rd linT w (fun k => b ≤ k ∧ k < lo + 1) (some ⟨lo, 0, none⟩) 1 [l] := by
  obtain ⟨e, h1, h2, A0, c0, A1, c1, h3, h4, h5⟩ := h
  refine ⟨e, h1, blk_lt h3, by simp, by decide, fun j x hj => ?_⟩
  rcases j with _ | j
  · obtain rfl : l = x := by simpa using hj
    refine ⟨_, [.slice A0 l.1.length c0, .slice A1 l.2.length c1], rfl, ⟨h1, Nat.lt_succ_self _⟩, lin_mk (h4.mono (fun k hk => ⟨hk.1, by omega⟩)) (h5.mono (fun k hk => ⟨hk.1, by omega⟩)), fun i u hu => ?_⟩
    rw [add_plain, cellAt h3, show 0 * linT.sz + i = i by omega]
    rcases i with _ | _ | i
    · exact hu
    · exact hu
    · simp at hu
  · simp at hj
end Go.Cb

/- Walks: semilinear sets alike; the document's, made. -/
namespace Go.Proofs.Ytfkopkjioohgoaa
open Go.RowKit Go.Cb Go.Sort
set_option maxRecDepth 100000 in
set_option maxHeartbeats 8000000 in
theorem sameSem_c (S S' : Nat → Prop) (A B : Option Addr) (c d : Nat) (s t : SemS) (w : World) (h : Rd linT w S A c s) (h2 : Rd linT w S' B d t) (n m : Nat) (hn : n = s.length) (hm : m = t.length) :
    Calls Try.prog 15 #[.slice A n c, .slice B m d] w fun e w' => e = .returned (.bool (decide (s = t))) ∧ Bel w w' := by
  subst hn hm
  have lm := h.lenMax
  have lm2 := h2.lenMax
  by_cases hl : s.length = t.length
  · have hlc : ((s.length : Int) != (t.length : Int)) = false := by simp; omega
    have Hl := Lib.hid hl
    clear hl
    go_enter Try.func15, Try.ntmps15
    go_wp2
    go_loopw [13] (fun v wr => ∃ (k : Nat) (W : World), W = wr ∧ k ≤ s.length ∧ v = .int .i64 k ∧ Hid (s.take k = t.take k) ∧ Bel w W) (fun v _ => s.length - (intOf v).toNat)
    case atStart => exact ⟨0, _, rfl, Nat.zero_le _, rfl, rfl, Bel.refl _⟩
    case round =>
      obtain ⟨k, W, rfl, hk, rfl, hp, hb⟩ := hrel
      by_cases hlt : k < s.length
      · have hltb : k < t.length := by rw [← Hl.out]; exact hlt
        obtain ⟨ad, A0, c0, A1, c1, rfl, g0, g1, r0, r1⟩ := (h.to hb).lrow hlt
        obtain ⟨bd, B0, d0, B1, d1, rfl, g2, g3, q0, q1⟩ := (h2.to hb).lrow hltb
        obtain ⟨x, hx⟩ : ∃ x, s[k] = x := ⟨_, rfl⟩
        obtain ⟨y, hy⟩ : ∃ y, t[k] = y := ⟨_, rfl⟩
        rw [hx] at g0 g1 r0 r1
        rw [hy] at g2 g3 q0 q1
        have HX := Lib.hid hx
        have HY := Lib.hid hy
        have G0 := cellReg g0
        have G1 := cellReg g1
        have G2 := cellReg g2
        have G3 := cellReg g3
        have k1 : (k : Int) < (s.length : Int) := by omega
        have k2 : (k : Int) < (t.length : Int) := by omega
        clear hx hy g0 g1 g2 g3
        by_cases he : x = y
        · have Hs := Lib.hid (take_snoc hp.out hlt hltb (by rw [HX.out, HY.out, he]))
          have K1 := Lib.hid (show ∀ W', Bel W W' → Calls Try.prog 30 #[.agg #[.slice A0 x.1.length c0, .slice A1 x.2.length c1], .agg #[.slice B0 y.1.length d0, .slice B1 y.2.length d1]] W' fun e w' => e = .returned (.bool true) ∧ Bel W' w' from fun W' h => by
            have := sameLin_c _ _ _ _ _ _ _ _ _ _ _ _ x y W' (r0.to h) (r1.to h) (q0.to h) (q1.to h) _ _ _ _ rfl rfl rfl rfl
            rwa [decide_eq_true he] at this)
          clear he
          go_wp2
          refine wp_region_quiet_below (by kernel_rfl) (by kernel_rfl) ?_
          repeat (go_big_quiet_step (first | with_reducible exact callsReg K1.out))
          refine wpQuiet_nil ?_
          intro _ hw'
          obtain ⟨⟨dq, oq⟩, hw''⟩ := hw'
          subst hw''
          go_wp2
          go_roundw
          case rel => exact ⟨k + 1, _, rfl, by omega, by go_num, Hs.out, hb.trans (bel_regrown _ _ _)⟩
          case measure => simp [intOf]; omega
        · have Hs := Lib.hid (show decide (s = t) = false from decide_eq_false (fun e => he (by subst e; rw [← HX.out, ← HY.out])))
          have K1 := Lib.hid (show ∀ W', Bel W W' → Calls Try.prog 30 #[.agg #[.slice A0 x.1.length c0, .slice A1 x.2.length c1], .agg #[.slice B0 y.1.length d0, .slice B1 y.2.length d1]] W' fun e w' => e = .returned (.bool false) ∧ Bel W' w' from fun W' h => by
            have := sameLin_c _ _ _ _ _ _ _ _ _ _ _ _ x y W' (r0.to h) (r1.to h) (q0.to h) (q1.to h) _ _ _ _ rfl rfl rfl rfl
            rwa [decide_eq_false he] at this)
          clear he
          go_wp2
          refine wp_region_quiet_below (by kernel_rfl) (by kernel_rfl) ?_
          repeat (go_big_quiet_step (first | with_reducible exact callsReg K1.out))
          refine wpQuiet_nil ?_
          intro _ hw'
          obtain ⟨⟨dq, oq⟩, hw''⟩ := hw'
          subst hw''
          go_wp2
          go_ret
          exact ⟨by rw [Hs.out]; rfl, hb.trans (bel_regrown _ _ _)⟩
      · obtain rfl : k = s.length := by omega
        have Hs := Lib.hid (show decide (s = t) = true from decide_eq_true (take_all hp.out Hl.out))
        go_wp2
        go_ret
        exact ⟨by rw [Hs.out]; rfl, hb⟩
  · have hlc : ((s.length : Int) != (t.length : Int)) = true := by simp; omega
    have Hs := Lib.hid (show decide (s = t) = false from decide_eq_false (fun e => hl (by rw [e])))
    clear hl
    go_enter Try.func15, Try.ntmps15
    go_wp2
    go_ret
    exact ⟨by rw [Hs.out]; rfl, Bel.refl _⟩
theorem semOne_c (w : World) : Calls Try.prog 18 #[] w fun e w' => ∃ A c, e = .returned (.slice A 1 c) ∧ Rd linT w' (Ge w.heap.size) A c [([], [])] ∧ Rd wlinT w' (Ge w.heap.size) A c [([], [])] ∧ Bel w w' := by
  have hc := heap_alloc_new w (.cells #[.slice none 0 0, .slice none 0 0] 46)
  have hw : Rd wlinT (w.alloc (.cells #[.slice none 0 0, .slice none 0 0] 46)) (Ge w.heap.size) (some ⟨w.heap.size, 0, none⟩) 1 [([], [])] := by
    refine ⟨by simp, by decide, fun j x hj => ?_⟩
    rcases j with _ | j
    · obtain rfl : (([], []) : Lin) = x := by simpa using hj
      refine ⟨_, [.slice none 0 0, .slice none 0 0], rfl, Nat.le_refl _, ⟨[.slice none 0 0], [.slice none 0 0], rfl, ⟨none, 0, rfl, RdW.nil _ _ _ _ (by decide)⟩, ⟨none, 0, rfl, Rd.nil _ _ _ _ _ (by decide)⟩⟩, fun i u hu => ?_⟩
      rw [add_plain, cellAt hc, show 0 * wlinT.sz + i = i by omega]
      rcases i with _ | _ | i
      · exact hu
      · exact hu
      · simp at hu
    · simp at hj
  have hr : Rd linT (w.alloc (.cells #[.slice none 0 0, .slice none 0 0] 46)) (Ge w.heap.size) (some ⟨w.heap.size, 0, none⟩) 1 [([], [])] := hw.as rfl (fun _ _ _ => wlin_lin)
  go_enter Try.func18, Try.ntmps18
  go_wp2
  go_ret
  exact ⟨_, _, rfl, hr, hw, (Bel.refl _).alloc _⟩
end Go.Proofs.Ytfkopkjioohgoaa

/- Walks: the document's semilinear sets, made. -/
namespace Go.Cb
open Go.RowKit
theorem Own.lrow {e : TypeId} {w : World} {base n c : Nat} {A : Option Addr} {S : Nat → Prop} {xs : List (List Int × List (List Int))} (h : Own linT e w base S (.slice A n c) xs) {k : Nat} (hk : k < xs.length) :
    ∃ g A0 c0 A1 c1, A = some ⟨g, 0, none⟩ ∧ base ≤ g ∧ g < w.heap.size ∧ w.cell? ⟨g, k * 2, none⟩ = some (.slice A0 xs[k].1.length c0) ∧ w.cell? ⟨g, k * 2 + 1, none⟩ = some (.slice A1 xs[k].2.length c1) ∧ Rd intT w (fun k => S k ∧ k ≠ g) A0 c0 xs[k].1 ∧ Rd bagT w (fun k => S k ∧ k ≠ g) A1 c1 xs[k].2 := by
  obtain ⟨A', c', he, _⟩ := h.rd
  injection he with e1 e2 e3
  subst e1 e2 e3
  obtain ⟨g, rfl, hg1, hg2⟩ := h.addr (by omega)
  obtain ⟨inner, ho, hr⟩ := h
  have hil : inner.length = xs.length * 2 := ho.1
  obtain ⟨A0, c0, A1, c1, hcs, r0, r1⟩ := lin_rd (hr k xs[k] (List.getElem?_eq_getElem hk))
  have h1 : (inner.drop (k * 2)).take 2 = [.slice A0 xs[k].1.length c0, .slice A1 xs[k].2.length c1] := hcs
  have g0 : inner[k * 2 + 0]? = some (.slice A0 xs[k].1.length c0) := by
    have : ((inner.drop (k * 2)).take 2)[0]? = some (.slice A0 xs[k].1.length c0) := by rw [h1]; rfl
    rwa [List.getElem?_take, if_pos (by omega), List.getElem?_drop] at this
  have g1 : inner[k * 2 + 1]? = some (.slice A1 xs[k].2.length c1) := by
    have : ((inner.drop (k * 2)).take 2)[1]? = some (.slice A1 xs[k].2.length c1) := by rw [h1]; rfl
    rwa [List.getElem?_take, if_pos (by omega), List.getElem?_drop] at this
  have f0 := ho.cells (g := g) rfl _ _ g0
  have f1 := ho.cells (g := g) rfl _ _ g1
  rw [add_plain] at f0 f1
  exact ⟨g, A0, c0, A1, c1, rfl, hg1, hg2, f0, f1, r0.mono (fun q hq => ⟨hq.1, fun e => hq.2 (by rw [e]; rfl)⟩), r1.mono (fun q hq => ⟨hq.1, fun e => hq.2 (by rw [e]; rfl)⟩)⟩
theorem ofS_at {l : SemS} {k : Nat} {x : Lin} (h : l[k]? = some x) : (l.take (k + 1)).foldl (putO cmpLin) [] = putO cmpLin ((l.take k).foldl (putO cmpLin) []) x := by
  rw [List.take_add_one, h, List.foldl_append]; rfl
theorem all_snocL {l : SemS} {k : Nat} {x : Lin} (hx : l[k]? = some x) (h : ∀ y ∈ l.take k, rightL y = true) (hr : rightL x = true) : ∀ y ∈ l.take (k + 1), rightL y = true := by
  intro y hy
  rw [List.take_add_one, hx] at hy
  rcases List.mem_append.1 hy with h1 | h1
  · exact h y h1
  · simp at h1; subst h1; exact hr
end Go.Cb
namespace Go.Proofs.Ytfkopkjioohgoaa
open Go.RowKit Go.Cb Go.Sort
theorem info_lin : (Try.prog.info? 46).map (fun i => (i.zero, i.size, i.bytes)) = some (some (.agg #[.slice none 0 0, .slice none 0 0]), 2, 48) := by kernel_rfl
end Go.Proofs.Ytfkopkjioohgoaa
