/- Plain laws: is a word one of a set's; do tags cover a set. -/
import Derived.Test.YtmdcgekiiopohaaGreatPureA
import Derived.Test.YtmdcgekiiopohaaGreatPureR
set_option linter.unusedVariables false
set_option linter.unusedSimpArgs false
set_option linter.all false
namespace Go.Cb
/-- The items behind so many letters of a word. -/
def readS (s : SemS) (w : List Int) : Nat → List Itm
  | 0 => startS s
  | d + 1 => (nextS none s (readS s w d) (lettI w (d : Int))).2.1
def digB (w : List Int) (k : Nat) : Nat := (w.take k).foldl (fun a n => max a (Go.Lib.bitLen n.toNat)) 0
def hasS (s : SemS) (w : List Int) : Bool := (readS s w (digB w w.length)).any fun x => x.2.length == 0
theorem bitAux_lt : ∀ (f x : Nat), x < 2 ^ f → x < 2 ^ Go.Lib.bitLenAux f x
  | 0, x, h => by simpa [Go.Lib.bitLenAux] using h
  | f + 1, x, h => by
    rw [Go.Lib.bitLenAux]
    split
    · omega
    · have ih := bitAux_lt f (x / 2) (by rw [Nat.pow_succ] at h; omega)
      rw [Nat.add_comm, Nat.pow_succ]
      omega
theorem digB_succ {w : List Int} {k : Nat} {x : Int} (h : w[k]? = some x) : digB w (k + 1) = max (digB w k) (Go.Lib.bitLen x.toNat) := by
  unfold digB
  rw [List.take_add_one, h, List.foldl_append]; rfl
theorem digB_mem {w : List Int} : ∀ {k i : Nat}, i < k → ∀ {x : Int}, w[i]? = some x → Go.Lib.bitLen x.toNat ≤ digB w k
  | k + 1, i, hi, x, hx => by
    have hil := (List.getElem?_eq_some_iff.1 hx).1
    by_cases hk : k < w.length
    · rw [digB_succ (List.getElem?_eq_getElem hk)]
      by_cases e : i = k
      · subst e
        rw [List.getElem?_eq_getElem hk] at hx
        injection hx with hx
        rw [hx]; exact Nat.le_max_right _ _
      · have := digB_mem (w := w) (k := k) (i := i) (by omega) hx
        exact Nat.le_trans this (Nat.le_max_left _ _)
    · have := digB_mem (w := w) (k := k) (i := i) (by omega) hx
      have e : digB w (k + 1) = digB w k := by
        unfold digB
        rw [List.take_of_length_le (by omega), List.take_of_length_le (by omega)]
      omega
theorem digB_le {w : List Int} (hw : rightB w = true) : ∀ k, digB w k ≤ 62
  | 0 => Nat.zero_le _
  | k + 1 => by
    by_cases hk : k < w.length
    · rw [digB_succ (List.getElem?_eq_getElem hk)]
      have h1 := digB_le hw k
      have h2 := right_ok hw w[k] (List.getElem_mem hk)
      have h3 : Go.Lib.bitLen w[k].toNat ≤ 62 := Go.Lib.bitLen_le _ 62 (by omega) (by unfold far at h2; omega)
      omega
    · have e : digB w (k + 1) = digB w k := by
        unfold digB
        rw [List.take_of_length_le (by omega), List.take_of_length_le (by omega)]
      have := digB_le hw k
      omega
theorem digB_zero {w : List Int} (hw : rightB w = true) (t : Nat) : w.getD t 0 / 2 ^ digB w w.length = 0 := by
  by_cases ht : t < w.length
  · have hx : w[t]? = some w[t] := List.getElem?_eq_getElem ht
    have h1 := digB_mem (w := w) (k := w.length) ht hx
    have h2 := right_ok hw w[t] (List.getElem_mem ht)
    rw [List.getD_eq_getElem?_getD, hx, Option.getD_some]
    have h3 : w[t].toNat < 2 ^ Go.Lib.bitLen w[t].toNat := bitAux_lt 64 _ (by unfold far at h2; omega)
    have h4 : (2 : Nat) ^ Go.Lib.bitLen w[t].toNat ≤ 2 ^ digB w w.length := Nat.pow_le_pow_right (by decide) h1
    refine Int.ediv_eq_zero_of_lt h2.1 ?_
    have h5 : ((2 ^ digB w w.length : Nat) : Int) = (2 : Int) ^ digB w w.length := by push_cast; rfl
    rw [← h5]
    omega
  · rw [List.getD_eq_getElem?_getD, List.getElem?_eq_none (by omega)]
    exact Int.zero_ediv _
theorem readS_box {s : SemS} (hs : SetP s) (w : List Int) : ∀ d, BoxI s (readS s w d)
  | 0 => startS_box hs
  | d + 1 => by
    obtain ⟨l', he, hb, _⟩ := next_none hs (readS_box hs w d) (lettI w (d : Int))
    rw [readS, he]
    exact hb
theorem readS_next {s : SemS} (hs : SetP s) (w : List Int) (d : Nat) : nextS none s (readS s w d) (lettI w (d : Int)) = (none, readS s w (d + 1), 0) := by
  obtain ⟨l', he, _, _⟩ := next_none hs (readS_box hs w d) (lettI w (d : Int))
  rw [readS, he]
theorem read_run {s : SemS} (hs : SetP s) {j : Nat} (hj : j < s.length) {w : List Int} (hw : rightB w = true) (hw4 : w.length ≤ 4) {f : Nat → Nat} (h : ∀ t, w.getD t 0 = (s.getD j ([], [])).1.getD t 0 + dotF f t (s.getD j ([], [])).2 0) : ∀ d, d ≤ 63 → ReadTo s j w f d (readS s w d)
  | 0, _ => read_start hs hj h
  | d + 1, hd => by
    obtain ⟨l', he, _, hm⟩ := next_none hs (readS_box hs w d) (lettI w (d : Int))
    rw [readS, he]
    exact read_step hs (readS_box hs w d) hj hw hw4 (by omega) (read_run hs hj hw hw4 h d (by omega)) hm
/-- What a set's Base and Periods make is one of its words. -/
theorem hasS_yes {s : SemS} (hs : SetP s) {j : Nat} (hj : j < s.length) {w : List Int} (hw : rightB w = true) (hw4 : w.length ≤ 4) {f : Nat → Nat} (h : ∀ t, w.getD t 0 = (s.getD j ([], [])).1.getD t 0 + dotF f t (s.getD j ([], [])).2 0) : hasS s w = true :=
  read_done hs (readS_box hs w _) hj (read_run hs hj hw hw4 h _ (by have := digB_le hw w.length; omega)) (fun t => digB_zero hw t)
/-! ### covers -/
theorem dotF_zero (t : Nat) : ∀ (ps : List (List Int)) (i : Nat), dotF (fun _ => 0) t ps i = 0
  | [], _ => rfl
  | p :: r, i => by rw [dotF, dotF_zero t r (i + 1)]; simp
theorem dotF_one (t q : Nat) : ∀ (ps : List (List Int)) (i : Nat), i ≤ q → dotF (fun j => if j = q then 1 else 0) t ps i = (ps.getD (q - i) []).getD t 0
  | [], i, h => by simp [dotF]
  | p :: r, i, h => by
    rw [dotF]
    by_cases e : i = q
    · subst e
      rw [dotF_congr (g := fun _ => 0) (fun j h1 _ => if_neg (by omega)), dotF_zero, if_pos rfl, Nat.sub_self]
      simp
    · rw [dotF_one t q r (i + 1) (by omega), if_neg e, show q - i = (q - (i + 1)) + 1 by omega]
      simp
theorem anyB_iff {b tags : List Int} : anyB b tags = true ↔ ∃ t ∈ tags, hasB b t = true := by unfold anyB; exact List.any_eq_true
theorem hasB_iff {b : List Int} {t : Int} (h0 : 0 ≤ t) : hasB b t = true ↔ 0 < b.getD t.toNat 0 := by
  unfold hasB
  simp only [Bool.and_eq_true, decide_eq_true_eq]
  constructor
  · exact fun h => h.2
  · intro h
    refine ⟨⟨h0, ?_⟩, h⟩
    by_cases hl : t.toNat < b.length
    · omega
    · rw [List.getD_eq_getElem?_getD, List.getElem?_eq_none (by omega)] at h
      simp at h
/-- More of a word has what less of it has. -/
theorem anyB_more {a b tags : List Int} (ht : ∀ t ∈ tags, 0 ≤ t) (h : ∀ i, a.getD i 0 ≤ b.getD i 0) (ha : anyB a tags = true) : anyB b tags = true := by
  obtain ⟨t, h1, h2⟩ := anyB_iff.1 ha
  have h3 := (hasB_iff (ht t h1)).1 h2
  exact anyB_iff.2 ⟨t, h1, (hasB_iff (ht t h1)).2 (by have := h t.toNat; omega)⟩
/-- Each word has one of the tags, or is empty, and that is free. -/
def goodB (free : Bool) (tags v : List Int) : Bool := anyB v tags || (free && v.length == 0)
theorem cover_yes {free : Bool} {tags : List Int} : ∀ {s : SemS} {w : List Int}, coverF free tags s = (true, w) → ∀ x ∈ s, anyB x.1 tags = true ∨ (x.1 = [] ∧ free = true ∧ ∀ p ∈ x.2, anyB p tags = true)
  | [], _, _, x, hx => by simp at hx
  | y :: r, w, h, x, hx => by
    rw [coverF] at h
    split at h
    · rename_i h1
      rcases List.mem_cons.1 hx with rfl | hx
      · exact .inl h1
      · exact cover_yes h x hx
    · split at h
      · cases h
      · rename_i h2
        have h2 : y.1 = [] ∧ free = true := ⟨by by_cases e : y.1 = []; exact e; exact absurd (.inl e) h2, by cases free; exact absurd (.inr rfl) h2; rfl⟩
        split at h
        · cases h
        · rename_i h3
          rcases List.mem_cons.1 hx with rfl | hx
          · exact .inr ⟨h2.1, h2.2, fun p hp => by
              have := List.find?_eq_none.1 h3 p hp
              simpa using this⟩
          · exact cover_yes h x hx
theorem cover_no {free : Bool} {tags : List Int} : ∀ {s : SemS} {w : List Int}, coverF free tags s = (false, w) → ∃ x ∈ s, (w = x.1 ∧ anyB w tags = false ∧ (w ≠ [] ∨ free = false)) ∨ (x.1 = [] ∧ w ∈ x.2 ∧ anyB w tags = false)
  | [], _, h => by cases h
  | y :: r, w, h => by
    rw [coverF] at h
    split at h
    · obtain ⟨x, hx, h1⟩ := cover_no h
      exact ⟨x, by simp [hx], h1⟩
    · rename_i h1
      have h1 : anyB y.1 tags = false := by cases hq : anyB y.1 tags; rfl; exact absurd hq h1
      split at h
      · rename_i h2
        injection h with _ h
        subst h
        exact ⟨y, by simp, .inl ⟨rfl, h1, h2⟩⟩
      · rename_i h2
        have h2 : y.1 = [] := by by_cases e : y.1 = []; exact e; exact absurd (.inl e) h2
        split at h
        · rename_i p h3
          injection h with _ h
          subst h
          have h4 := List.find?_some h3
          exact ⟨y, by simp, .inr ⟨h2, List.mem_of_find?_eq_some h3, by simpa using h4⟩⟩
        · obtain ⟨x, hx, h5⟩ := cover_no h
          exact ⟨x, by simp [hx], h5⟩
/-- What is told is one of its words, and none of those that are covered. -/
theorem cover_told {s : SemS} (hs : SetP s) {free : Bool} {tags w : List Int} (h : coverS s free tags = (false, w)) : rightB w = true ∧ w.length ≤ 4 ∧ hasS s w = true ∧ goodB free tags w = false := by
  unfold coverS at h
  rw [if_pos hs.right] at h
  obtain ⟨x, hx, h1⟩ := cover_no h
  obtain ⟨j, hj, hjx⟩ := List.mem_iff_getElem.1 hx
  have hgd : s.getD j ([], []) = x := by rw [getDs_of hj, hjx]
  rcases h1 with ⟨rfl, h2, h3⟩ | ⟨h2, h3, h4⟩
  · obtain ⟨b1, b2, _⟩ := hs.base x hx
    refine ⟨b1, b2, hasS_yes hs hj (f := fun _ => 0) b1 b2 (fun t => by rw [hgd, dotF_zero]; omega), ?_⟩
    unfold goodB
    rw [h2]
    rcases h3 with h3 | h3
    · have : (x.1.length == 0) = false := beq_eq_false_iff_ne.2 (fun e => h3 (List.eq_nil_of_length_eq_zero e))
      rw [this]; simp
    · rw [h3]; rfl
  · obtain ⟨b1, b2, _⟩ := hs.pl x hx w h3
    obtain ⟨q, hq, hqx⟩ := List.mem_iff_getElem.1 h3
    refine ⟨b1, b2, hasS_yes hs hj (f := fun j => if j = q then 1 else 0) b1 b2 (fun t => by
      rw [hgd, h2, getD0_nil, dotF_one t q x.2 0 (Nat.zero_le _), Nat.sub_zero, List.getD_eq_getElem?_getD (l := x.2), List.getElem?_eq_getElem hq, hqx, Option.getD_some]; omega), ?_⟩
    unfold goodB
    rw [h4]
    have hr : rightL x = true := rightS_each hs.right hx
    have hne : w.isEmpty = false := ((rightL_iff (b := x.1) (ps := x.2)).1 hr).2.each w h3 |>.1
    have : (w.length == 0) = false := beq_eq_false_iff_ne.2 (fun e => by rw [List.eq_nil_of_length_eq_zero e] at hne; cases hne)
    rw [this]; simp
/-- What holds of a sum of Base and some Periods, where tags cover the set. -/
def InvG (free : Bool) (tags : List Int) (ps : List (List Int)) (v : List Int) : Prop := anyB v tags = true ∨ (v = [] ∧ free = true ∧ ∀ p ∈ ps, anyB p tags = true)
theorem InvG.good {free : Bool} {tags : List Int} {ps : List (List Int)} {v : List Int} (h : InvG free tags ps v) : goodB free tags v = true := by
  unfold goodB
  rcases h with h | ⟨rfl, h, _⟩
  · rw [h]; rfl
  · rw [h]; simp
theorem InvG.add {free : Bool} {tags : List Int} {ps : List (List Int)} {v p : List Int} (h : InvG free tags ps v) (ht : ∀ t ∈ tags, 0 ≤ t) (hp : p ∈ ps) (hv : rightB v = true) (hp2 : rightB p = true) (ha : (addB v p).2 = true) : InvG free tags ps (addB v p).1 := by
  refine .inl ?_
  rcases h with h | ⟨rfl, _, h⟩
  · exact anyB_more ht (fun t => by rw [addB_getD ha]; have := (right_getD hp2 t).1; omega) h
  · exact anyB_more ht (fun t => by rw [addB_getD ha, getD0_nil]; omega) (h p hp)
theorem cover_inv {s : SemS} (hr : rightS s = true) {free : Bool} {tags w : List Int} (h : coverS s free tags = (true, w)) : ∀ x ∈ s, InvG free tags x.2 x.1 := by
  unfold coverS at h
  rw [if_pos hr] at h
  exact cover_yes h
/-- A tag, within those of a set. -/
def wiT (t : Int) : Int := withinI t 4
theorem wiT_set {ts : List Int} {q : Nat} {z : Int} (h : q < ts.length) (hz : ts[q] = z) : ((ts.take q).map wiT ++ ts.drop q).set q (withinI z 4) = (ts.take (q + 1)).map wiT ++ ts.drop (q + 1) := by
  rw [List.set_append_right _ _ (by rw [List.length_map, List.length_take]; omega), List.length_map, List.length_take, Nat.min_eq_left (by omega), Nat.sub_self, List.drop_eq_getElem_cons h, List.set_cons_zero, List.take_add_one, List.getElem?_eq_getElem h, hz]
  simp [wiT]
theorem wiT_at {ts : List Int} {q : Nat} {z : Int} (h : q < ts.length) (hz : ts[q] = z) (hp : q < ((ts.take q).map wiT ++ ts.drop q).length) : ((ts.take q).map wiT ++ ts.drop q)[q] = z := by
  have h9 : ((ts.take q).map wiT ++ ts.drop q)[q]? = some z := by
    rw [List.getElem?_append_right (by rw [List.length_map, List.length_take]; omega), List.length_map, List.length_take, Nat.min_eq_left (by omega), Nat.sub_self, List.getElem?_drop, Nat.add_zero, List.getElem?_eq_getElem h, hz]
  rw [List.getElem?_eq_getElem hp] at h9
  exact Option.some.inj h9
theorem wiT_pos {ts : List Int} : ∀ t ∈ ts.map wiT, 0 ≤ t := fun t ht => by
  obtain ⟨x, _, rfl⟩ := List.mem_map.1 ht
  have := withinI_range (v := x) (n := 4) (by decide)
  unfold wiT
  omega
end Go.Cb
