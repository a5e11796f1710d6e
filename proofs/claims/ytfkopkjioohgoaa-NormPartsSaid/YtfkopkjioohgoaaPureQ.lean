/- Plain laws: patterns, as the code looks at them: the pieces that are whole. -/
import Derived.Test.YtfkopkjioohgoaaMG
set_option linter.unusedVariables false
set_option linter.unusedSimpArgs false
set_option linter.all false
namespace Go.Cb
open Go.RowKit
/-- A piece: its last place, and whether there is a star in it. -/
def pcT : Ty (Int × Bool) where
  sz := 2
  pos := by omega
  rd := fun _ _ x cs => cs = [.int .i64 x.1, .bool x.2]
  len := fun h => by rw [h]; rfl
  one := fun h u hu => by
    rw [h] at hu
    simp only [List.mem_cons, List.not_mem_nil, or_false] at hu
    rcases hu with rfl | rfl <;> rfl
  mono := fun _ h => h
  bound := fun h => h
  step := fun _ h => h
structure PcP (i : Nat) (L : List (Int × Bool)) (op : List Int) (st : List Bool) : Prop where
  op : op = L.map (·.1)
  star : ∀ x ∈ L, st.getD x.1.toNat false = x.2
  off : ∀ j, i ≤ j → st.getD j false = false
theorem PcP.len {i : Nat} {L : List (Int × Bool)} {op : List Int} {st : List Bool} (h : PcP i L op st) : op.length = L.length := by rw [h.op, List.length_map]
theorem PcP.start (n : Nat) : PcP 0 [] [] (List.replicate n false) := ⟨rfl, by simp, fun j _ => by
  rw [List.getD_eq_getElem?_getD, List.getElem?_replicate]; split <;> rfl⟩
theorem PcP.push0 {i : Nat} {L : List (Int × Bool)} {op : List Int} {st : List Bool} (h : PcP i L op st) : PcP (i + 1) (L ++ [((i : Int), false)]) (op ++ [(i : Int)]) st :=
  ⟨by rw [h.op, List.map_append]; rfl, fun x hx => by
    rcases List.mem_append.1 hx with hx | hx
    · exact h.star x hx
    · simp only [List.mem_singleton] at hx
      subst hx
      exact h.off i (Nat.le_refl _), fun j hj => h.off j (by omega)⟩
theorem PcP.push {i n : Nat} {L : List (Int × Bool)} {op : List Int} {st : List Bool} (h : PcP i L op st) (ho : OkP i n op st) (hi : i < n) (k : Nat) (v : Bool) : PcP (i + 1) (L.take k ++ [((i : Int), v)]) (op.take k ++ [(i : Int)]) (st.set i v) :=
  ⟨by rw [h.op, List.map_append, List.map_take]; rfl, fun x hx => by
    rcases List.mem_append.1 hx with hx | hx
    · have hm := List.mem_of_mem_take hx
      have hb := ho.below x.1 (by rw [h.op]; exact List.mem_map.2 ⟨x, hm, rfl⟩)
      rw [getD_setB (by omega)]
      exact h.star x hm
    · simp only [List.mem_singleton] at hx
      subst hx
      show (st.set i v).getD ((i : Int)).toNat false = v
      rw [Int.toNat_natCast, getD_setB_eq (by rw [ho.stars]; exact hi)], fun j hj => by rw [getD_setB (by omega)]; exact h.off j (by omega)⟩
/-- A tag's node. -/
def tagB (tags : Int) (x : PN) : Bool := decide (0 ≤ x.n) && (decide (x.n < tags) && (decide (1 ≤ x.a) && (decide (x.a ≤ 999999999) && (x.b == 0))))
theorem stepP_tag_ok {tags : Int} {i : Nat} {x : PN} {op : List Int} {st : List Bool} (hk : x.k = 3) (h : tagB tags x = true) : stepP tags i x op st = some (op ++ [(i : Int)], st) := by
  unfold tagB at h
  simp only [Bool.and_eq_true, decide_eq_true_eq, beq_iff_eq] at h
  unfold stepP
  rw [if_neg (by omega), if_pos hk, if_neg (by omega)]
theorem stepP_tag_no {tags : Int} {i : Nat} {x : PN} {op : List Int} {st : List Bool} (hk : x.k = 3) (h : tagB tags x = false) : stepP tags i x op st = none := by
  unfold stepP
  rw [if_neg (by omega), if_pos hk, if_pos]
  by_cases hn : x.n < 0 ∨ tags ≤ x.n ∨ x.a < 1 ∨ 999999999 < x.a ∨ x.b ≠ 0
  · exact hn
  · have : tagB tags x = true := by
      unfold tagB
      simp only [Bool.and_eq_true, decide_eq_true_eq, beq_iff_eq]
      omega
    rw [this] at h; cases h
theorem stepP_one_ok {tags : Int} {i : Nat} {x : PN} {op : List Int} {st : List Bool} (hk : x.k = 1 ∨ x.k = 2) (h1 : x.a = 0) (h2 : x.b = 0) (h3 : x.n = 0) : stepP tags i x op st = some (op ++ [(i : Int)], st) := by
  unfold stepP; rw [if_pos hk, if_neg (by omega)]
theorem stepP_one_no {tags : Int} {i : Nat} {x : PN} {op : List Int} {st : List Bool} (hk : x.k = 1 ∨ x.k = 2) (h : x.a ≠ 0 ∨ x.b ≠ 0 ∨ x.n ≠ 0) : stepP tags i x op st = none := by
  unfold stepP; rw [if_pos hk, if_pos h]
theorem stepP_other {tags : Int} {i : Nat} {x : PN} {op : List Int} {st : List Bool} (h : x.k ≠ 1 ∧ x.k ≠ 2 ∧ x.k ≠ 3 ∧ x.k ≠ 4 ∧ x.k ≠ 5 ∧ x.k ≠ 6) : stepP tags i x op st = none := by
  unfold stepP; rw [if_neg (by omega), if_neg (by omega), if_neg (by omega), if_neg (by omega)]
theorem PcP.last {i : Nat} {L : List (Int × Bool)} {op : List Int} {st : List Bool} (h : PcP i L op st) {k : Nat} {y : Int × Bool} (hy : L[k]? = some y) : op.getD k 0 = y.1 ∧ st.getD y.1.toNat false = y.2 := by
  refine ⟨?_, h.star y (List.mem_of_getElem? hy)⟩
  rw [h.op, List.getD_eq_getElem?_getD, List.getElem?_map, hy]; rfl
theorem PcP.pair_few {tags : Int} {i : Nat} {x : PN} {L : List (Int × Bool)} {op : List Int} {st : List Bool} (h : PcP i L op st) (hk : x.k = 4 ∨ x.k = 5) (hl : L.length < 2) : stepP tags i x op st = none := by
  unfold stepP
  rw [if_neg (by omega), if_neg (by omega), if_pos hk, if_pos (.inl (by rw [h.len]; exact hl))]
theorem PcP.pair_no {tags : Int} {i : Nat} {x : PN} {L : List (Int × Bool)} {op : List Int} {st : List Bool} (h : PcP i L op st) (hk : x.k = 4 ∨ x.k = 5) {y z : Int × Bool} (hy : L[L.length - 2]? = some y) (hz : L[L.length - 1]? = some z) (hne : x.n ≠ 0 ∨ x.a ≠ y.1 ∨ x.b ≠ z.1) : stepP tags i x op st = none := by
  have h1 := (h.last hy).1
  have h2 := (h.last hz).1
  rw [← h.len] at h1 h2
  unfold stepP
  rw [if_neg (by omega), if_neg (by omega), if_pos hk, if_pos]
  rw [h1, h2]
  rcases hne with h | h | h
  · exact .inr (.inl h)
  · exact .inr (.inr (.inr (Ne.symm h)))
  · exact .inr (.inr (.inl (Ne.symm h)))
theorem PcP.pair_ok {tags : Int} {i : Nat} {x : PN} {L : List (Int × Bool)} {op : List Int} {st : List Bool} (h : PcP i L op st) (hk : x.k = 4 ∨ x.k = 5) (hl : 2 ≤ L.length) {y z : Int × Bool} (hy : L[L.length - 2]? = some y) (hz : L[L.length - 1]? = some z) (h1 : x.n = 0) (h2 : x.a = y.1) (h3 : x.b = z.1) :
    stepP tags i x op st = some (op.take (L.length - 2) ++ [(i : Int)], st.set i (y.2 || z.2)) := by
  obtain ⟨y1, y2⟩ := h.last hy
  obtain ⟨z1, z2⟩ := h.last hz
  unfold stepP
  rw [if_neg (by omega), if_neg (by omega), if_pos hk, h.len, y1, z1, h2, h3, y2, z2, if_neg (by omega)]
theorem PcP.star_few {tags : Int} {i : Nat} {x : PN} {L : List (Int × Bool)} {op : List Int} {st : List Bool} (h : PcP i L op st) (hk : x.k = 6) (hl : L.length < 1) : stepP tags i x op st = none := by
  unfold stepP
  rw [if_neg (by omega), if_neg (by omega), if_neg (by omega), if_pos hk, if_pos (.inl (by rw [h.len]; exact hl))]
theorem PcP.star_no {tags : Int} {i : Nat} {x : PN} {L : List (Int × Bool)} {op : List Int} {st : List Bool} (h : PcP i L op st) (hk : x.k = 6) {z : Int × Bool} (hz : L[L.length - 1]? = some z) (hne : z.2 = true ∨ x.n ≠ 0 ∨ x.b ≠ 0 ∨ x.a ≠ z.1) : stepP tags i x op st = none := by
  obtain ⟨z1, z2⟩ := h.last hz
  rw [← h.len] at z1
  unfold stepP
  rw [if_neg (by omega), if_neg (by omega), if_neg (by omega), if_pos hk, if_pos]
  rw [z1]
  by_cases e : x.a = z.1
  · rw [e, z2]
    rcases hne with h | h | h | h
    · exact .inr (.inr (.inr (.inr h)))
    · exact .inr (.inl h)
    · exact .inr (.inr (.inl h))
    · exact absurd e h
  · exact .inr (.inr (.inr (.inl (Ne.symm e))))
theorem PcP.star_ok {tags : Int} {i : Nat} {x : PN} {L : List (Int × Bool)} {op : List Int} {st : List Bool} (h : PcP i L op st) (hk : x.k = 6) (hl : 1 ≤ L.length) {z : Int × Bool} (hz : L[L.length - 1]? = some z) (h0 : z.2 = false) (h1 : x.n = 0) (h2 : x.b = 0) (h3 : x.a = z.1) :
    stepP tags i x op st = some (op.take (L.length - 1) ++ [(i : Int)], st.set i true) := by
  obtain ⟨z1, z2⟩ := h.last hz
  unfold stepP
  rw [if_neg (by omega), if_neg (by omega), if_neg (by omega), if_pos hk, h.len, z1, h3, z2, h0, if_neg (by
    rintro (h | h | h | h | h)
    · omega
    · exact h h1
    · exact h h2
    · exact h rfl
    · cases h)]
end Go.Cb
