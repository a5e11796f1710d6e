/- Walks: an item into rising ones, the document's. -/
import Derived.Test.YtmdcgekiiopohaaGreatAut9
import Derived.Shelf.Spec.SlicesInsert
import Derived.Deep.RegionLaw
set_option linter.unusedVariables false
set_option linter.unusedSimpArgs false
set_option linter.all false
namespace Go.Cb
open Go.RowKit
section
variable {α : Type} {d : Ty α} {e : TypeId} {w : World} {base g n cap : Nat} {S : Nat → Prop} {xs : List α}
/-- A row's end, copied one further. -/
theorem Own.shift (h : Own d e w base S (.slice (some ⟨g, 0, none⟩) n cap) xs) (hn : n = xs.length) {p : Nat} (hp : p < n) :
    ∃ cs, cs.length = (n - 1 - p) * d.sz ∧ (∀ j v, cs[j]? = some v → w.cell? ⟨g, p * d.sz + j, none⟩ = some v) ∧ (∀ j, j < cs.length → (w.cell? ⟨g, (p + 1) * d.sz + j, none⟩).isSome = true) ∧ (∀ j, w.frozen? ⟨g, j, none⟩ = false) ∧ (∀ v ∈ cs, v.oneCell' = true) ∧
      Own d e (w.setCells g ((p + 1) * d.sz) cs) base S (.slice (some ⟨g, 0, none⟩) n cap) (xs.take (p + 1) ++ (xs.drop p).take (n - 1 - p)) ∧ w.grownBy (w.setCells g ((p + 1) * d.sz) cs) (some g) := by
  subst hn
  obtain ⟨inner, ho, hr⟩ := h
  have hil : inner.length = xs.length * d.sz := ho.1
  have h1 : (p + 1) * d.sz ≤ xs.length * d.sz := Nat.mul_le_mul_right _ hp
  have h2 : (xs.length - 1 - p) * d.sz + (p + 1) * d.sz = xs.length * d.sz := by rw [← Nat.add_mul]; congr 1; omega
  have h3 : (p + 1) * d.sz = p * d.sz + d.sz := Nat.succ_mul _ _
  obtain ⟨cs, hcs⟩ : ∃ cs, cs = (inner.drop (p * d.sz)).take ((xs.length - 1 - p) * d.sz) := ⟨_, rfl⟩
  have hcl : cs.length = (xs.length - 1 - p) * d.sz := by rw [hcs, List.length_take, List.length_drop]; omega
  have hcg : ∀ j, j < cs.length → cs[j]? = inner[p * d.sz + j]? := fun j hj => by rw [hcs, List.getElem?_take, if_pos (by omega), List.getElem?_drop]
  have hcell : ∀ i v, inner[i]? = some v → w.cell? ⟨g, i, none⟩ = some v := fun i v hi => by
    have := ho.cells (g := g) rfl i v hi
    rwa [add_plain] at this
  obtain ⟨ho2, hg, _⟩ := ownsRow_setCells cs ((p + 1) * d.sz) w inner ho
  have hget := fun t => setL_get (cs := cs) (xs := inner) (o := (p + 1) * d.sz) (by omega) t
  have keep : ∀ y us, d.rd w (fun k => S k ∧ some k ≠ (Value.slice (some ⟨g, 0, none⟩) xs.length cap).ownBlock) y us → d.rd (w.setCells g ((p + 1) * d.sz) cs) (fun k => S k ∧ some k ≠ (Value.slice (some ⟨g, 0, none⟩) xs.length cap).ownBlock) y us := fun y us hy =>
    d.rd_step hy (fun q hq hlt => hg.block q hlt hq.2)
  have hnl : (xs.take (p + 1) ++ (xs.drop p).take (xs.length - 1 - p)).length = xs.length := by rw [List.length_append, List.length_take, List.length_take, List.length_drop]; omega
  refine ⟨cs, hcl, fun j v hj => ?_, fun j hj => ?_, fun j => World.ownsRow.frozenAt ho j, fun v hv => ?_, ⟨_, by rw [hnl]; exact ho2, fun j y hj => ?_⟩, hg⟩
  · have hjl := (List.getElem?_eq_some_iff.1 hj).1
    rw [hcg j hjl] at hj
    exact hcell _ _ hj
  · obtain ⟨v, hv⟩ : ∃ v, inner[(p + 1) * d.sz + j]? = some v := ⟨_, List.getElem?_eq_getElem (by omega)⟩
    rw [hcell _ _ hv]; rfl
  · obtain ⟨j, hj, rfl⟩ := List.mem_iff_getElem.1 hv
    have hv2 : inner[p * d.sz + j]? = some cs[j] := by rw [← hcg j hj, List.getElem?_eq_getElem hj]
    have hsp := d.pos
    obtain ⟨i, hi⟩ : ∃ i, i = p * d.sz + j := ⟨_, rfl⟩
    rw [← hi] at hv2
    have hil2 := (List.getElem?_eq_some_iff.1 hv2).1
    have hk : i / d.sz < xs.length := (Nat.div_lt_iff_lt_mul hsp).2 (by omega)
    have hm := Nat.mod_lt i hsp
    have hdm := Nat.div_add_mod' i d.sz
    refine d.one (hr (i / d.sz) _ (List.getElem?_eq_getElem hk)) _ (List.mem_iff_getElem?.2 ⟨i % d.sz, ?_⟩)
    rw [List.getElem?_take, if_pos hm, List.getElem?_drop, hdm]
    exact hv2
  · by_cases hjp : j < p + 1
    · have h5 : (j + 1) * d.sz ≤ (p + 1) * d.sz := Nat.mul_le_mul_right _ hjp
      rw [Nat.succ_mul] at h5
      rw [List.getElem?_append_left (by rw [List.length_take]; omega), List.getElem?_take, if_pos hjp] at hj
      have : ((setL inner ((p + 1) * d.sz) cs).drop (j * d.sz)).take d.sz = (inner.drop (j * d.sz)).take d.sz := by
        apply List.ext_getElem?
        intro t
        rw [List.getElem?_take, List.getElem?_take]
        by_cases ht : t < d.sz
        · rw [if_pos ht, if_pos ht, List.getElem?_drop, List.getElem?_drop, hget, if_pos (by omega)]
        · rw [if_neg ht, if_neg ht]
      rw [this]
      exact keep _ _ (hr j y hj)
    · obtain ⟨i, rfl⟩ : ∃ i, j = i + 1 := ⟨j - 1, by omega⟩
      have hjl := (List.getElem?_eq_some_iff.1 hj).1
      rw [hnl] at hjl
      rw [List.getElem?_append_right (by rw [List.length_take]; omega), List.length_take, Nat.min_eq_left (by omega), List.getElem?_take, if_pos (by omega), List.getElem?_drop, show p + (i + 1 - (p + 1)) = i by omega] at hj
      have h5 : p * d.sz ≤ i * d.sz := Nat.mul_le_mul_right _ (by omega)
      have h6 : (i + 1 + 1) * d.sz ≤ xs.length * d.sz := Nat.mul_le_mul_right _ hjl
      rw [Nat.succ_mul, Nat.succ_mul] at h6
      have h7 : (i + 1) * d.sz = i * d.sz + d.sz := Nat.succ_mul _ _
      have : ((setL inner ((p + 1) * d.sz) cs).drop ((i + 1) * d.sz)).take d.sz = (inner.drop (i * d.sz)).take d.sz := by
        apply List.ext_getElem?
        intro t
        rw [List.getElem?_take, List.getElem?_take]
        by_cases ht : t < d.sz
        · rw [if_pos ht, if_pos ht, List.getElem?_drop, List.getElem?_drop, hget, if_neg (by omega), if_pos (by omega), hcg _ (by omega)]
          congr 1; omega
        · rw [if_neg ht, if_neg ht]
      rw [this]
      exact keep _ _ (hr i y hj)
end
theorem Own.drew' {α : Type} {d : Ty α} {e : TypeId} {w : World} {base : Nat} {S : Nat → Prop} {v : Value} {xs : List α} (h : Own d e w base S v xs) : Own d e w.drew base S v xs := h.to ((Bel.refl w).drewN 1)
theorem grown_trans0 {a b : World} {row : Option Nat} (h : a.grownBy b row) (c : World) (hc : c = b.drewN 1) : a.grownBy c row := by
  subst hc
  exact ⟨h.os, h.tape, h.output, h.size, h.block⟩
theorem grown_put {a b c d' e' : World} {own : Option Nat} {g5 n c5 : Nat} (h : a.grownBy b own) (h2 : b.grownBy c own) (h3 : c.grownBy d' (some g5)) (h4 : d'.grownBy e' (some g5)) (hn : (Value.slice (some ⟨g5, 0, none⟩) n c5).ownBlock = own ∨ ∃ x, (Value.slice (some ⟨g5, 0, none⟩) n c5).ownBlock = some x ∧ b.heap.size ≤ x) (hs : a.heap.size ≤ b.heap.size) : a.grownBy e' own := by
  have h12 := grown_trans h h2
  have h34 := grown_trans h3 h4
  refine ⟨h34.os.trans h12.os, h34.tape.trans h12.tape, h34.output.trans h12.output, Nat.le_trans h12.size h34.size, fun k hk hne => (h34.block k (Nat.lt_of_lt_of_le hk h12.size) (fun e => ?_)).trans (h12.block k hk hne)⟩
  injection e with e
  rcases hn with e2 | ⟨x, e2, hx⟩
  · exact hne (by rw [e]; exact e2)
  · have e3 : g5 = x := Option.some.inj e2
    omega
theorem put_list {α : Type} {l : List α} {x z : α} {p : Nat} (hp : p ≤ l.length) : ((l ++ [z]).take (p + 1) ++ ((l ++ [z]).drop p).take (l.length - p)).set p x = l.take p ++ [x] ++ l.drop p := by
  have h2 : ((l ++ [z]).drop p).take (l.length - p) = l.drop p := by
    rw [List.drop_append_of_le_length hp, show l.length - p = (l.drop p).length by rw [List.length_drop]]
    exact List.take_left
  rw [h2]
  obtain ⟨y, hy⟩ : ∃ y, (l ++ [z]).take (p + 1) = l.take p ++ [y] := by
    rcases Nat.lt_or_eq_of_le hp with h | h
    · exact ⟨l[p], by rw [List.take_append_of_le_length (by omega), List.take_add_one, List.getElem?_eq_getElem h]; rfl⟩
    · exact ⟨z, by rw [h, List.take_of_length_le (by simp), List.take_length]⟩
  rw [hy, List.set_append_left _ _ (by rw [List.length_append, List.length_take]; simp; omega), List.set_append_right _ _ (by rw [List.length_take]; omega), List.length_take, Nat.min_eq_left hp, Nat.sub_self]
  rfl
theorem below_lo {l : List Itm} {x : Itm} (hl : GoodO cmpItem (fun x => rightB x.2 = true) l) (hx : rightB x.2 = true) {k : Nat} (hk : k < l.length) (h : cmpItem l[k] x < 0) : belowO cmpItem l x (k + 1) := fun i hi hil => by
  rcases Nat.lt_or_eq_of_le (Nat.le_of_lt_succ hi) with h1 | h1
  · have h2 : cmpItem l[i] l[k] < 0 := List.pairwise_iff_getElem.1 hl.up i k hil hk h1
    exact itemO.ltt (hl.each _ (List.getElem_mem hil)) (hl.each _ (List.getElem_mem hk)) hx h2 h
  · subst h1; exact h
theorem above_hi {l : List Itm} {x : Itm} (hl : GoodO cmpItem (fun x => rightB x.2 = true) l) (hx : rightB x.2 = true) {k : Nat} (hk : k < l.length) (h : ¬ cmpItem l[k] x < 0) : ∀ i, k ≤ i → ∀ hi : i < l.length, 0 ≤ cmpItem l[i] x := fun i hi hil => Int.not_lt.1 fun h2 => by
  rcases Nat.lt_or_eq_of_le hi with h1 | h1
  · have h3 : cmpItem l[k] l[i] < 0 := List.pairwise_iff_getElem.1 hl.up k i hk hil h1
    exact h (itemO.ltt (hl.each _ (List.getElem_mem hk)) (hl.each _ (List.getElem_mem hil)) hx h3 h2)
  · subst h1; exact h h2
end Go.Cb
namespace Go.Proofs.YtmdcgekiiopohaaGreat
open Go.RowKit Go.Cb Go.Sort
end Go.Proofs.YtmdcgekiiopohaaGreat
