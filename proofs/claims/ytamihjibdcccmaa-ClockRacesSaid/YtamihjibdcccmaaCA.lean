/- The library of this place's proofs: kinds of data, what reads as what in a world, rows of the call's own. -/
import Derived.WalkKit
import Derived.WalkSpells
import Derived.WalkLawsBesides
import Derived.BigQuiet
import Derived.Deep.QuietTactic
import Derived.Deep.LoopGhost
import Derived.LaidEqlPtr
import Derived.Maps.AppendAt
import Derived.Deep.OwnRows
import Derived.Below
import Derived.KernelRfl
import Derived.Lib.Hide
import Derived.Lib.QuietBelow
import Derived.StillTail
import Derived.Lib.AppendZerosOnto
import Derived.Laws.IdiomCopy
import Derived.Lib.Overlaps
import Derived.Laws.OwnMore
set_option linter.unusedVariables false
set_option linter.unusedSimpArgs false
set_option linter.all false
namespace Go.Cb
open Go.RowKit

/-! ### worlds -/
/-- What was there in w is in w' as it was. -/
structure Bel (w w' : World) : Prop where mk :: (out : Below w.heap.size w w')
theorem Bel.refl (w : World) : Bel w w := ⟨Below.refl _ _⟩
theorem Bel.size {a b : World} (h : Bel a b) : a.heap.size ≤ b.heap.size := h.out.size
theorem Bel.block {a b : World} (h : Bel a b) {k : Nat} (hk : k < a.heap.size) : b.heap[k]? = a.heap[k]? := h.out.block k hk
theorem Bel.trans {a b c : World} (h : Bel a b) (k : Bel b c) : Bel a c := ⟨h.out.trans (k.out.mono h.size)⟩
theorem Bel.alloc {a w : World} (h : Bel a w) (o : Obj) : Bel a (w.alloc o) := ⟨h.out.alloc h.size o⟩
theorem Bel.drew {a w : World} (h : Bel a w) : Bel a w.drew := ⟨h.out.drew⟩
theorem Bel.drewN {a w : World} (h : Bel a w) (n : Nat) : Bel a (w.drewN n) := ⟨⟨h.out.os, h.out.tape, h.out.output, h.out.size, h.out.block⟩⟩
theorem Bel.set {a w : World} (h : Bel a w) {p : Addr} (hp : a.heap.size ≤ p.block) (u : Value) : Bel a (w.setCell p u) := ⟨h.out.setCell hp u⟩
theorem Bel.grown {a w w' : World} {row : Option Nat} (h : Bel a w) (hg : w.grownBy w' row) (hr : ∀ k, row = some k → a.heap.size ≤ k) : Bel a w' := ⟨h.out.grown hg h.size hr⟩
theorem Bel.below {a b : World} (h : Bel a b) : Below a.heap.size a b := h.out
theorem Bel.heap {a w w' : World} (h : Bel a w) (ho : w'.os = w.os) (ht : w'.tape = w.tape) (hu : w'.output = w.output) (hs : w.heap.size ≤ w'.heap.size) (hb : ∀ k, k < a.heap.size → w'.heap[k]? = w.heap[k]?) : Bel a w' :=
  ⟨⟨ho.trans h.out.os, ht.trans h.out.tape, hu.trans h.out.output, Nat.le_trans h.out.size hs, fun k hk => (hb k hk).trans (h.out.block k hk)⟩⟩

theorem cell_keep {w w' : World} {a : Addr} {v : Value} (h : w.cell? a = some v) (hb : w'.heap[a.block]? = w.heap[a.block]?) : w'.cell? a = some v := (World.cell?_of_block hb).trans h
theorem cellAt {w : World} {g : Nat} {cs : Array Value} {t : TypeId} {fr : Nat × Nat} (h : w.heap[g]? = some (.cells cs t fr)) (i : Nat) : w.cell? ⟨g, i, none⟩ = cs[i]? := by
  simp [World.cell?, h]
theorem frozenAt {w : World} {g : Nat} {cs : Array Value} {t : TypeId} (h : w.heap[g]? = some (.cells cs t (0,0))) (i : Nat) : w.frozen? ⟨g, i, none⟩ = false := by
  simp [World.frozen?, h]
theorem blk_lt {w : World} {g : Nat} {o : Obj} (h : w.heap[g]? = some o) : g < w.heap.size := (Array.getElem?_eq_some_iff.1 h).1
theorem add_plain (g j : Nat) : (⟨g, 0, none⟩ : Addr).add j = ⟨g, j, none⟩ := by unfold Addr.add; split <;> simp_all
theorem add_add (a : Addr) (i j : Nat) : (a.add i).add j = a.add (i + j) := by
  unfold Addr.add
  by_cases h1 : i = 0 <;> by_cases h2 : j = 0 <;> simp [h1, h2, Nat.add_assoc]
theorem add_block (a : Addr) (i : Nat) : (a.add i).block = a.block := by unfold Addr.add; split <;> rfl

/-! ### kinds -/
/-- A kind of data: how many cells an element has; when cells read as x in w, all that they lead to lying in blocks of S. -/
structure Ty (α : Type) where
  sz : Nat
  pos : 0 < sz
  rd : World → (Nat → Prop) → α → List Value → Prop
  len : ∀ {w S x cs}, rd w S x cs → cs.length = sz
  one : ∀ {w S x cs}, rd w S x cs → ∀ u ∈ cs, u.oneCell' = true
  mono : ∀ {w : World} {S S' : Nat → Prop} {x cs}, (∀ k, S k → S' k) → rd w S x cs → rd w S' x cs
  bound : ∀ {w : World} {S x cs}, rd w S x cs → rd w (fun k => S k ∧ k < w.heap.size) x cs
  step : ∀ {w w' : World} {S x cs}, (∀ k, S k → w'.heap[k]? = w.heap[k]?) → rd w S x cs → rd w' S x cs

/-- One value, as it stands. -/
def scalar {α : Type} (enc : α → Value) (h1 : ∀ x, (enc x).oneCell' = true) : Ty α where
  sz := 1
  pos := by omega
  rd := fun _ _ x cs => cs = [enc x]
  len := fun h => by rw [h]; rfl
  one := fun h u hu => by rw [h] at hu; rw [List.mem_singleton.1 hu]; exact h1 _
  mono := fun _ h => h
  bound := fun h => h
  step := fun _ h => h
def intT : Ty Int := scalar (Value.int .i64) (fun _ => rfl)
def uintT : Ty Int := scalar (Value.int .u64) (fun _ => rfl)
def byteT : Ty Int := scalar (Value.int .u8) (fun _ => rfl)
def boolT : Ty Bool := scalar Value.bool (fun _ => rfl)
def strT : Ty ByteArray := scalar Value.string (fun _ => rfl)

/-- A slice (A: where, c: its capacity) reads as xs. -/
def Rd {α : Type} (d : Ty α) (w : World) (S : Nat → Prop) (A : Option Addr) (c : Nat) (xs : List α) : Prop :=
  xs.length ≤ c ∧ c ≤ maxLen ∧ ∀ j x, xs[j]? = some x → ∃ ad cs, A = some ad ∧ S ad.block ∧ d.rd w S x cs ∧ ∀ i u, cs[i]? = some u → w.cell? (ad.add (j * d.sz + i)) = some u
def All : Nat → Prop := fun _ => True
def Ge (b : Nat) : Nat → Prop := fun k => b ≤ k

section
variable {α : Type} {d : Ty α} {w w' : World} {S S' : Nat → Prop} {A : Option Addr} {c : Nat} {xs : List α}
theorem Rd.mono (h : Rd d w S A c xs) (hS : ∀ k, S k → S' k) : Rd d w S' A c xs :=
  ⟨h.1, h.2.1, fun j x hj => let ⟨ad, cs, e, hs, hr, hc⟩ := h.2.2 j x hj; ⟨ad, cs, e, hS _ hs, d.mono hS hr, hc⟩⟩
theorem Rd.all (h : Rd d w S A c xs) : Rd d w All A c xs := h.mono (fun _ _ => trivial)
theorem Rd.bound (h : Rd d w S A c xs) : Rd d w (fun k => S k ∧ k < w.heap.size) A c xs :=
  ⟨h.1, h.2.1, fun j x hj => by
    obtain ⟨ad, cs, e, hs, hr, hc⟩ := h.2.2 j x hj
    refine ⟨ad, cs, e, ⟨hs, ?_⟩, d.bound hr, hc⟩
    have hl := d.len hr
    have hp := d.pos
    have := hc 0 cs[0] (List.getElem?_eq_getElem (by omega))
    have := World.block_lt_of_cell? w _ this
    rwa [add_block] at this⟩
theorem Rd.step' (h : Rd d w S A c xs) (hs : ∀ k, S k → w'.heap[k]? = w.heap[k]?) : Rd d w' S A c xs :=
  ⟨h.1, h.2.1, fun j x hj => by
    obtain ⟨ad, cs, e, hS, hr, hc⟩ := h.2.2 j x hj
    exact ⟨ad, cs, e, hS, d.step hs hr, fun i u hu => cell_keep (hc i u hu) (by rw [add_block]; exact hs _ hS)⟩⟩
theorem Rd.step (h : Rd d w S A c xs) (hs : ∀ k, S k → k < w.heap.size → w'.heap[k]? = w.heap[k]?) : Rd d w' S A c xs :=
  (h.bound.step' (fun k hk => hs k hk.1 hk.2)).mono (fun _ hk => hk.1)
theorem Rd.to (h : Rd d w S A c xs) (hb : Bel w w') : Rd d w' S A c xs := h.step (fun _ _ hk => hb.block hk)
theorem Ty.rd_step {x : α} {cs : List Value} (h : d.rd w S x cs) (hs : ∀ k, S k → k < w.heap.size → w'.heap[k]? = w.heap[k]?) : d.rd w' S x cs :=
  d.mono (fun _ hk => hk.1) (d.step (fun k hk => hs k hk.1 hk.2) (d.bound h))
theorem Ty.rd_to {x : α} {cs : List Value} (h : d.rd w S x cs) (hb : Bel w w') : d.rd w' S x cs := d.rd_step h (fun _ _ hk => hb.block hk)
theorem Rd.nil (d : Ty α) (w : World) (S : Nat → Prop) (A : Option Addr) (c : Nat) (hc : c ≤ maxLen) : Rd d w S A c [] := ⟨Nat.zero_le _, hc, fun j x hj => by simp at hj⟩
theorem Rd.cap (h : Rd d w S A c xs) : xs.length ≤ c := h.1
theorem Rd.capMax (h : Rd d w S A c xs) : c ≤ maxLen := h.2.1
theorem Rd.lenMax (h : Rd d w S A c xs) : xs.length ≤ 9223372036854775807 := by have := h.1; have := h.2.1; unfold maxLen at this; omega
theorem Rd.get (h : Rd d w S A c xs) {j : Nat} {x : α} (hj : xs[j]? = some x) : ∃ ad cs, A = some ad ∧ d.rd w S x cs ∧ ∀ i u, cs[i]? = some u → w.cell? (ad.add (j * d.sz + i)) = some u :=
  let ⟨ad, cs, e, _, hr, hc⟩ := h.2.2 j x hj; ⟨ad, cs, e, hr, hc⟩
theorem Rd.take (h : Rd d w S A c xs) (n : Nat) : Rd d w S A c (xs.take n) :=
  ⟨by have := h.1; have := List.length_take_le n xs; have := List.length_take_le' n xs; omega, h.2.1, fun j x hj => by
    rw [List.getElem?_take] at hj
    split at hj
    · exact h.2.2 j x hj
    · cases hj⟩
theorem Rd.drop (h : Rd d w S A c xs) (n : Nat) (hn : n ≤ xs.length) : Rd d w S (if c = n then A else A.map (·.add (n * d.sz))) (c - n) (xs.drop n) := by
  have h1 := h.1
  refine ⟨by rw [List.length_drop]; omega, by have := h.2.1; omega, fun j x hj => ?_⟩
  have hj2 : xs[n + j]? = some x := by rw [List.getElem?_drop] at hj; exact hj
  obtain ⟨ad, cs, e, hS, hr, hc⟩ := h.2.2 _ _ hj2
  have hlt : n + j < xs.length := (List.getElem?_eq_some_iff.1 hj2).1
  rw [if_neg (by omega), e]
  refine ⟨ad.add (n * d.sz), cs, rfl, by rw [add_block]; exact hS, hr, fun i u hu => ?_⟩
  rw [add_add, ← hc i u hu, Nat.add_mul]
  congr 1
  congr 1
  omega
end

/-- A slice of such. -/
def sl {α : Type} (d : Ty α) : Ty (List α) where
  sz := 1
  pos := by omega
  rd := fun w S xs cs => ∃ A c, cs = [.slice A xs.length c] ∧ Rd d w S A c xs
  len := by rintro w S x cs ⟨A, c, rfl, _⟩; rfl
  one := by
    rintro w S x cs ⟨A, c, rfl, _⟩ u hu
    rw [List.mem_singleton.1 hu]; rfl
  mono := by rintro w S S' x cs hS ⟨A, c, rfl, h⟩; exact ⟨A, c, rfl, h.mono hS⟩
  bound := by rintro w S x cs ⟨A, c, rfl, h⟩; exact ⟨A, c, rfl, h.bound⟩
  step := by rintro w w' S x cs hs ⟨A, c, rfl, h⟩; exact ⟨A, c, rfl, h.step' hs⟩
/-- Two, one behind the other. -/
def two {α β : Type} (a : Ty α) (b : Ty β) : Ty (α × β) where
  sz := a.sz + b.sz
  pos := by have := a.pos; omega
  rd := fun w S x cs => ∃ c0 c1, cs = c0 ++ c1 ∧ a.rd w S x.1 c0 ∧ b.rd w S x.2 c1
  len := by rintro w S x cs ⟨c0, c1, rfl, h0, h1⟩; rw [List.length_append, a.len h0, b.len h1]
  one := by
    rintro w S x cs ⟨c0, c1, rfl, h0, h1⟩ u hu
    rcases List.mem_append.1 hu with hu | hu
    · exact a.one h0 u hu
    · exact b.one h1 u hu
  mono := by rintro w S S' x cs hS ⟨c0, c1, rfl, h0, h1⟩; exact ⟨c0, c1, rfl, a.mono hS h0, b.mono hS h1⟩
  bound := by rintro w S x cs ⟨c0, c1, rfl, h0, h1⟩; exact ⟨c0, c1, rfl, a.bound h0, b.bound h1⟩
  step := by rintro w w' S x cs hs ⟨c0, c1, rfl, h0, h1⟩; exact ⟨c0, c1, rfl, a.step hs h0, b.step hs h1⟩
/-- A Lean structure by its fields. -/
def iso {α β : Type} (d : Ty α) (f : β → α) : Ty β where
  sz := d.sz
  pos := d.pos
  rd := fun w S x cs => d.rd w S (f x) cs
  len := d.len
  one := d.one
  mono := d.mono
  bound := d.bound
  step := d.step

/-! ### a row of the call's own -/
/-- v is a row of elements of type e, of the call's own (from block base on), that reads as xs; its elements lead to blocks of S, none of which is the row's own. -/
def Own {α : Type} (d : Ty α) (e : TypeId) (w : World) (base : Nat) (S : Nat → Prop) (v : Value) (xs : List α) : Prop :=
  ∃ inner, w.ownsRow base e d.sz v xs.length inner ∧ ∀ j x, xs[j]? = some x → d.rd w (fun k => S k ∧ some k ≠ v.ownBlock) x ((inner.drop (j * d.sz)).take d.sz)

theorem ownsRow_step {w w' : World} {base : Nat} {e : TypeId} {size n : Nat} {v : Value} {xs : List Value} (h : w.ownsRow base e size v n xs) (hm : ∀ k, v.ownBlock = some k → w'.heap[k]? = w.heap[k]?) : w'.ownsRow base e size v n xs := by
  obtain ⟨h1, h2⟩ := h
  refine ⟨h1, ?_⟩
  rcases h2 with h2 | ⟨g, cap, cur, rfl, hg, hh, r⟩
  · exact .inl h2
  · exact .inr ⟨g, cap, cur, rfl, hg, (hm g (by simp [Value.ownBlock])).trans hh, r⟩

section
variable {α : Type} {d : Ty α} {e : TypeId} {w w' : World} {base : Nat} {S S' : Nat → Prop} {v : Value} {xs : List α}
theorem Own.nil (d : Ty α) (e : TypeId) (w : World) (base : Nat) (S : Nat → Prop) : Own d e w base S (.slice none 0 0) [] := ⟨[], ⟨by simp, .inl ⟨rfl, rfl⟩⟩, fun j x hj => by simp at hj⟩
theorem Own.lt (h : Own d e w base S v xs) {k : Nat} (hk : v.ownBlock = some k) : k < w.heap.size := by obtain ⟨inner, ho, _⟩ := h; exact (ho.lt k hk).2
theorem Own.ge (h : Own d e w base S v xs) {k : Nat} (hk : v.ownBlock = some k) : base ≤ k := by obtain ⟨inner, ho, _⟩ := h; exact (ho.lt k hk).1
theorem Own.mono (h : Own d e w base S v xs) (hS : ∀ k, S k → S' k) : Own d e w base S' v xs :=
  let ⟨inner, ho, hr⟩ := h; ⟨inner, ho, fun j x hj => d.mono (fun k hk => ⟨hS k hk.1, hk.2⟩) (hr j x hj)⟩
theorem Own.lower {base' : Nat} (h : Own d e w base S v xs) (hb : base' ≤ base) : Own d e w base' S v xs := by
  obtain ⟨inner, ⟨h1, h2⟩, hr⟩ := h
  refine ⟨inner, ⟨h1, ?_⟩, hr⟩
  rcases h2 with h2 | ⟨g, cap, cur, rfl, hg, r⟩
  · exact .inl h2
  · exact .inr ⟨g, cap, cur, rfl, Nat.le_trans hb hg, r⟩
theorem Own.raise {base' : Nat} (h : Own d e w base S v xs) (hb : ∀ k, v.ownBlock = some k → base' ≤ k) : Own d e w base' S v xs := by
  obtain ⟨inner, ⟨h1, h2⟩, hr⟩ := h
  refine ⟨inner, ⟨h1, ?_⟩, hr⟩
  rcases h2 with h2 | ⟨g, cap, cur, rfl, hg, r⟩
  · exact .inl h2
  · exact .inr ⟨g, cap, cur, rfl, hb g (by simp [Value.ownBlock]), r⟩
theorem Own.bound (h : Own d e w base S v xs) : Own d e w base (fun k => S k ∧ k < w.heap.size) v xs :=
  let ⟨inner, ho, hr⟩ := h; ⟨inner, ho, fun j x hj => d.mono (fun _ hk => ⟨⟨hk.1.1, hk.2⟩, hk.1.2⟩) (d.bound (hr j x hj))⟩
theorem Own.step (h : Own d e w base S v xs) (hm : ∀ k, v.ownBlock = some k → w'.heap[k]? = w.heap[k]?) (hs : ∀ k, S k → k < w.heap.size → some k ≠ v.ownBlock → w'.heap[k]? = w.heap[k]?) : Own d e w' base S v xs := by
  obtain ⟨inner, ho, hr⟩ := h
  exact ⟨inner, ownsRow_step ho hm, fun j x hj => d.rd_step (hr j x hj) (fun k hk hlt => hs k hk.1 hlt hk.2)⟩
theorem Own.to (h : Own d e w base S v xs) (hb : Bel w w') : Own d e w' base S v xs := h.step (fun _ hk => hb.block (h.lt hk)) (fun _ _ hk _ => hb.block hk)
theorem Own.form (h : Own d e w base S v xs) : ∃ A c, v = .slice A xs.length c := by
  obtain ⟨inner, ⟨h1, h2⟩, hr⟩ := h
  rcases h2 with ⟨rfl, hn⟩ | ⟨g, cap, cur, rfl, _⟩
  · exact ⟨none, 0, by rw [hn]⟩
  · exact ⟨_, cap, rfl⟩
theorem Own.rd (h : Own d e w base S v xs) : ∃ A c, v = .slice A xs.length c ∧ Rd d w (fun k => S k ∨ some k = v.ownBlock) A c xs := by
  obtain ⟨inner, ho, hr⟩ := h
  have h2 := ho.2
  rcases h2 with ⟨rfl, hn⟩ | ⟨g, cap, cur, rfl, hb, hg, hc, hm, hcs, ht⟩
  · have : xs = [] := List.eq_nil_of_length_eq_zero hn
    subst this
    exact ⟨none, 0, rfl, Rd.nil _ _ _ _ _ (by simp [maxLen])⟩
  · refine ⟨_, cap, rfl, hc, hm, fun j x hj => ?_⟩
    have hlt : j < xs.length := (List.getElem?_eq_some_iff.1 hj).1
    refine ⟨_, _, rfl, .inr rfl, d.mono (fun k hk => .inl hk.1) (hr j x hj), fun i u hu => ?_⟩
    have hi : i < d.sz := by
      have := (List.getElem?_eq_some_iff.1 hu).1
      simp at this; omega
    have hu2 : inner[j * d.sz + i]? = some u := by
      rw [List.getElem?_take, if_pos hi, List.getElem?_drop] at hu
      exact hu
    exact ho.cells (g := g) rfl _ _ hu2
theorem Own.rdAll (h : Own d e w base S v xs) : ∃ A c, v = .slice A xs.length c ∧ Rd d w All A c xs := let ⟨A, c, e, hr⟩ := h.rd; ⟨A, c, e, hr.all⟩
theorem Own.rdGe (h : Own d e w base (Ge base) v xs) : ∃ A c, v = .slice A xs.length c ∧ Rd d w (Ge base) A c xs :=
  let ⟨A, c, e, hr⟩ := h.rd; ⟨A, c, e, hr.mono (fun k hk => by
    rcases hk with hk | hk
    · exact hk
    · exact h.ge hk.symm)⟩
end
/-! ### the cells of a row that is read, one behind the other -/
theorem Rd.flat {α : Type} {d : Ty α} {w : World} {S : Nat → Prop} {A : Option Addr} {c : Nat} {xs : List α} (h : Rd d w S A c xs) (hp : 0 < xs.length) :
    ∃ (ad : Addr) (news : List Value), A = some ad ∧ news.length = xs.length * d.sz ∧ (∀ j u, news[j]? = some u → w.cell? (ad.add j) = some u) ∧ (∀ u ∈ news, u.oneCell' = true) ∧ ∀ j x, xs[j]? = some x → d.rd w S x ((news.drop (j * d.sz)).take d.sz) := by
  obtain ⟨ad, _, e, _, _, _⟩ := h.2.2 0 xs[0] (List.getElem?_eq_getElem hp)
  have key : ∀ j x, xs[j]? = some x → ∃ cs, d.rd w S x cs ∧ ∀ i u, cs[i]? = some u → w.cell? (ad.add (j * d.sz + i)) = some u := by
    intro j x hj
    obtain ⟨ad', cs, e', _, hr, hc⟩ := h.2.2 j x hj
    rw [e] at e'
    injection e' with e'
    subst e'
    exact ⟨cs, hr, hc⟩
  have hsome : ∀ j, j < xs.length * d.sz → ∃ u, w.cell? (ad.add j) = some u ∧ u.oneCell' = true := by
    intro j hj
    have hd := d.pos
    have hq : j / d.sz < xs.length := Nat.div_lt_of_lt_mul (by rwa [Nat.mul_comm] at hj)
    obtain ⟨cs, hr, hc⟩ := key (j / d.sz) _ (List.getElem?_eq_getElem hq)
    have hm : j % d.sz < cs.length := by rw [d.len hr]; exact Nat.mod_lt _ hd
    refine ⟨cs[j % d.sz], ?_, d.one hr _ (List.getElem_mem hm)⟩
    have := hc _ _ (List.getElem?_eq_getElem hm)
    rwa [Nat.mul_comm, Nat.div_add_mod] at this
  refine ⟨ad, (List.range (xs.length * d.sz)).map (fun j => (w.cell? (ad.add j)).getD undef), e, by simp, ?_, ?_, ?_⟩
  · intro j u hu
    rw [List.getElem?_map] at hu
    by_cases hj : j < xs.length * d.sz
    · rw [List.getElem?_range hj] at hu
      obtain ⟨u', hu', _⟩ := hsome j hj
      simp [hu'] at hu
      rw [hu', hu]
    · rw [List.getElem?_eq_none (by simpa using hj)] at hu
      simp at hu
  · intro u hu
    obtain ⟨j, hj, rfl⟩ := List.mem_map.1 hu
    obtain ⟨u', hu', h1⟩ := hsome j (List.mem_range.1 hj)
    rw [hu']
    exact h1
  · intro j x hj
    obtain ⟨cs, hr, hc⟩ := key j x hj
    have hlt : j < xs.length := (List.getElem?_eq_some_iff.1 hj).1
    have hle : j * d.sz + d.sz ≤ xs.length * d.sz := by rw [← Nat.succ_mul]; exact Nat.mul_le_mul_right _ hlt
    have hcs := d.len hr
    have hh : (((List.range (xs.length * d.sz)).map (fun j => (w.cell? (ad.add j)).getD undef)).drop (j * d.sz)).take d.sz = cs := by
      apply List.ext_getElem?
      intro i
      by_cases hi : i < d.sz
      · rw [List.getElem?_take, if_pos hi, List.getElem?_drop, List.getElem?_map, List.getElem?_range (by omega)]
        have hi' : i < cs.length := by omega
        rw [List.getElem?_eq_getElem hi']
        have := hc i _ (List.getElem?_eq_getElem hi')
        simp [this]
      · rw [List.getElem?_eq_none (by simp; omega), List.getElem?_eq_none (by omega)]
    rw [hh]
    exact hr

theorem Rd.get1 {α : Type} {enc : α → Value} {h1 : ∀ x, (enc x).oneCell' = true} {w : World} {S : Nat → Prop} {A : Option Addr} {c : Nat} {xs : List α} (h : Rd (scalar enc h1) w S A c xs) {k : Nat} (hk : k < xs.length) :
    ∃ ad, A = some ad ∧ w.cell? (ad.add k) = some (enc xs[k]) := by
  obtain ⟨ad, cs, e, hr, hc⟩ := h.get (List.getElem?_eq_getElem hk)
  have hcs : cs = [enc xs[k]] := hr
  refine ⟨ad, e, ?_⟩
  have := hc 0 (enc xs[k]) (by rw [hcs]; rfl)
  simpa [scalar] using this
theorem Rd.int {w : World} {S : Nat → Prop} {A : Option Addr} {c : Nat} {xs : List Int} (h : Rd intT w S A c xs) {k : Nat} (hk : k < xs.length) :
    ∃ ad, A = some ad ∧ w.cell? (ad.add k) = some (.int .i64 xs[k]) := h.get1 hk

theorem Ty.rdS {α : Type} (d : Ty α) {W : World} {S S' : Nat → Prop} {v : Value} (h : ∀ k, S' k → k < W.heap.size → S k ∧ some k ≠ v.ownBlock) : ∀ x cs, d.rd W S' x cs → d.rd W (fun k => S k ∧ some k ≠ v.ownBlock) x cs :=
  fun _ _ hr => d.mono (fun k hk => h k hk.1 hk.2) (d.bound hr)

/-! ### append -/
section
variable {P : Program} {ops : Array Oper} {rest : List Oper} {o : Oper} {a : Act} {Q : Exit → Act → World → Prop}
/-- append's run at a row of the call's own, what is put behind it lying at ad, cell by cell. -/
theorem run_appendC {α : Type} (d : Ty α) {w0 W : World} (ty t e : TypeId) (z : Value) (bytes : Nat)
    (ht : P.underlying t = some (.slice e)) (hinfo : (P.info? e).map (fun i => (i.zero, i.size, i.bytes)) = some (some z, d.sz, bytes)) (hz : z.cells.size = d.sz)
    (S : Nat → Prop) (v : Value) (xs ys : List α) (ad : Addr) (c : Nat) (news : List Value) (HO : Own d e W w0.heap.size S v xs)
    (hnl : news.length = ys.length * d.sz) (hnc : ∀ j u, news[j]? = some u → W.cell? (ad.add j) = some u) (hn1 : ∀ u ∈ news, u.oneCell' = true) (hnr : ∀ j x, ys[j]? = some x → d.rd W (fun k => S k ∧ some k ≠ v.ownBlock) x ((news.drop (j * d.sz)).take d.sz))
    (HB : Bel w0 W) (hl : xs.length + ys.length ≤ maxLen) (hl2 : (xs.length + ys.length) * bytes ≤ 140737488355328) :
    ∃ v1 w1, (Builtin.append_ #[t, t] ty #[v, .slice (some ad) ys.length c]).run P W = .ok v1 w1 ∧ Own d e w1 w0.heap.size S v1 (xs ++ ys) ∧ Bel w0 w1 ∧ W.grownBy w1 v.ownBlock ∧ (v1.ownBlock = v.ownBlock ∨ v1.ownBlock = some W.heap.size) := by
  obtain ⟨i0, hi, hzz⟩ := Option.map_eq_some_iff.1 hinfo
  simp only [Prod.mk.injEq] at hzz
  obtain ⟨hz0, hz1, hz2⟩ := hzz
  obtain ⟨inner, ho, hr⟩ := HO.bound
  have hown : ∀ k, v.ownBlock = some k → w0.heap.size ≤ k := fun k hk => HO.ge hk
  obtain ⟨v1, w1, hrun, h2, h3, _, h5⟩ := run_append_own_at (P := P) W w0.heap.size t ty e i0 z d.sz bytes ht hi hz0 hz1 hz2 hz d.pos v xs.length inner ho ad ys.length c news hnl hnc hn1 hl hl2 HB.size
  refine ⟨v1, w1, hrun, ⟨inner ++ news, by rw [List.length_append]; exact h2, fun j x hj => ?_⟩, HB.grown h3 hown, h3, h5⟩
  have hil : inner.length = xs.length * d.sz := ho.1
  have agree : ∀ k, k < W.heap.size → some k ≠ v.ownBlock → w1.heap[k]? = W.heap[k]? := fun k hk hne => h3.block k hk hne
  have ne1 : ∀ k, k < W.heap.size → some k ≠ v.ownBlock → some k ≠ v1.ownBlock := by
    intro k hk hne
    rcases h5 with h5 | h5
    · rw [h5]; exact hne
    · rw [h5]; intro he; injection he with he; omega
  by_cases hj1 : j < xs.length
  · rw [List.getElem?_append_left hj1] at hj
    have hle : j * d.sz + d.sz ≤ inner.length := by rw [hil, ← Nat.succ_mul]; exact Nat.mul_le_mul_right _ hj1
    rw [List.drop_append_of_le_length (by omega), List.take_append_of_le_length (by rw [List.length_drop]; omega)]
    exact d.mono (fun k hk => ⟨hk.1.1, ne1 k hk.1.2 hk.2⟩) (d.step (fun k hk => agree k hk.1.2 hk.2) (hr j x hj))
  · rw [List.getElem?_append_right (by omega)] at hj
    have hd : (inner ++ news).drop (j * d.sz) = news.drop ((j - xs.length) * d.sz) := by
      rw [List.drop_append, List.drop_eq_nil_of_le (by rw [hil]; exact Nat.mul_le_mul_right _ (by omega)), List.nil_append, hil, Nat.sub_mul]
    rw [hd]
    exact d.mono (fun k hk => ⟨hk.1.1, ne1 k hk.2 hk.1.2⟩) (d.step (fun k hk => agree k hk.2 hk.1.2) (d.bound (hnr _ x hj)))

theorem run_append {α : Type} (d : Ty α) {w0 W : World} (ty t e : TypeId) (z : Value) (bytes : Nat)
    (ht : P.underlying t = some (.slice e)) (hinfo : (P.info? e).map (fun i => (i.zero, i.size, i.bytes)) = some (some z, d.sz, bytes)) (hz : z.cells.size = d.sz)
    (S S' : Nat → Prop) (v : Value) (xs ys : List α) (A : Option Addr) (c : Nat) (HO : Own d e W w0.heap.size S v xs) (HR : Rd d W S' A c ys)
    (hS : ∀ x cs, d.rd W S' x cs → d.rd W (fun k => S k ∧ some k ≠ v.ownBlock) x cs) (HB : Bel w0 W) (hl : xs.length + ys.length ≤ maxLen) (hl2 : (xs.length + ys.length) * bytes ≤ 140737488355328) :
    ∃ v1 w1, (Builtin.append_ #[t, t] ty #[v, .slice A ys.length c]).run P W = .ok v1 w1 ∧ Own d e w1 w0.heap.size S v1 (xs ++ ys) ∧ Bel w0 w1 ∧ W.grownBy w1 v.ownBlock ∧ (v1.ownBlock = v.ownBlock ∨ v1.ownBlock = some W.heap.size) := by
  rcases Nat.eq_zero_or_pos ys.length with h0 | h0
  · obtain ⟨i0, hi, hzz⟩ := Option.map_eq_some_iff.1 hinfo
    obtain ⟨inner, ho, hr⟩ := HO
    have h1 : ys = [] := List.eq_nil_of_length_eq_zero h0
    subst h1
    refine ⟨v, W, ?_, ⟨inner, by simpa using ho, by simpa using hr⟩, HB, ⟨rfl, rfl, rfl, Nat.le_refl _, fun _ _ _ => rfl⟩, .inl rfl⟩
    rcases A with _ | ad
    · rcases ho.2 with ⟨rfl, hn⟩ | ⟨g, cap, cur, rfl, _, _, hnc, _⟩
      · simp [Builtin.append_, run_underlying ht, sizeOf, typeInfo, hi, Builtin.lenOf, Builtin.firstCells]
      · simp [Builtin.append_, run_underlying ht, sizeOf, typeInfo, hi, Builtin.lenOf, Builtin.firstCells, hnc, storeCells]
    · rcases ho.2 with ⟨rfl, hn⟩ | ⟨g, cap, cur, rfl, _, _, hnc, _⟩
      · simp [Builtin.append_, run_underlying ht, sizeOf, typeInfo, hi, Builtin.lenOf, Builtin.firstCells, loadCells, loadCellsFrom]
      · simp [Builtin.append_, run_underlying ht, sizeOf, typeInfo, hi, Builtin.lenOf, Builtin.firstCells, loadCells, loadCellsFrom, hnc, storeCells]
  · obtain ⟨ad, news, rfl, hnl, hnc, hn1, hnr⟩ := HR.flat h0
    exact run_appendC d ty t e z bytes ht hinfo hz S v xs ys ad c news HO hnl hnc hn1 (fun j x hj => hS _ _ (hnr j x hj)) HB hl hl2

/-- append(v, ys...). Ahead of it: 'at_builtin'. -/
theorem wp_append {α : Type} (d : Ty α) {w0 W : World} (t e : TypeId) (z : Value) (bytes : Nat) (hgd : o.guard = none) (s x : Operand)
    (ho : o.op = .call { callee := .builtin .append, args := #[s, x], argTypes := #[t, t] })
    (ht : P.underlying t = some (.slice e)) (hinfo : (P.info? e).map (fun i => (i.zero, i.size, i.bytes)) = some (some z, d.sz, bytes)) (hz : z.cells.size = d.sz)
    (S S' : Nat → Prop) (v : Value) (xs ys : List α) (A : Option Addr) (n c : Nat) (hs : a.eval s = v) (hx : a.eval x = .slice A n c) (hn : n = ys.length) (HO : Own d e W w0.heap.size S v xs) (HR : Rd d W S' A c ys)
    (hS : ∀ x cs, d.rd W S' x cs → d.rd W (fun k => S k ∧ some k ≠ v.ownBlock) x cs) (HB : Bel w0 W) (hl : xs.length + ys.length ≤ maxLen) (hl2 : (xs.length + ys.length) * bytes ≤ 140737488355328)
    (h : ∀ v1 w1, Own d e w1 w0.heap.size S v1 (xs ++ ys) → Bel w0 w1 → W.grownBy w1 v.ownBlock → (v1.ownBlock = v.ownBlock ∨ v1.ownBlock = some W.heap.size) → wpList P ops Q rest (a.put o.dst v1) w1) :
    wpList P ops Q (o :: rest) a W := by
  subst hn
  refine wpList_plain hgd fun K hK => ?_
  obtain ⟨v1, w1, hr, h2, h3, h4, h5⟩ := run_append (P := P) d o.type t e z bytes ht hinfo hz S S' v xs ys A c HO HR hS HB hl hl2
  unfold Oper.wp execOp
  simp only [ho, resolve, invoke, builtin, Sem.run_bind, Sem.run_pure, Result.andThen_ok, List.map_toArray, List.map_cons, List.map_nil, hs, hx, hr]
  exact hK _ _ (h v1 w1 h2 h3 h4 h5)

/-- append(v, y): the world is 'W.alloc' of the variadic's box. -/
theorem wp_append1 {α : Type} (d : Ty α) {w0 W : World} (t e : TypeId) (z : Value) (bytes : Nat) (hgd : o.guard = none) (s x : Operand)
    (ho : o.op = .call { callee := .builtin .append, args := #[s, x], argTypes := #[t, t] })
    (ht : P.underlying t = some (.slice e)) (hinfo : (P.info? e).map (fun i => (i.zero, i.size, i.bytes)) = some (some z, d.sz, bytes)) (hz : z.cells.size = d.sz)
    (S : Nat → Prop) (v : Value) (xs : List α) (y : α) (cs : List Value) (hs : a.eval s = v) (hx : a.eval x = .slice (some ⟨W.heap.size, 0, none⟩) 1 1) (HO : Own d e W w0.heap.size S v xs) (HR : d.rd W (fun k => S k ∧ some k ≠ v.ownBlock) y cs)
    (HB : Bel w0 W) (hl : xs.length + 1 ≤ maxLen) (hl2 : (xs.length + 1) * bytes ≤ 140737488355328)
    (h : ∀ v1 w1, Own d e w1 w0.heap.size S v1 (xs ++ [y]) → Bel w0 w1 → W.grownBy w1 v.ownBlock → (v1.ownBlock = v.ownBlock ∨ ∃ b, v1.ownBlock = some b ∧ W.heap.size ≤ b) → wpList P ops Q rest (a.put o.dst v1) w1) :
    wpList P ops Q (o :: rest) a (W.alloc (.cells cs.toArray e)) := by
  have hsz : (W.alloc (.cells cs.toArray e)).heap.size = W.heap.size + 1 := by simp
  have hcl := d.len HR
  have hcell : ∀ j u, cs[j]? = some u → (W.alloc (.cells cs.toArray e)).cell? ((⟨W.heap.size, 0, none⟩ : Addr).add j) = some u := by
    intro j u hu
    rw [add_plain, cellAt (heap_alloc_new W _)]
    simpa using hu
  have hb1 : Bel W (W.alloc (.cells cs.toArray e)) := (Bel.refl W).alloc _
  obtain ⟨v1, w1, hr, h2, h3, h4, h5⟩ := run_appendC (P := P) d (w0 := w0) (W := W.alloc (.cells cs.toArray e)) o.type t e z bytes ht hinfo hz S v xs [y] ⟨W.heap.size, 0, none⟩ 1 cs (HO.to hb1) (by simpa using hcl) hcell (d.one HR)
    (by
      intro j x hj
      obtain ⟨rfl, rfl⟩ : j = 0 ∧ y = x := by
        cases j with
        | zero => exact ⟨rfl, by simpa using hj⟩
        | succ j => simp at hj
      rw [Nat.zero_mul, List.drop_zero, List.take_of_length_le (by omega)]
      exact d.rd_to HR hb1)
    (HB.alloc _) hl hl2
  refine wpList_plain hgd fun K hK => ?_
  unfold Oper.wp execOp
  simp only [List.length_singleton] at hr
  simp only [ho, resolve, invoke, builtin, Sem.run_bind, Sem.run_pure, Result.andThen_ok, List.map_toArray, List.map_cons, List.map_nil, hs, hx, hr]
  refine hK _ _ (h v1 w1 h2 h3 ⟨h4.os, h4.tape, h4.output, by have := h4.size; omega, fun k hk hne => (h4.block k (by omega) hne).trans (Below.heap_alloc W _ _ hk)⟩ ?_)
  rcases h5 with h5 | h5
  · exact .inl h5
  · exact .inr ⟨_, h5, by omega⟩
end
/-! ### rows of scalars: made, read, written -/
section
variable {α : Type} {enc : α → Value} {h1 : ∀ x, (enc x).oneCell' = true} {e : TypeId} {w : World} {base : Nat} {S : Nat → Prop} {v : Value} {xs : List α}
theorem scalar_chunk {inner : List Value} (hl : inner.length = xs.length * 1) (hr : ∀ j x, xs[j]? = some x → (inner.drop (j * 1)).take 1 = [enc x]) : inner = xs.map enc := by
  apply List.ext_getElem?
  intro j
  by_cases hj : j < xs.length
  · have := hr j _ (List.getElem?_eq_getElem hj)
    have h2 : ((inner.drop (j * 1)).take 1)[0]? = some (enc xs[j]) := by rw [this]; rfl
    rw [List.getElem?_take, if_pos (by omega), List.getElem?_drop] at h2
    rw [List.getElem?_map, List.getElem?_eq_getElem hj, Option.map_some, ← h2]
    congr 1
    omega
  · rw [List.getElem?_eq_none (by omega), List.getElem?_eq_none (by simp; omega)]
theorem Own.ofRow (h : w.ownsRow base e 1 v xs.length (xs.map enc)) : Own (scalar enc h1) e w base S v xs := by
  refine ⟨xs.map enc, h, fun j x hj => ?_⟩
  have hlt : j < xs.length := (List.getElem?_eq_some_iff.1 hj).1
  have hx : xs[j] = x := (List.getElem?_eq_some_iff.1 hj).2
  show ((xs.map enc).drop (j * 1)).take 1 = [enc x]
  rw [Nat.mul_one, ← List.map_drop, List.drop_eq_getElem_cons hlt]
  simp [hx]
theorem Own.row (h : Own (scalar enc h1) e w base S v xs) : w.ownsRow base e 1 v xs.length (xs.map enc) := by
  obtain ⟨inner, ho, hr⟩ := h
  have : inner = xs.map enc := scalar_chunk ho.1 (fun j x hj => hr j x hj)
  rw [← this]; exact ho
theorem Own.any {S' : Nat → Prop} (h : Own (scalar enc h1) e w base S v xs) : Own (scalar enc h1) e w base S' v xs := Own.ofRow h.row
theorem Own.where_ {β : Type} {d : Ty β} {ys : List β} (h : Own d e w base S v ys) (hp : 0 < ys.length) : ∃ g cap, v = .slice (some ⟨g, 0, none⟩) ys.length cap ∧ base ≤ g ∧ g < w.heap.size := by
  obtain ⟨inner, ⟨h1, h2⟩, hr⟩ := h
  rcases h2 with ⟨rfl, hn⟩ | ⟨g, cap, cur, rfl, hb, hg, _⟩
  · omega
  · exact ⟨g, cap, rfl, hb, blk_lt hg⟩
theorem Own.addr {β : Type} {d : Ty β} {ys : List β} {A : Option Addr} {n c : Nat} (h : Own d e w base S (.slice A n c) ys) (hp : 0 < ys.length) : ∃ g, A = some ⟨g, 0, none⟩ ∧ base ≤ g ∧ g < w.heap.size := by
  obtain ⟨g, cap, he, h1, h2⟩ := h.where_ hp
  injection he with he
  exact ⟨g, he, h1, h2⟩
variable {g n cap : Nat}
theorem Own.cell (h : Own (scalar enc h1) e w base S (.slice (some ⟨g, 0, none⟩) n cap) xs) {i : Nat} (hi : i < xs.length) : w.cell? ⟨g, i, none⟩ = some (enc xs[i]) ∧ w.frozen? ⟨g, i, none⟩ = false := by
  have hr := h.row
  have hn : n = xs.length := by
    rcases hr.2 with ⟨h', _⟩ | ⟨g', cap', cur, h', _⟩
    · cases h'
    · injection h'
  subst hn
  exact ⟨by rw [hr.cellAt i (by omega)]; simp [hi], hr.frozenAt i⟩
theorem Own.set (h : Own (scalar enc h1) e w base S (.slice (some ⟨g, 0, none⟩) n cap) xs) (i : Nat) (x : α) : Own (scalar enc h1) e (w.setCell ⟨g, i, none⟩ (enc x)) base S (.slice (some ⟨g, 0, none⟩) n cap) (xs.set i x) := by
  have hr := h.row
  have hn : n = xs.length := by
    rcases hr.2 with ⟨h', _⟩ | ⟨g', cap', cur, h', _⟩
    · cases h'
    · injection h'
  subst hn
  have h2 := (hr.stored i (enc x)).1
  have h3 : (xs.map enc).set i (enc x) = (xs.set i x).map enc := by rw [List.map_set]
  rw [h3] at h2
  refine Own.ofRow ?_
  rwa [List.length_set]
end
section
variable {P : Program} {ops : Array Oper} {rest : List Oper} {o : Oper} {a : Act} {Q : Exit → Act → World → Prop}
/-- make([]T, n), T of one cell. Ahead of it: 'at_make'. -/
theorem wp_make {α : Type} {enc : α → Value} (h1 : ∀ x, (enc x).oneCell' = true) (z0 : α) {w0 W : World} (t e : TypeId) (bytes : Nat) (hgd : o.guard = none) (l c : Operand)
    (ho : o.op = .makeSlice t l c) (ht : P.underlying t = some (.slice e)) (hinfo : (P.info? e).map (fun i => (i.zero, i.size, i.bytes)) = some (some (enc z0), 1, bytes)) (hz : (enc z0).cells = #[enc z0])
    (n : Nat) (L C : Int) (hl : a.eval l = .int .i64 L) (hc : a.eval c = .int .i64 C) (hL : L = (n : Int)) (hC : C = (n : Int)) (HB : Bel w0 W) (hb : bytes * n ≤ 281474976710656) (hn : n ≤ maxLen)
    (h : ∀ w1, Own (scalar enc h1) e w1 w0.heap.size All (.slice (some ⟨W.heap.size, 0, none⟩) n n) (List.replicate n z0) → Bel w0 w1 → Bel W w1 → w1.heap.size = W.heap.size + 1 → wpList P ops Q rest (a.put o.dst (.slice (some ⟨W.heap.size, 0, none⟩) n n)) w1) :
    wpList P ops Q (o :: rest) a W := by
  obtain ⟨i0, hi, hzz⟩ := Option.map_eq_some_iff.1 hinfo
  simp only [Prod.mk.injEq] at hzz
  obtain ⟨hz0, hz1, hz2⟩ := hzz
  subst hL hC
  have hrun := run_make_row' (P := P) t e (enc z0) bytes ht hinfo hz .i64 .i64 n hb hn W
  refine wpList_plain hgd fun K hK => ?_
  unfold Oper.wp execOp
  simp only [ho, hl, hc, Sem.run_bind, hrun, Sem.run_pure, Result.andThen_ok]
  refine hK _ _ (h _ ?_ (HB.alloc _) ((Bel.refl W).alloc _) (by simp))
  have h2 := World.ownsRow_lit (base := w0.heap.size) (e := e) (size := 1) W (madeCells #[enc z0] n) n HB.size hn (by simp [size_madeCells])
  rw [toList_madeCells_one] at h2
  refine Own.ofRow ?_
  rw [List.map_replicate, List.length_replicate]
  exact h2
end

/-! ### one block that changes; meters -/
/-- Block g alone may have changed. -/
structure Upd (g : Nat) (w w' : World) : Prop where
  os : w'.os = w.os
  tape : w'.tape = w.tape
  output : w'.output = w.output
  size : w'.heap.size = w.heap.size
  block : ∀ k, k ≠ g → w'.heap[k]? = w.heap[k]?
theorem Upd.refl (g : Nat) (w : World) : Upd g w w := ⟨rfl, rfl, rfl, rfl, fun _ _ => rfl⟩
theorem Upd.trans {g : Nat} {a b c : World} (h : Upd g a b) (k : Upd g b c) : Upd g a c := ⟨k.os.trans h.os, k.tape.trans h.tape, k.output.trans h.output, k.size.trans h.size, fun i hi => (k.block i hi).trans (h.block i hi)⟩
theorem Upd.drewN {g : Nat} {a b : World} (h : Upd g a b) (n : Nat) : Upd g a (b.drewN n) := ⟨h.os, h.tape, h.output, h.size, h.block⟩
theorem Upd.drew {g : Nat} {a b : World} (h : Upd g a b) : Upd g a b.drew := ⟨h.os, h.tape, h.output, h.size, h.block⟩
theorem Upd.set {g : Nat} {a b : World} (h : Upd g a b) {p : Addr} (hp : p.block = g) (u : Value) : Upd g a (b.setCell p u) :=
  ⟨h.os, h.tape, h.output, by simpa [World.setCell] using h.size, fun k hk => (Below.heap_setCell b p u k (by omega)).trans (h.block k hk)⟩
theorem Bel.upd {a w w' : World} {g : Nat} (h : Bel a w) (hu : Upd g w w') (hg : a.heap.size ≤ g) : Bel a w' :=
  h.heap hu.os hu.tape hu.output (by rw [hu.size]; exact Nat.le_refl _) (fun k hk => hu.block k (by omega))
theorem heap_drewN (w : World) (n : Nat) : (w.drewN n).heap = w.heap := rfl
theorem heap_drew (w : World) : w.drew.heap = w.heap := rfl

/-- At block g lies a meter: its budget, what was spent, whether it is out. -/
def Met (w : World) (t : TypeId) (g : Nat) (b s : Int) (o : Bool) : Prop := w.heap[g]? = some (.cells #[.int .i64 b, .int .i64 s, .bool o] t (0, 0))
theorem Met.cells {w : World} {t : TypeId} {g : Nat} {b s : Int} {o : Bool} (h : Met w t g b s o) :
    w.cell? ⟨g, 0, none⟩ = some (.int .i64 b) ∧ w.cell? ⟨g, 1, none⟩ = some (.int .i64 s) ∧ w.cell? ⟨g, 2, none⟩ = some (.bool o) ∧ (∀ i, w.frozen? ⟨g, i, none⟩ = false) :=
  ⟨cellAt h 0, cellAt h 1, cellAt h 2, frozenAt h⟩
theorem Met.lt {w : World} {t : TypeId} {g : Nat} {b s : Int} {o : Bool} (h : Met w t g b s o) : g < w.heap.size := blk_lt h
theorem Met.to {w w' : World} {t : TypeId} {g : Nat} {b s : Int} {o : Bool} (h : Met w t g b s o) (hb : Bel w w') : Met w' t g b s o := (hb.block h.lt).trans h
theorem Met.drewN {w : World} {t : TypeId} {g : Nat} {b s : Int} {o : Bool} (h : Met w t g b s o) (n : Nat) : Met (w.drewN n) t g b s o := h
theorem Met.other {w w' : World} {t : TypeId} {g g' : Nat} {b s : Int} {o : Bool} (h : Met w t g b s o) (hu : Upd g' w w') (hne : g ≠ g') : Met w' t g b s o := (hu.block g hne).trans h
theorem Met.setS {w : World} {t : TypeId} {g : Nat} {b s : Int} {o : Bool} (h : Met w t g b s o) (s' : Int) : Met (w.setCell ⟨g, 1, none⟩ (.int .i64 s')) t g b s' o := by
  unfold Met at *
  simp [World.setCell, Array.getElem?_modify, h]
theorem Met.setO {w : World} {t : TypeId} {g : Nat} {b s : Int} {o : Bool} (h : Met w t g b s o) (o' : Bool) : Met (w.setCell ⟨g, 2, none⟩ (.bool o')) t g b s o' := by
  unfold Met at *
  simp [World.setCell, Array.getElem?_modify, h]
end Go.Cb

/- The library, more. -/
namespace Go.Cb
open Go.RowKit
theorem Rd.ofBlock {α : Type} {enc : α → Value} {h1 : ∀ x, (enc x).oneCell' = true} {w : World} {g : Nat} {e : TypeId} {fr : Nat × Nat} (xs : List α) (c : Nat) (h : w.heap[g]? = some (.cells (xs.map enc).toArray e fr)) (hc : xs.length ≤ c) (hm : c ≤ maxLen) :
    Rd (scalar enc h1) w All (some ⟨g, 0, none⟩) c xs := by
  refine ⟨hc, hm, fun j x hj => ⟨⟨g, 0, none⟩, [enc x], rfl, trivial, rfl, fun i u hu => ?_⟩⟩
  cases i with
  | succ i => simp at hu
  | zero =>
    have hu2 : u = enc x := by simpa using hu.symm
    subst hu2
    rw [add_plain, cellAt h]
    simp [scalar, hj]
theorem Rd.lit {α : Type} {enc : α → Value} {h1 : ∀ x, (enc x).oneCell' = true} (W : World) (e : TypeId) (xs : List α) (hm : xs.length ≤ maxLen) :
    Rd (scalar enc h1) (W.alloc (.cells (xs.map enc).toArray e)) All (some ⟨W.heap.size, 0, none⟩) xs.length xs :=
  Rd.ofBlock xs xs.length (heap_alloc_new W _) (Nat.le_refl _) hm
/-- Nothing but draws lies between. -/
def Dr (w w' : World) : Prop := ∃ q, w' = w.drewN q
theorem Dr.refl (w : World) : Dr w w := ⟨0, rfl⟩
theorem Dr.drewN {w w' : World} (h : Dr w w') (n : Nat) : Dr w (w'.drewN n) := by obtain ⟨q, rfl⟩ := h; exact ⟨q + n, World.drewN_drewN _ _ _⟩
theorem Dr.trans {a b c : World} (h : Dr a b) (k : Dr b c) : Dr a c := by obtain ⟨q, rfl⟩ := k; exact h.drewN q
theorem Dr.bel {w w' : World} (h : Dr w w') : Bel w w' := by obtain ⟨q, rfl⟩ := h; exact (Bel.refl _).drewN q
/-- Two boxed parameters. -/
theorem twoBoxes (w : World) (a b : Array Value) (t : TypeId) :
    Bel w ((w.alloc (.cells a t)).alloc (.cells b t)) ∧ (∀ i, ((w.alloc (.cells a t)).alloc (.cells b t)).cell? ⟨w.heap.size, i, none⟩ = a[i]?) ∧
    (∀ i, ((w.alloc (.cells a t)).alloc (.cells b t)).cell? ⟨w.heap.size + 1, i, none⟩ = b[i]?) ∧ ((w.alloc (.cells a t)).alloc (.cells b t)).heap.size = w.heap.size + 2 := by
  refine ⟨((Bel.refl _).alloc _).alloc _, fun i => ?_, fun i => ?_, ?_⟩
  · exact (World.cell?_of_block (((Bel.refl (w.alloc (.cells a t))).alloc (.cells b t)).block (by simp))).trans (cellAt (heap_alloc_new w _) i)
  · rw [show w.heap.size + 1 = (w.alloc (.cells a t)).heap.size by simp]
    exact cellAt (heap_alloc_new _ _) i
  · simp
end Go.Cb

/- The library: slices of slices; pairs. -/
namespace Go.Cb
open Go.RowKit
def bagT : Ty (List Int) := sl intT
def bagsT : Ty (List (List Int)) := sl bagT
def linT : Ty (List Int × List (List Int)) := two bagT bagsT
theorem Rd.row {α : Type} {d : Ty α} {w : World} {S : Nat → Prop} {A : Option Addr} {c : Nat} {xs : List (List α)} (h : Rd (sl d) w S A c xs) {k : Nat} (hk : k < xs.length) :
    ∃ ad B cb, A = some ad ∧ w.cell? (ad.add k) = some (.slice B xs[k].length cb) ∧ Rd d w S B cb xs[k] := by
  obtain ⟨ad, cs, e, ⟨B, cb, he, hr⟩, hc⟩ := h.get (List.getElem?_eq_getElem hk)
  refine ⟨ad, B, cb, e, ?_, hr⟩
  have := hc 0 (.slice B xs[k].length cb) (by rw [he]; rfl)
  simpa [sl] using this
theorem lin_rd {w : World} {S : Nat → Prop} {l : List Int × List (List Int)} {cs : List Value} (h : linT.rd w S l cs) :
    ∃ A0 c0 A1 c1, cs = [.slice A0 l.1.length c0, .slice A1 l.2.length c1] ∧ Rd intT w S A0 c0 l.1 ∧ Rd bagT w S A1 c1 l.2 := by
  obtain ⟨x, y, rfl, ⟨A0, c0, rfl, h0⟩, ⟨A1, c1, rfl, h1⟩⟩ := h
  exact ⟨A0, c0, A1, c1, rfl, h0, h1⟩
theorem lin_mk {w : World} {S : Nat → Prop} {b : List Int} {ps : List (List Int)} {A0 A1 : Option Addr} {c0 c1 : Nat} (h0 : Rd intT w S A0 c0 b) (h1 : Rd bagT w S A1 c1 ps) :
    linT.rd w S (b, ps) [.slice A0 b.length c0, .slice A1 ps.length c1] :=
  ⟨[_], [_], rfl, ⟨A0, c0, rfl, h0⟩, ⟨A1, c1, rfl, h1⟩⟩
theorem Ty.rdNil {α : Type} (d : Ty α) {W : World} {S S' : Nat → Prop} (h : ∀ k, S' k → k < W.heap.size → S k) : ∀ x cs, d.rd W S' x cs → d.rd W (fun k => S k ∧ some k ≠ (Value.slice none 0 0).ownBlock) x cs :=
  d.rdS (fun k h1 h2 => ⟨h k h1 h2, fun e => absurd (show some k = none from e) (by simp)⟩)
theorem Rd.drop_nil {α : Type} (d : Ty α) (w : World) (S : Nat → Prop) (A : Option Addr) (c : Nat) (xs : List α) (hc : c ≤ maxLen) : Rd d w S A c (xs.drop xs.length) := by
  rw [List.drop_eq_nil_of_le (Nat.le_refl _)]
  exact Rd.nil d w S A c hc
/-- At block g lie two values. -/
def Box (w : World) (t : TypeId) (g : Nat) (a b : Value) : Prop := w.heap[g]? = some (.cells #[a, b] t (0, 0))
theorem Box.cells {w : World} {t : TypeId} {g : Nat} {a b : Value} (h : Box w t g a b) : w.cell? ⟨g, 0, none⟩ = some a ∧ w.cell? ⟨g, 1, none⟩ = some b ∧ w.frozen? ⟨g, 0, none⟩ = false ∧ w.frozen? ⟨g, 1, none⟩ = false :=
  ⟨cellAt h 0, cellAt h 1, frozenAt h 0, frozenAt h 1⟩
theorem Box.lt {w : World} {t : TypeId} {g : Nat} {a b : Value} (h : Box w t g a b) : g < w.heap.size := blk_lt h
theorem Box.to {w w' : World} {t : TypeId} {g : Nat} {a b : Value} (h : Box w t g a b) (hb : Bel w w') : Box w' t g a b := (hb.block h.lt).trans h
theorem Box.other {w w' : World} {t : TypeId} {g g' : Nat} {a b : Value} (h : Box w t g a b) (hu : Upd g' w w') (hne : g ≠ g') : Box w' t g a b := (hu.block g hne).trans h
theorem Box.set0 {w : World} {t : TypeId} {g : Nat} {a b : Value} (h : Box w t g a b) (v : Value) : Box (w.setCell ⟨g, 0, none⟩ v) t g v b := by
  unfold Box at *
  simp [World.setCell, Array.getElem?_modify, h]
theorem Box.set1 {w : World} {t : TypeId} {g : Nat} {a b : Value} (h : Box w t g a b) (v : Value) : Box (w.setCell ⟨g, 1, none⟩ v) t g a v := by
  unfold Box at *
  simp [World.setCell, Array.getElem?_modify, h]
theorem Box.new (w : World) (t : TypeId) (a b : Value) : Box (w.alloc (.cells #[a, b] t)) t w.heap.size a b := heap_alloc_new w _
theorem Rd.upd {α : Type} {d : Ty α} {w w' : World} {S : Nat → Prop} {A : Option Addr} {c g : Nat} {xs : List α} (h : Rd d w S A c xs) (hu : Upd g w w') (hg : ¬ S g) : Rd d w' S A c xs :=
  h.step' (fun k hk => hu.block k (fun e => hg (e ▸ hk)))
theorem Upd.one (w : World) (g i : Nat) (v : Value) : Upd g w (w.setCell ⟨g, i, none⟩ v) := (Upd.refl g w).set rfl v
theorem Own.rdOne {α : Type} {enc : α → Value} {h1 : ∀ x, (enc x).oneCell' = true} {e : TypeId} {w : World} {base : Nat} {S : Nat → Prop} {v : Value} {xs : List α} (h : Own (scalar enc h1) e w base S v xs) :
    ∃ A c, v = .slice A xs.length c ∧ Rd (scalar enc h1) w (fun k => base ≤ k ∧ k < w.heap.size) A c xs := by
  obtain ⟨A, c, e, hr⟩ := (h.any (S' := fun _ => False)).rd
  refine ⟨A, c, e, hr.mono (fun k hk => ?_)⟩
  rcases hk with hk | hk
  · exact hk.elim
  · exact ⟨h.ge hk.symm, h.lt hk.symm⟩
theorem results_cell1 {fn : Func} {p : Tmp} {ty : TypeId} (h : fn.results = #[.cell p ty]) (tmps : Array Value) (P : Program) (w : World) :
    (results fn tmps).run P w = ((asAddr (tmps.getD p undef)).run P w).andThen fun a w₁ => (loadVar ty a).run P w₁ := by
  simp only [results, h]
  simp [Sem.run_bind, Result.andThen]
end Go.Cb

/- The library: words that may be written to. -/
namespace Go.Cb
open Go.RowKit
/-- The cells of a slice of n elements (of one cell) may be written to. -/
def Wr (w : World) (A : Option Addr) (n : Nat) : Prop := ∀ i, i < n → ∃ g, A = some ⟨g, 0, none⟩ ∧ w.frozen? ⟨g, i, none⟩ = false
theorem Wr.step' {w w' : World} {S : Nat → Prop} {A : Option Addr} {c : Nat} {xs : List Int} (h : Wr w A xs.length) (hr : Rd intT w S A c xs) (hs : ∀ k, S k → w'.heap[k]? = w.heap[k]?) : Wr w' A xs.length := by
  intro i hi
  obtain ⟨g, rfl, hf⟩ := h i hi
  obtain ⟨ad, cs, e, hS, _, _⟩ := hr.2.2 i _ (List.getElem?_eq_getElem hi)
  injection e with e
  subst e
  exact ⟨g, rfl, (World.frozen?_of_block (w := w) (hs g hS)).trans hf⟩
/-- A slice of numbers that reads as xs and may be written to. -/
structure RdW (w : World) (S : Nat → Prop) (A : Option Addr) (c : Nat) (xs : List Int) : Prop where
  rd : Rd intT w S A c xs
  wr : Wr w A xs.length
section
variable {w w' : World} {S S' : Nat → Prop} {A : Option Addr} {c : Nat} {xs : List Int}
theorem RdW.mono (h : RdW w S A c xs) (hS : ∀ k, S k → S' k) : RdW w S' A c xs := ⟨h.rd.mono hS, h.wr⟩
theorem RdW.bound (h : RdW w S A c xs) : RdW w (fun k => S k ∧ k < w.heap.size) A c xs := ⟨h.rd.bound, h.wr⟩
theorem RdW.step' (h : RdW w S A c xs) (hs : ∀ k, S k → w'.heap[k]? = w.heap[k]?) : RdW w' S A c xs := ⟨h.rd.step' hs, h.wr.step' h.rd hs⟩
theorem RdW.to (h : RdW w S A c xs) (hb : Bel w w') : RdW w' S A c xs := ((h.bound.step' (fun _ hk => hb.block hk.2))).mono (fun _ hk => hk.1)
theorem RdW.upd {g : Nat} (h : RdW w S A c xs) (hu : Upd g w w') (hg : ¬ S g) : RdW w' S A c xs := h.step' (fun k hk => hu.block k (fun e => hg (e ▸ hk)))
theorem RdW.nil (w : World) (S : Nat → Prop) (A : Option Addr) (c : Nat) (hc : c ≤ maxLen) : RdW w S A c [] := ⟨Rd.nil _ _ _ _ _ hc, fun i hi => absurd hi (by simp)⟩
end
/-- A word that may be written to. -/
def wbT : Ty (List Int) where
  sz := 1
  pos := by omega
  rd := fun w S xs cs => ∃ A c, cs = [.slice A xs.length c] ∧ RdW w S A c xs
  len := by rintro w S x cs ⟨A, c, rfl, _⟩; rfl
  one := by
    rintro w S x cs ⟨A, c, rfl, _⟩ u hu
    rw [List.mem_singleton.1 hu]; rfl
  mono := by rintro w S S' x cs hS ⟨A, c, rfl, h⟩; exact ⟨A, c, rfl, h.mono hS⟩
  bound := by rintro w S x cs ⟨A, c, rfl, h⟩; exact ⟨A, c, rfl, h.bound⟩
  step := by rintro w w' S x cs hs ⟨A, c, rfl, h⟩; exact ⟨A, c, rfl, h.step' hs⟩
def wbsT : Ty (List (List Int)) := sl wbT
def wlinT : Ty (List Int × List (List Int)) := two wbT wbsT
theorem wb_bag {w : World} {S : Nat → Prop} {x : List Int} {cs : List Value} (h : wbT.rd w S x cs) : bagT.rd w S x cs := by
  obtain ⟨A, c, e, h⟩ := h
  exact ⟨A, c, e, h.rd⟩
theorem Rd.as {α : Type} {d d' : Ty α} {w : World} {S : Nat → Prop} {A : Option Addr} {c : Nat} {xs : List α} (h : Rd d w S A c xs) (hz : d'.sz = d.sz) (hd : ∀ S x cs, d.rd w S x cs → d'.rd w S x cs) : Rd d' w S A c xs :=
  ⟨h.1, h.2.1, fun j x hj => by
    obtain ⟨ad, cs, e, hS, hr, hc⟩ := h.2.2 j x hj
    exact ⟨ad, cs, e, hS, hd _ _ _ hr, fun i u hu => by rw [hz]; exact hc i u hu⟩⟩
theorem Rd.bags {w : World} {S : Nat → Prop} {A : Option Addr} {c : Nat} {xs : List (List Int)} (h : Rd wbT w S A c xs) : Rd bagT w S A c xs := h.as rfl (fun _ _ _ => wb_bag)
theorem Own.as {α : Type} {d d' : Ty α} {e : TypeId} {w : World} {base : Nat} {S : Nat → Prop} {v : Value} {xs : List α} (h : Own d e w base S v xs) (hz : d'.sz = d.sz) (hd : ∀ S x cs, d.rd w S x cs → d'.rd w S x cs) : Own d' e w base S v xs := by
  obtain ⟨inner, ho, hr⟩ := h
  exact ⟨inner, by rw [hz]; exact ho, fun j x hj => by rw [hz]; exact hd _ _ _ (hr j x hj)⟩
theorem Own.bags {e : TypeId} {w : World} {base : Nat} {S : Nat → Prop} {v : Value} {xs : List (List Int)} (h : Own wbT e w base S v xs) : Own bagT e w base S v xs := h.as rfl (fun _ _ _ => wb_bag)
/-- A row of numbers of the call's own may be written to. -/
theorem Own.wr {e : TypeId} {w : World} {base n c : Nat} {A : Option Addr} {S : Nat → Prop} {xs : List Int} (h : Own intT e w base S (.slice A n c) xs) : Wr w A xs.length := by
  intro i hi
  obtain ⟨g, rfl, _, _⟩ := h.addr (by omega)
  exact ⟨g, rfl, (h.cell hi).2⟩
theorem Own.rdW {e : TypeId} {w : World} {base : Nat} {S : Nat → Prop} {v : Value} {xs : List Int} (h : Own intT e w base S v xs) : ∃ A c, v = .slice A xs.length c ∧ RdW w (fun k => base ≤ k ∧ k < w.heap.size) A c xs := by
  obtain ⟨A, c, rfl, hr⟩ := h.rdOne
  exact ⟨A, c, rfl, hr, h.wr⟩
theorem wlin_lin {w : World} {S : Nat → Prop} {x : List Int × List (List Int)} {cs : List Value} (h : wlinT.rd w S x cs) : linT.rd w S x cs := by
  obtain ⟨c0, c1, rfl, h0, ⟨A, c, rfl, h1⟩⟩ := h
  exact ⟨c0, _, rfl, wb_bag h0, ⟨A, c, rfl, h1.bags⟩⟩
end Go.Cb

/- The library: regions that draw their order and whose calls may lay blocks. -/
namespace Go.Cb
open Go.RowKit Go.Sort
theorem bel_regrown (w : World) (d : Nat) (os : Array Obj) : Bel w (grow (redrawn w d) os) := ⟨below_regrown w d os⟩
/-- A call in such a region: its contract, in every world in which what was there is as it was. -/
theorem callsReg {P : Program} {f : FuncId} {args : Array Value} {w : World} {d : Nat} {os : Array Obj} {v : Value}
    (h : ∀ W, Bel w W → Calls P f args W fun e w' => e = .returned v ∧ Bel W w') : Calls P f args (grow (redrawn w d) os) fun e w'' => e = .returned v ∧ ∃ p : Regrown, w'' = grow (redrawn w p.d) p.os :=
  Calls.regrown_of ((h _ (bel_regrown w d os)).mono fun _ _ ⟨a, b⟩ => ⟨a, b.out⟩)
theorem cellReg {w : World} {a : Addr} {v : Value} (h : w.cell? a = some v) : ∀ (d : Nat) (os : Array Obj), (grow (redrawn w d) os).cell? a = some v := fun d os => cell_regrown h d os
end Go.Cb

/- The library: regions that draw their order, whose first operations only read or make memory of their own, and whose others follow one another: one walk an operation. -/
namespace Go.Cb
open Go

def cntU (listed : Array Bool) : Nat → Nat
  | 0 => 0
  | n + 1 => cntU listed n + (if listed.getD n false = true then 0 else 1)
theorem cntU_zero {listed : Array Bool} : ∀ {n : Nat}, cntU listed n = 0 → ∀ i, i < n → listed.getD i false = true
  | n + 1, h, i, hi => by
    unfold cntU at h
    by_cases e : i = n
    · subst e
      by_cases hh : listed.getD i false = true
      · exact hh
      · rw [if_neg hh] at h; omega
    · exact cntU_zero (n := n) (by omega) i (by omega)
theorem getD_set_neF {listed : Array Bool} {i j : Nat} (h : i ≠ j) : (listed.setIfInBounds i true).getD j false = listed.getD j false := by
  simp [Array.getElem?_setIfInBounds_ne h]
theorem getD_set_eq {listed : Array Bool} {i : Nat} (h : i < listed.size) : (listed.setIfInBounds i true).getD i false = true := by
  simp [h]
theorem cntU_other {listed : Array Bool} {i : Nat} : ∀ {n : Nat}, n ≤ i → cntU (listed.setIfInBounds i true) n = cntU listed n
  | 0, _ => rfl
  | n + 1, h => by
    unfold cntU
    rw [cntU_other (by omega), getD_set_neF (by omega)]
theorem cntU_set {listed : Array Bool} {i : Nat} (hs : i < listed.size) (hu : listed.getD i false = false) : ∀ {n : Nat}, i < n → cntU (listed.setIfInBounds i true) n + 1 = cntU listed n
  | n + 1, hi => by
    unfold cntU
    by_cases e : i = n
    · subst e
      rw [cntU_other (Nat.le_refl _), getD_set_eq hs, hu]
      simp
    · have := cntU_set hs hu (n := n) (by omega)
      rw [getD_set_neF e]
      omega
theorem cntU_none : ∀ (n m : Nat), cntU (Array.replicate m false) n = n
  | 0, _ => rfl
  | n + 1, m => by
    unfold cntU
    rw [cntU_none n m, getD_replicate_false]
    simp
/-- The least that is not yet carried out. -/
theorem least_un {listed : Array Bool} : ∀ (n : Nat), cntU listed n ≠ 0 → ∃ i, i < n ∧ listed.getD i false = false ∧ ∀ j, j < i → listed.getD j false = true
  | 0, h => absurd rfl h
  | n + 1, h => by
    by_cases h0 : cntU listed n = 0
    · refine ⟨n, by omega, ?_, fun j hj => cntU_zero h0 j hj⟩
      unfold cntU at h
      rw [h0] at h
      by_cases e : listed.getD n false = true
      · rw [if_pos e] at h; exact absurd rfl h
      · simpa using e
    · obtain ⟨i, hi, h1, h2⟩ := least_un n h0
      exact ⟨i, by omega, h1, h2⟩
/-- The first n are done. -/
def headDone (n m : Nat) : Array Bool := (List.replicate n true ++ List.replicate (m - n) false).toArray
theorem headDone_eq {listed : Array Bool} {n m : Nat} (hs : listed.size = m) (hn : n ≤ m) (h1 : ∀ i, i < n → listed.getD i false = true) (h2 : ∀ t, n ≤ t → t < m → listed.getD t true = false) : listed = headDone n m := by
  have : listed.toList = List.replicate n true ++ List.replicate (m - n) false := by
    apply List.ext_getElem
    · simp [hs]; omega
    · intro i hi hi2
      have hi' : i < listed.size := by simpa using hi
      by_cases e : i < n
      · have := h1 i e
        simp [hi'] at this
        rw [List.getElem_append_left (by simp; omega), List.getElem_replicate]
        simpa using this
      · have := h2 i (by omega) (by omega)
        simp [hi'] at this
        rw [List.getElem_append_right (by simp; omega), List.getElem_replicate]
        simpa using this
  unfold headDone
  rw [← this]

/-- May a region be walked so? The first n: each waits but for such as stand ahead of it; all that follows waits for them and goes one by one. -/
def growB (md : Region.Mode) (ops : Array Oper) (n : Nat) : Bool :=
  decide (n < ops.size) && Region.sinkB md ops n && Region.chainB md ops n &&
  ((List.range n).all fun i => ((ops[i]?).map fun o => o.after.all fun e => !Region.binds md e || decide (e.on < i)).getD true) &&
  Region.seqB md ops (ops.size - n) n (headDone n ops.size)

/-- What one of the first n leaves: its value, memory that it made. -/
def growQ (a : Act) (o : Oper) (w1 : World) (φ : Value → Nat → Nat → World → Prop) : Exit → Act → World → Prop :=
  fun ex a' w2 => ex = .normal ∧ ∃ v, a' = a.put o.dst v ∧ Bel w1 w2 ∧ φ v w1.heap.size w2.heap.size w2

section
variable {P : Program} {ops : Array Oper} {md : Region.Mode}
theorem wp_only {o : Oper} {a : Act} {w : World} {K K' : Act → World → Prop} {Q Q' : Exit → Act → World → Prop} (hQ : ∀ ex a w, Q ex a w → ex = .normal) (hK : ∀ a w, K a w → K' a w) (h : o.wp P a w K Q) : o.wp P a w K' Q' := by
  unfold Oper.wp at *
  generalize (execOp a.eval o).run P w = r at *
  cases r with
  | ok n w' =>
    cases n <;> simp only [Oper.upon] at h ⊢
    case enter f args =>
      refine h.mono fun e w'' he => ?_
      cases e with
      | returned v => exact hK _ _ he
      | panicked c => exact absurd (hQ _ _ _ he) (by simp)
      | outgrown => obtain ⟨x, y, hh⟩ := he; exact absurd (hQ _ _ _ hh) (by simp)
    case row r args => exact Rows.mono h (fun _ _ he => hK _ _ he)
    all_goals exact hK _ _ h
  | halt x w' =>
    cases x <;> simp only [Oper.upon] at h ⊢
    exact absurd (hQ _ _ _ h) (by simp)
theorem wpOp_only {i : Nat} {o : Oper} {a : Act} {w : World} {K : Act → World → Prop} {Q Q' : Exit → Act → World → Prop} (hi : ops[i]? = some o) (hQ : ∀ ex a w, Q ex a w → ex = .normal) (hK : ∀ a w, Q .normal a w → K a w) (h : wpList P ops Q [o] a w) : wpOp P ops Q' i K a w := by
  unfold wpList at h
  unfold wpOp
  simp only [hi]
  split at h
  · rename_i hw
    rw [if_pos hw]
    rcases h with h | ⟨_, x, y, hh⟩
    · exact .inl (wp_only hQ (fun a' w' h' => hK a' w' (by unfold wpList at h'; exact h')) h)
    · exact absurd (hQ _ _ _ hh) (by simp)
  · rename_i hw
    rw [if_neg hw]
    unfold wpList at h
    exact hK _ _ h
theorem waits_of {o : Oper} {i : Nat} (hi : ops[i]? = some o) {e : Edge} (he : e ∈ o.after) (hb : Region.binds md e = true) : Region.waitsFor md ops i e.on = true := by
  unfold Region.waitsFor
  rw [hi]
  simp only
  rw [Array.any_eq_true']
  exact ⟨e, he, by simp [hb]⟩

theorem wpAny_grow {n : Nat} {l : List Oper} {Q : Exit → Act → World → Prop} {w : World} (hl : ops = l.toArray) (hB : growB md ops n = true) (fr : (Nat → Value) → Act)
    (hfr : ∀ u i o v, l[i]? = some o → i < n → (fr u).put o.dst v = fr (fun k => if k = i then v else u k))
    (Φ : Nat → Value → Nat → Nat → World → Prop) (hst : ∀ i v lo hi w1 w2, Φ i v lo hi w1 → Bel w1 w2 → Φ i v lo hi w2)
    (hstep : ∀ i o, l[i]? = some o → i < n → ∀ (u : Nat → Value) (ρ : Nat → Nat × Nat) w1, Bel w w1 → (∀ k, Region.waitsFor md ops i k = true → Φ k (u k) (ρ k).1 (ρ k).2 w1) → wpList P ops (growQ (fr u) o w1 (Φ i)) [o] (fr u) w1)
    (htail : ∀ (u : Nat → Value) (ρ : Nat → Nat × Nat) w1, Bel w w1 → (∀ k, k < n → Φ k (u k) (ρ k).1 (ρ k).2 w1 ∧ w.heap.size ≤ (ρ k).1 ∧ (ρ k).1 ≤ (ρ k).2 ∧ (ρ k).2 ≤ w1.heap.size) →
      (∀ i j, i < n → j < n → i ≠ j → (ρ i).2 ≤ (ρ j).1 ∨ (ρ j).2 ≤ (ρ i).1) → wpList P ops Q (l.drop n) (fr u) w1) :
    ∀ (f : Nat) (listed : Array Bool) (u : Nat → Value) (ρ : Nat → Nat × Nat) (w1 : World), HeadInv md ops n listed → cntU listed n = f → Bel w w1 →
      (∀ k, k < n → listed.getD k false = true → Φ k (u k) (ρ k).1 (ρ k).2 w1 ∧ w.heap.size ≤ (ρ k).1 ∧ (ρ k).1 ≤ (ρ k).2 ∧ (ρ k).2 ≤ w1.heap.size) →
      (∀ i j, i < n → j < n → listed.getD i false = true → listed.getD j false = true → i ≠ j → (ρ i).2 ≤ (ρ j).1 ∨ (ρ j).2 ≤ (ρ i).1) →
      wpAny P md ops Q (f + (ops.size - n)) listed (fr u) w1 := by
  unfold growB at hB
  simp only [Bool.and_eq_true, decide_eq_true_eq] at hB
  obtain ⟨⟨⟨⟨hn, hs⟩, hc⟩, hd⟩, hseq⟩ := hB
  have hdep : ∀ i k, i < n → Region.waitsFor md ops i k = true → k < i := fun i k hi hw => by
    obtain ⟨o, ho, e, he, hb, hon⟩ := Region.waitsFor_spec hw
    have h1 := List.all_eq_true.1 hd i (List.mem_range.2 hi)
    rw [ho] at h1
    simp only [Option.map_some, Option.getD_some] at h1
    have h2 := Array.all_eq_true'.1 h1 e he
    simp only [Bool.or_eq_true, Bool.not_eq_true', decide_eq_true_eq] at h2
    rcases h2 with h2 | h2
    · rw [h2] at hb; cases hb
    · omega
  intro f
  induction f with
  | zero =>
    intro listed u ρ w1 inv hcnt hb hΦ hdj
    have hall := cntU_zero hcnt
    have hle := headDone_eq (m := ops.size) inv.size (by omega) hall inv.tail
    have hdl : (l.drop n).length = ops.size - n := by rw [hl]; simp
    have := wpAny_of_seq (P := P) (md := md) (ops := ops) (Q' := Q) (l.drop n) n listed (fr u) w1 (fun j => by rw [hl]; simp) (by rw [hdl, hle]; exact hseq)
      (htail u ρ w1 hb (fun k hk => hΦ k hk (hall k hk)) (fun i j hi hj hij => hdj i j hi hj (hall i hi) (hall j hj) hij))
    rw [hdl] at this
    rwa [Nat.zero_add]
  | succ f ih =>
    intro listed u ρ w1 inv hcnt hb hΦ hdj
    obtain ⟨i0, hi0, hu0, hl0⟩ := least_un n (by omega : cntU listed n ≠ 0)
    have hsz := inv.size
    rw [show f + 1 + (ops.size - n) = (f + (ops.size - n)) + 1 by omega]
    refine ⟨fun h => ?_, fun i hi => ?_⟩
    · exfalso
      have : i0 ∈ Region.ready md ops listed := by
        rw [mem_ready]
        have hlt : i0 < ops.size := by omega
        refine ⟨getD_in (by omega) hu0, ops[i0], Array.getElem?_eq_getElem hlt, fun e he hb => ?_⟩
        exact hl0 _ (hdep i0 e.on hi0 (waits_of (Array.getElem?_eq_getElem hlt) he hb))
      rw [h] at this
      cases this
    · have hin : i < n := by
        rcases Nat.lt_or_ge i n with h | h
        · exact h
        · exact absurd hi (tail_waits hs hc hn inv _ i0 rfl hi0 (getD_in (by omega) hu0) i h)
      obtain ⟨hun, o, ho, hall⟩ := mem_ready.1 hi
      have hlo : l[i]? = some o := by rw [hl] at ho; simpa using ho
      refine wpOp_only ho (fun _ _ _ h => h.1) ?_ (hstep i o hlo hin u ρ w1 hb (fun k hk => ?_))
      · rintro a' w2 ⟨_, v, rfl, hb2, hv⟩
        rw [hfr u i o v hlo hin]
        have hcs := cntU_set (listed := listed) (i := i) (by omega) (getD_both hun) hin
        refine ih _ _ (fun k => if k = i then (w1.heap.size, w2.heap.size) else ρ k) w2 (inv.set hi hin) (by omega) (hb.trans hb2) (fun k hk hlk => ?_) (fun p q hp hq hlp hlq hpq => ?_)
        · by_cases e : k = i
          · subst e
            simp only [if_true]
            exact ⟨hv, hb.size, hb2.size, Nat.le_refl _⟩
          · simp only [if_neg e]
            rw [getD_set_neF (Ne.symm e)] at hlk
            obtain ⟨h1, h2, h3, h4⟩ := hΦ k hk hlk
            exact ⟨hst _ _ _ _ _ _ h1 hb2, h2, h3, Nat.le_trans h4 hb2.size⟩
        · by_cases e1 : p = i
          · subst e1
            have e2 : q ≠ p := Ne.symm hpq
            simp only [if_true, if_neg e2]
            rw [getD_set_neF (Ne.symm e2)] at hlq
            exact .inr (hΦ q hq hlq).2.2.2
          · by_cases e2 : q = i
            · subst e2
              simp only [if_true, if_neg e1]
              rw [getD_set_neF (Ne.symm e1)] at hlp
              exact .inl (hΦ p hp hlp).2.2.2
            · simp only [if_neg e1, if_neg e2]
              rw [getD_set_neF (Ne.symm e1)] at hlp
              rw [getD_set_neF (Ne.symm e2)] at hlq
              exact hdj p q hp hq hlp hlq hpq
      · obtain ⟨o', ho', e, he, hb', hon⟩ := Region.waitsFor_spec hk
        have : o' = o := Option.some.inj (ho'.symm.trans ho)
        subst this
        have h1 := hall e he hb'
        rw [hon] at h1
        exact (hΦ k (by have := hdep i k hin hk; omega) h1).1
end

/-- **The region**: see the head of this text. -/
theorem wp_region_grow {P : Program} {id : Nat} {Q : Exit → Act → World → Prop} {a : Act} {w : World} {l : List Oper} (n : Nat) (hm : P.follows .mixedOrders = true) (hB : growB .any l.toArray n = true) (fr : (Nat → Value) → Act)
    (hfr : ∀ u i o v, l[i]? = some o → i < n → (fr u).put o.dst v = fr (fun k => if k = i then v else u k)) (u0 : Nat → Value) (h0 : a = fr u0)
    (Φ : Nat → Value → Nat → Nat → World → Prop) (hst : ∀ i v lo hi w1 w2, Φ i v lo hi w1 → Bel w1 w2 → Φ i v lo hi w2)
    (hstep : ∀ i o, l[i]? = some o → i < n → ∀ (u : Nat → Value) (ρ : Nat → Nat × Nat) w1, Bel w w1 → (∀ k, Region.waitsFor .any l.toArray i k = true → Φ k (u k) (ρ k).1 (ρ k).2 w1) → wpList P l.toArray (growQ (fr u) o w1 (Φ i)) [o] (fr u) w1)
    (htail : ∀ (u : Nat → Value) (ρ : Nat → Nat × Nat) w1, Bel w w1 → (∀ k, k < n → Φ k (u k) (ρ k).1 (ρ k).2 w1 ∧ w.heap.size ≤ (ρ k).1 ∧ (ρ k).1 ≤ (ρ k).2 ∧ (ρ k).2 ≤ w1.heap.size) →
      (∀ i j, i < n → j < n → i ≠ j → (ρ i).2 ≤ (ρ j).1 ∨ (ρ j).2 ≤ (ρ i).1) → wpList P l.toArray Q (l.drop n) (fr u) w1) :
    (Code.region id l.toArray true).wp P Q a w := by
  refine wp_region_any hm ?_
  subst h0
  have hn : n < l.toArray.size := by
    have := hB
    unfold growB at this
    simp only [Bool.and_eq_true, decide_eq_true_eq] at this
    exact this.1.1.1.1
  have inv0 : HeadInv .any l.toArray n (Array.replicate l.toArray.size false) :=
    ⟨by simp, fun j oj _ hl => (by rw [getD_replicate_false] at hl; cases hl), fun t _ ht => getD_in (by simpa using ht) (getD_replicate_false _ _)⟩
  have := wpAny_grow (P := P) (md := .any) (Q := Q) (w := w) rfl hB fr hfr Φ hst hstep htail n (Array.replicate l.toArray.size false) u0 (fun _ => (0, 0)) { w with drawn := w.drawn + 1 } inv0 (cntU_none _ _) (Bel.refl w).drew
    (fun k _ h => by rw [getD_replicate_false] at h; cases h) (fun i j _ _ h => by rw [getD_replicate_false] at h; cases h)
  rwa [show n + (l.toArray.size - n) = l.toArray.size by omega] at this

/-- What an operation leaves, that stays so while what there is stays as it is: its value, and the blocks that it made (from lo on, below hi). -/
structure SPred where
  φ : Value → Nat → Nat → World → Prop
  st : ∀ v lo hi w1 w2, φ v lo hi w1 → Bel w1 w2 → φ v lo hi w2
/-- This value. -/
def SPred.val (x : Value) : SPred := ⟨fun v _ _ _ => v = x, fun _ _ _ _ _ h _ => h⟩
/-- A slice that reads so, its blocks made by the region (which began when there were b). -/
def SPred.word (b : Nat) (xs : List Int) : SPred := ⟨fun v _ hi w => ∃ A c, v = .slice A xs.length c ∧ RdW w (fun k => b ≤ k ∧ k < hi) A c xs, fun _ _ _ _ _ ⟨A, c, e, h⟩ hb => ⟨A, c, e, h.to hb⟩⟩
/-- A row of one: a word whose blocks were made from b on. -/
def SPred.lit1 (b : Nat) (t : TypeId) (xs : List Int) : SPred :=
  ⟨fun v lo hi w => v = .slice (some ⟨lo, 0, none⟩) 1 1 ∧ b ≤ lo ∧ lo < hi ∧ ∃ A c, w.heap[lo]? = some (.cells #[.slice A xs.length c] t (0, 0)) ∧ RdW w (fun k => b ≤ k ∧ k < lo) A c xs,
    fun _ _ _ w1 w2 ⟨e, h1, h2, A, c, h3, h4⟩ hb => ⟨e, h1, h2, A, c, (hb.block (blk_lt h3)).trans h3, h4.to hb⟩⟩
/-- A linear set (or another pair of a word and words), read alone. -/
def SPred.lin (l : List Int × List (List Int)) : SPred :=
  ⟨fun v lo hi w => ∃ A0 c0 A1 c1, v = .agg #[.slice A0 l.1.length c0, .slice A1 l.2.length c1] ∧ Rd intT w (fun k => lo ≤ k ∧ k < hi) A0 c0 l.1 ∧ Rd bagT w (fun k => lo ≤ k ∧ k < hi) A1 c1 l.2,
    fun _ _ _ _ _ ⟨A0, c0, A1, c1, e, h0, h1⟩ hb => ⟨A0, c0, A1, c1, e, h0.to hb, h1.to hb⟩⟩
/-- A new variable of two cells. -/
def SPred.box (t : TypeId) (a b : Value) : SPred :=
  ⟨fun v lo hi w => v = .pointer (some ⟨lo, 0, none⟩) ∧ lo < hi ∧ Box w t lo a b, fun _ _ _ _ _ ⟨e, h0, h⟩ hb => ⟨e, h0, h.to hb⟩⟩
/-- Nothing is said. -/
def SPred.any : SPred := ⟨fun _ _ _ _ => True, fun _ _ _ _ _ _ _ => trivial⟩

/-- The first operations' slots, whatever they hold. -/
def growFr (l : List Oper) : Nat → Act → (Nat → Value) → Act
  | 0, a, _ => a
  | n + 1, a, u => (growFr l n a u).put ((l[n]?).bind (·.dst)) (u n)
def growSteps (P : Program) (l : List Oper) (n : Nat) (w : World) (a : Act) (Φ : List SPred) : List Oper → Nat → Prop
  | [], _ => True
  | o :: rest, i => (∀ (u : Nat → Value) (ρ : Nat → Nat × Nat) w1, Bel w w1 → (∀ k, Region.waitsFor .any l.toArray i k = true → (Φ.getD k SPred.any).φ (u k) (ρ k).1 (ρ k).2 w1) → wpList P l.toArray (growQ (growFr l n a u) o w1 (Φ.getD i SPred.any).φ) [o] (growFr l n a u) w1) ∧ growSteps P l n w a Φ rest (i + 1)
def growDsts (l : List Oper) (n : Nat) : Bool := (List.range n).all fun i => (List.range n).all fun j => decide (i = j) || ((l[i]?).bind (·.dst)) != ((l[j]?).bind (·.dst))
theorem put_put (a : Act) (d : Option Tmp) (x y : Value) : (a.put d x).put d y = a.put d y := by
  cases d with
  | none => rfl
  | some d => simp [Act.put]
theorem growFr_other {l : List Oper} : ∀ {n : Nat} {a : Act} {u : Nat → Value} {i : Nat} {v : Value}, n ≤ i → growFr l n a (fun k => if k = i then v else u k) = growFr l n a u
  | 0, _, _, _, _, _ => rfl
  | n + 1, a, u, i, v, h => by
    unfold growFr
    rw [growFr_other (by omega)]
    simp only [if_neg (show ¬ n = i by omega)]
theorem growFr_put {l : List Oper} : ∀ {n : Nat} {a : Act} {u : Nat → Value} {i : Nat} {v : Value}, (∀ p q, p < n → q < n → p ≠ q → ((l[p]?).bind (·.dst)) ≠ ((l[q]?).bind (·.dst))) → i < n → (growFr l n a u).put ((l[i]?).bind (·.dst)) v = growFr l n a (fun k => if k = i then v else u k)
  | n + 1, a, u, i, v, hd, hi => by
    unfold growFr
    by_cases e : i = n
    · subst e
      rw [put_put, growFr_other (Nat.le_refl _)]
      simp only [if_true]
    · rw [Act.put_comm _ _ _ (fun d h1 h2 => hd n i (by omega) hi (Ne.symm e) (h1.trans h2.symm)), growFr_put (fun p q hp hq => hd p q (by omega) (by omega)) (by omega)]
      simp only [if_neg (show ¬ n = i from fun h => e h.symm)]
theorem put_self (a : Act) (d : Option Tmp) : ∃ v, a.put d v = a := by
  cases d with
  | none => exact ⟨undef, rfl⟩
  | some d =>
    by_cases h : d < a.tmps.size
    · refine ⟨a.tmps[d], ?_⟩
      obtain ⟨t, ds⟩ := a
      simp only [Act.put, Act.mk.injEq, and_true]
      apply Array.ext_getElem?
      intro i
      rw [Array.getElem?_setIfInBounds]
      split
      · rename_i e
        subst e
        have h' : d < t.size := h
        first | (rw [Array.getElem?_eq_getElem h']) | (rw [if_pos h', Array.getElem?_eq_getElem h'])
      · rfl
    · refine ⟨undef, ?_⟩
      obtain ⟨t, ds⟩ := a
      simp only [Act.put, Act.mk.injEq, and_true]
      exact Array.setIfInBounds_eq_of_size_le (by simpa using h)
theorem growFr_self {l : List Oper} : ∀ (n : Nat) (a : Act), ∃ u, a = growFr l n a u
  | 0, a => ⟨fun _ => undef, rfl⟩
  | n + 1, a => by
    obtain ⟨u, hu⟩ := growFr_self (l := l) n a
    obtain ⟨v, hv⟩ := put_self a ((l[n]?).bind (·.dst))
    refine ⟨fun k => if k = n then v else u k, ?_⟩
    unfold growFr
    rw [growFr_other (Nat.le_refl _), ← hu]
    simp only [if_true]
    exact hv.symm
theorem growSteps_at {P : Program} {l : List Oper} {n : Nat} {w : World} {a : Act} {Φ : List SPred} : ∀ {r : List Oper} {j : Nat}, growSteps P l n w a Φ r j → ∀ i o, r[i]? = some o →
    ∀ (u : Nat → Value) (ρ : Nat → Nat × Nat) w1, Bel w w1 → (∀ k, Region.waitsFor .any l.toArray (j + i) k = true → (Φ.getD k SPred.any).φ (u k) (ρ k).1 (ρ k).2 w1) → wpList P l.toArray (growQ (growFr l n a u) o w1 (Φ.getD (j + i) SPred.any).φ) [o] (growFr l n a u) w1
  | [], _, _, i, o, h => by simp at h
  | x :: r, j, h, 0, o, ho => by
    obtain rfl : x = o := by simpa using ho
    exact h.1
  | x :: r, j, h, i + 1, o, ho => by
    have := growSteps_at h.2 i o (by simpa using ho)
    rw [show j + 1 + i = j + (i + 1) by omega] at this
    exact this
/-- The same, an operation at a time. -/
theorem wp_region_grow2 {P : Program} {id : Nat} {Q : Exit → Act → World → Prop} {a : Act} {w : World} {l : List Oper} (n : Nat) (hm : P.follows .mixedOrders = true) (hB : growB .any l.toArray n = true) (hD : growDsts l n = true) (Φ : List SPred)
    (hstep : growSteps P l n w a Φ (l.take n) 0)
    (htail : ∀ (u : Nat → Value) (ρ : Nat → Nat × Nat) w1, Bel w w1 → (∀ k, k < n → (Φ.getD k SPred.any).φ (u k) (ρ k).1 (ρ k).2 w1 ∧ w.heap.size ≤ (ρ k).1 ∧ (ρ k).1 ≤ (ρ k).2 ∧ (ρ k).2 ≤ w1.heap.size) →
      (∀ i j, i < n → j < n → i ≠ j → (ρ i).2 ≤ (ρ j).1 ∨ (ρ j).2 ≤ (ρ i).1) → wpList P l.toArray Q (l.drop n) (growFr l n a u) w1) :
    (Code.region id l.toArray true).wp P Q a w := by
  have hd : ∀ p q, p < n → q < n → p ≠ q → ((l[p]?).bind (·.dst)) ≠ ((l[q]?).bind (·.dst)) := fun p q hp hq hpq => by
    have h1 := List.all_eq_true.1 hD p (List.mem_range.2 hp)
    have h2 := List.all_eq_true.1 h1 q (List.mem_range.2 hq)
    simp only [Bool.or_eq_true, decide_eq_true_eq, bne_iff_ne] at h2
    rcases h2 with h2 | h2
    · exact absurd h2 hpq
    · exact h2
  obtain ⟨u0, hu0⟩ := growFr_self (l := l) n a
  refine wp_region_grow n hm hB (growFr l n a) (fun u i o v ho hi => ?_) u0 hu0 (fun k => (Φ.getD k SPred.any).φ) (fun i => (Φ.getD i SPred.any).st) (fun i o ho hi u ρ w1 hb hk => ?_) htail
  · have := growFr_put (a := a) (u := u) (v := v) hd hi
    rw [ho] at this
    exact this
  · have := growSteps_at hstep i o (by rw [List.getElem?_take, if_pos hi]; exact ho) u ρ w1 hb
    rw [Nat.zero_add] at this
    exact this hk
/-- The row of one that such a literal is. -/
theorem SPred.lit1_rd {b : Nat} {t : TypeId} {xs : List Int} {v : Value} {lo hi : Nat} {w : World} (h : (SPred.lit1 b t xs).φ v lo hi w) :
    v = .slice (some ⟨lo, 0, none⟩) 1 1 ∧ b ≤ lo ∧ lo < w.heap.size ∧ Rd wbT w (fun k => b ≤ k ∧ k < lo + 1) (some ⟨lo, 0, none⟩) 1 [xs] := by
  obtain ⟨e, h1, h2, A, c, h3, h4⟩ := h
  refine ⟨e, h1, blk_lt h3, by simp, by decide, fun j x hj => ?_⟩
  rcases j with _ | j
  · obtain rfl : xs = x := by simpa using hj
    refine ⟨_, [.slice A xs.length c], rfl, ⟨h1, Nat.lt_succ_self _⟩, ⟨A, c, rfl, h4.mono (fun k hk => ⟨hk.1, by omega⟩)⟩, fun i u hu => ?_⟩
    rcases i with _ | i
    · rw [add_plain, cellAt h3]; exact hu
    · simp at hu
  · simp at hj
end Go.Cb

/- The library: as Grow, the first operations being whichever (hd: in an order in which each waits but for such as stand ahead of it), the others (tl) going one by one behind them. -/
namespace Go.Cb
open Go
def cntL (listed : Array Bool) : List Nat → Nat
  | [] => 0
  | i :: r => cntL listed r + (if listed.getD i false = true then 0 else 1)
theorem cntL_zero {listed : Array Bool} : ∀ {r : List Nat}, cntL listed r = 0 → ∀ i ∈ r, listed.getD i false = true
  | i :: r, h, j, hj => by
    unfold cntL at h
    rcases List.mem_cons.1 hj with rfl | hj
    · by_cases hh : listed.getD j false = true
      · exact hh
      · rw [if_neg hh] at h; omega
    · exact cntL_zero (r := r) (by omega) j hj
theorem cntL_pos {listed : Array Bool} : ∀ {r : List Nat}, cntL listed r ≠ 0 → ∃ i ∈ r, listed.getD i false = false
  | [], h => absurd rfl h
  | i :: r, h => by
    unfold cntL at h
    by_cases hh : listed.getD i false = true
    · rw [if_pos hh] at h
      obtain ⟨j, hj, e⟩ := cntL_pos (r := r) (by omega)
      exact ⟨j, List.mem_cons_of_mem _ hj, e⟩
    · exact ⟨i, by simp, by simpa using hh⟩
theorem cntL_other {listed : Array Bool} {i : Nat} : ∀ {r : List Nat}, i ∉ r → cntL (listed.setIfInBounds i true) r = cntL listed r
  | [], _ => rfl
  | j :: r, h => by
    simp only [List.mem_cons, not_or] at h
    unfold cntL
    rw [cntL_other h.2, getD_set_neF h.1]
theorem cntL_set {listed : Array Bool} {i : Nat} (hs : i < listed.size) (hu : listed.getD i false = false) : ∀ {r : List Nat}, r.Nodup → i ∈ r → cntL (listed.setIfInBounds i true) r + 1 = cntL listed r
  | j :: r, hn, hi => by
    have hn' := List.nodup_cons.1 hn
    unfold cntL
    by_cases e : i = j
    · subst e
      rw [cntL_other hn'.1, getD_set_eq hs, hu]
      simp
    · have := cntL_set hs hu hn'.2 (by rcases List.mem_cons.1 hi with h | h; exact absurd h e; exact h)
      rw [getD_set_neF e]
      omega
theorem cntL_none : ∀ (r : List Nat) (m : Nat), cntL (Array.replicate m false) r = r.length
  | [], _ => rfl
  | i :: r, m => by
    unfold cntL
    rw [cntL_none r m, getD_replicate_false]
    simp
def doneL (hd : List Nat) (m : Nat) : Array Bool := ((List.range m).map fun i => hd.contains i).toArray
theorem doneL_eq {listed : Array Bool} {hd : List Nat} {m : Nat} (hs : listed.size = m) (h1 : ∀ i ∈ hd, listed.getD i false = true) (h2 : ∀ t, t ∉ hd → t < m → listed.getD t true = false) : listed = doneL hd m := by
  have : listed.toList = (List.range m).map fun i => hd.contains i := by
    apply List.ext_getElem
    · simp [hs]
    · intro i hi hi2
      have hi' : i < listed.size := by simpa using hi
      rw [List.getElem_map, List.getElem_range]
      by_cases e : i ∈ hd
      · have := h1 i e
        simp [hi'] at this
        simp [this, e]
      · have := h2 i e (by omega)
        simp [hi'] at this
        simp [this, e]
  unfold doneL
  rw [← this]
def depsL (md : Region.Mode) (ops : Array Oper) : List Nat → List Nat → Bool
  | _, [] => true
  | done, i :: r => ((ops[i]?).map fun o => o.after.all fun e => !Region.binds md e || done.contains e.on).getD false && depsL md ops (i :: done) r
def waitsT (md : Region.Mode) (ops : Array Oper) : Nat → Nat → Nat → Bool
  | 0, t, i => Region.waitsFor md ops t i
  | f + 1, t, i => Region.waitsFor md ops t i || (List.range ops.size).any fun j => Region.waitsFor md ops t j && waitsT md ops f j i
def seqL (md : Region.Mode) (ops : Array Oper) : List Nat → Array Bool → Bool
  | [], listed => (Region.ready md ops listed).isEmpty
  | k :: r, listed => decide (Region.ready md ops listed = [k]) && seqL md ops r (listed.setIfInBounds k true)
def growLB (md : Region.Mode) (ops : Array Oper) (pu hd tl : List Nat) : Bool :=
  (hd.all fun i => decide (i < ops.size)) && decide hd.Nodup && depsL md ops pu hd && (hd.all fun i => !pu.contains i) && decide (tl.length + hd.length + pu.length = ops.size) &&
  ((List.range ops.size).all fun t => pu.contains t || hd.contains t || hd.all fun i => waitsT md ops 7 t i) && seqL md ops tl (doneL (pu ++ hd) ops.size)
/-- A move that waits for nothing, and that may be carried out ahead of all that is not yet done. -/
def pureOp (md : Region.Mode) (ops : Array Oper) (listed : Array Bool) (i : Nat) : Bool :=
  (match ops[i]? with | some o => o.after.isEmpty && o.guard.isNone && (match o.op with | .move _ => true | _ => false) | none => false) && !listed.getD i true && Region.free md ops listed i
def pureB (md : Region.Mode) (ops : Array Oper) : List Nat → Array Bool → Bool
  | [], _ => true
  | i :: r, listed => pureOp md ops listed i && pureB md ops r (listed.setIfInBounds i true)
def pureV (o : Oper) (a : Act) : Value := match o.op with | .move x => a.eval x | _ => undef
def pureA (l : List Oper) : List Nat → Act → Act
  | [], a => a
  | i :: r, a => pureA l r (a.put ((l[i]?).bind (·.dst)) (((l[i]?).map fun o => pureV o a).getD undef))
def setAll : List Nat → Array Bool → Array Bool
  | [], x => x
  | i :: r, x => setAll r (x.setIfInBounds i true)
/-- Nothing but the normal end. -/
def Nrm (Q : Exit → Act → World → Prop) : Exit → Act → World → Prop := fun ex a w => ex = .normal ∧ Q .normal a w
structure LInv (md : Region.Mode) (ops : Array Oper) (pu hd : List Nat) (listed : Array Bool) : Prop where
  size : listed.size = ops.size
  pure_ : ∀ i ∈ pu, listed.getD i false = true
  closed : ∀ j oj, ops[j]? = some oj → listed.getD j false = true → ∀ e ∈ oj.after, Region.binds md e = true → listed.getD e.on false = true
  tail : ∀ t, t ∉ pu → t ∉ hd → t < ops.size → listed.getD t true = false
section
variable {P : Program} {ops : Array Oper} {md : Region.Mode}
theorem LInv.set {pu hd : List Nat} {i : Nat} {listed : Array Bool} (inv : LInv md ops pu hd listed) (hi : i ∈ Region.ready md ops listed) (hin : i ∈ hd) : LInv md ops pu hd (listed.setIfInBounds i true) := by
  obtain ⟨_, oi, hoi, hall⟩ := mem_ready.1 hi
  refine ⟨by simp [inv.size], fun p hp => getD_set_true (inv.pure_ p hp), fun j oj hj hl e he hb => ?_, fun t hp ht ht' => by rw [getD_set_ne true (show i ≠ t from fun e => ht (by rw [← e]; exact hin))]; exact inv.tail t hp ht ht'⟩
  by_cases hij : i = j
  · subst hij
    have : oj = oi := Option.some.inj (hj.symm.trans hoi)
    subst this
    exact getD_set_true (hall e he hb)
  · rw [getD_set_ne false hij] at hl
    exact getD_set_true (inv.closed j oj hj hl e he hb)
theorem waitsT_listed {pu hd : List Nat} {listed : Array Bool} (inv : LInv md ops pu hd listed) : ∀ (f t i : Nat), (∀ o, ops[t]? = some o → ∀ e ∈ o.after, Region.binds md e = true → listed.getD e.on false = true) → waitsT md ops f t i = true → listed.getD i false = true
  | 0, t, i, hd, h => by
    obtain ⟨o, ho, e, he, hb, rfl⟩ := Region.waitsFor_spec h
    exact hd o ho e he hb
  | f + 1, t, i, hd, h => by
    unfold waitsT at h
    rcases Bool.or_eq_true _ _ |>.mp h with h | h
    · obtain ⟨o, ho, e, he, hb, rfl⟩ := Region.waitsFor_spec h
      exact hd o ho e he hb
    · obtain ⟨j, _, hj⟩ := List.any_eq_true.1 h
      simp only [Bool.and_eq_true] at hj
      obtain ⟨o, ho, e, he, hb, hon⟩ := Region.waitsFor_spec hj.1
      have hl := hd o ho e he hb
      rw [hon] at hl
      exact waitsT_listed inv f j i (fun oj hoj e he hb => inv.closed j oj hoj hl e he hb) hj.2
theorem depsL_first {listed : Array Bool} : ∀ {r done : List Nat}, depsL md ops done r = true → (∀ d ∈ done, listed.getD d false = true) → (∃ i ∈ r, listed.getD i false = false) →
    ∃ i ∈ r, listed.getD i false = false ∧ ∃ o, ops[i]? = some o ∧ ∀ e ∈ o.after, Region.binds md e = true → listed.getD e.on false = true
  | [], _, _, _, ⟨i, hi, _⟩ => by simp at hi
  | i :: r, done, h, hd, hx => by
    unfold depsL at h
    simp only [Bool.and_eq_true] at h
    cases hl : listed.getD i false with
    | false =>
      refine ⟨i, by simp, hl, ?_⟩
      cases ho : ops[i]? with
      | none => rw [ho] at h; simp at h
      | some o =>
        refine ⟨o, rfl, fun e he hb => ?_⟩
        rw [ho] at h
        simp only [Option.map_some, Option.getD_some] at h
        have h2 := Array.all_eq_true'.1 h.1 e he
        simp only [Bool.or_eq_true, Bool.not_eq_true'] at h2
        rcases h2 with h2 | h2
        · rw [h2] at hb; cases hb
        · exact hd _ (by simpa using h2)
    | true =>
      obtain ⟨j, hj, hjl⟩ := hx
      have hj2 : j ∈ r := by
        rcases List.mem_cons.1 hj with rfl | hj
        · rw [hl] at hjl; cases hjl
        · exact hj
      obtain ⟨k, hk, rest⟩ := depsL_first (r := r) (done := i :: done) h.2 (fun d hd2 => by
        rcases List.mem_cons.1 hd2 with rfl | h3
        · exact hl
        · exact hd d h3) ⟨j, hj2, hjl⟩
      exact ⟨k, List.mem_cons_of_mem _ hk, rest⟩
theorem depsL_mem : ∀ {r done : List Nat}, depsL md ops done r = true → ∀ i ∈ r, ∀ k, Region.waitsFor md ops i k = true → k ∈ done ∨ k ∈ r
  | [], _, _, i, hi, _, _ => by simp at hi
  | i :: r, done, h, j, hj, k, hk => by
    unfold depsL at h
    simp only [Bool.and_eq_true] at h
    rcases List.mem_cons.1 hj with rfl | hj
    · obtain ⟨o, ho, e, he, hb, rfl⟩ := Region.waitsFor_spec hk
      rw [ho] at h
      simp only [Option.map_some, Option.getD_some] at h
      have h2 := Array.all_eq_true'.1 h.1 e he
      simp only [Bool.or_eq_true, Bool.not_eq_true'] at h2
      rcases h2 with h2 | h2
      · rw [h2] at hb; cases hb
      · exact .inl (by simpa using h2)
    · rcases depsL_mem h.2 j hj k hk with h3 | h3
      · rcases List.mem_cons.1 h3 with rfl | h3
        · exact .inr (by simp)
        · exact .inl h3
      · exact .inr (List.mem_cons_of_mem _ h3)
theorem wpAny_of_seqL {Q' : Exit → Act → World → Prop} : ∀ (tl : List Nat) (listed : Array Bool) (a : Act) (w : World), (∀ k ∈ tl, k < ops.size) → seqL md ops tl listed = true →
    wpList P ops Q' (tl.filterMap (ops[·]?)) a w → wpAny P md ops Q' tl.length listed a w
  | [], _, _, _, _, hB, h => ⟨by simpa [seqL] using hB, h⟩
  | k :: r, listed, a, w, hl, hB, h => by
    have hk := hl k (by simp)
    have h0 : ops[k]? = some ops[k] := Array.getElem?_eq_getElem hk
    simp only [seqL, Bool.and_eq_true, decide_eq_true_eq] at hB
    rw [List.filterMap_cons, h0] at h
    refine ⟨fun h1 => (by rw [hB.1] at h1; cases h1), fun i hi => ?_⟩
    rw [hB.1] at hi
    have hik : i = k := by simpa using hi
    subst hik
    have hw : wpOp P ops Q' i (wpList P ops Q' (r.filterMap (ops[·]?))) a w := by unfold wpOp; simp only [h0]; exact h
    exact wpOp_mono (fun a' w' h' => wpAny_of_seqL r _ a' w' (fun x hx => hl x (List.mem_cons_of_mem _ hx)) hB.2 h') hw
end
/-- The first operations' slots, whatever they hold. -/
def frL (l : List Oper) : List Nat → Act → (Nat → Value) → Act
  | [], a, _ => a
  | i :: r, a, u => (frL l r a u).put ((l[i]?).bind (·.dst)) (u i)
theorem frL_other {l : List Oper} : ∀ {r : List Nat} {a : Act} {u : Nat → Value} {i : Nat} {v : Value}, i ∉ r → frL l r a (fun k => if k = i then v else u k) = frL l r a u
  | [], _, _, _, _, _ => rfl
  | j :: r, a, u, i, v, h => by
    simp only [List.mem_cons, not_or] at h
    unfold frL
    rw [frL_other h.2]
    simp only [if_neg (Ne.symm h.1)]
theorem frL_put {l : List Oper} : ∀ {r : List Nat} {a : Act} {u : Nat → Value} {i : Nat} {v : Value}, r.Nodup → (∀ p ∈ r, ∀ q ∈ r, p ≠ q → ((l[p]?).bind (·.dst)) ≠ ((l[q]?).bind (·.dst))) → i ∈ r → (frL l r a u).put ((l[i]?).bind (·.dst)) v = frL l r a (fun k => if k = i then v else u k)
  | j :: r, a, u, i, v, hn, hd, hi => by
    have hn' := List.nodup_cons.1 hn
    unfold frL
    by_cases e : i = j
    · subst e
      rw [put_put, frL_other hn'.1]
      simp only [if_true]
    · have hi2 : i ∈ r := by rcases List.mem_cons.1 hi with h | h; exact absurd h e; exact h
      rw [Act.put_comm _ _ _ (fun d h1 h2 => hd j (by simp) i hi (Ne.symm e) (h1.trans h2.symm)), frL_put hn'.2 (fun p hp q hq => hd p (List.mem_cons_of_mem _ hp) q (List.mem_cons_of_mem _ hq)) hi2]
      simp only [if_neg (show ¬ j = i from fun h => e h.symm)]
theorem frL_self {l : List Oper} : ∀ (r : List Nat), r.Nodup → ∀ (a : Act), ∃ u, a = frL l r a u
  | [], _, a => ⟨fun _ => undef, rfl⟩
  | i :: r, hn, a => by
    have hn' := List.nodup_cons.1 hn
    obtain ⟨u, hu⟩ := frL_self (l := l) r hn'.2 a
    obtain ⟨v, hv⟩ := put_self a ((l[i]?).bind (·.dst))
    refine ⟨fun k => if k = i then v else u k, ?_⟩
    unfold frL
    rw [frL_other hn'.1, ← hu]
    simp only [if_true]
    exact hv.symm
def opL (l : List Oper) (i : Nat) : Oper := l[i]?.getD ⟨none, .move (.const undef), 0, "", #[], none⟩
def stepsL (P : Program) (l : List Oper) (hd : List Nat) (w : World) (a : Act) (Φ : List SPred) : List Nat → Prop
  | [] => True
  | i :: r => (∀ (u : Nat → Value) (ρ : Nat → Nat × Nat) w1, Bel w w1 → (∀ k, (hd.contains k && Region.waitsFor .any l.toArray i k) = true → (Φ.getD k SPred.any).φ (u k) (ρ k).1 (ρ k).2 w1) → wpList P l.toArray (growQ (frL l hd a u) (opL l i) w1 (Φ.getD i SPred.any).φ) [opL l i] (frL l hd a u) w1) ∧ stepsL P l hd w a Φ r
theorem stepsL_at {P : Program} {l : List Oper} {hd : List Nat} {w : World} {a : Act} {Φ : List SPred} : ∀ {r : List Nat}, stepsL P l hd w a Φ r → ∀ i ∈ r, ∀ o, l[i]? = some o →
    ∀ (u : Nat → Value) (ρ : Nat → Nat × Nat) w1, Bel w w1 → (∀ k, (hd.contains k && Region.waitsFor .any l.toArray i k) = true → (Φ.getD k SPred.any).φ (u k) (ρ k).1 (ρ k).2 w1) → wpList P l.toArray (growQ (frL l hd a u) o w1 (Φ.getD i SPred.any).φ) [o] (frL l hd a u) w1
  | [], _, i, hi, _, _ => by simp at hi
  | j :: r, h, i, hi, o, ho => by
    rcases List.mem_cons.1 hi with rfl | hi
    · have := h.1
      unfold opL at this
      rw [ho] at this
      exact this
    · exact stepsL_at h.2 i hi o ho
def dstsL (l : List Oper) (hd : List Nat) : Bool := hd.all fun i => hd.all fun j => decide (i = j) || ((l[i]?).bind (·.dst)) != ((l[j]?).bind (·.dst))
theorem wpAny_nrm {P : Program} {ops : Array Oper} {md : Region.Mode} {Q : Exit → Act → World → Prop} : ∀ (f : Nat) (listed : Array Bool) (a : Act) (w : World), wpAny P md ops (Nrm Q) f listed a w → wpAny P md ops Q f listed a w
  | 0, _, _, _, h => ⟨h.1, h.2.2⟩
  | f + 1, listed, a, w, h => ⟨fun h0 => (h.1 h0).2, fun i hi => by
    have h1 := h.2 i hi
    unfold wpOp at *
    split
    · rename_i ho; simp only [ho] at h1; exact wpAny_nrm f _ _ _ h1
    · rename_i o ho
      simp only [ho] at h1
      split
      · rename_i hw
        simp only [hw, if_true] at h1
        rcases h1 with h1 | ⟨_, x, y, hh⟩
        · exact .inl (wp_only (fun _ _ _ h => h.1) (fun a' w' h' => wpAny_nrm f _ a' w' h') h1)
        · exact absurd hh.1 (by simp)
      · rename_i hw; simp only [hw] at h1; exact wpAny_nrm f _ _ _ h1⟩
theorem wpAny_pure {P : Program} {l : List Oper} {md : Region.Mode} {Q : Exit → Act → World → Prop} (hs : Region.noSelect l.toArray = true) : ∀ (pu : List Nat) (f : Nat) (listed : Array Bool) (a : Act) (w : World), pureB md l.toArray pu listed = true →
    wpAny P md l.toArray (Nrm Q) f (setAll pu listed) (pureA l pu a) w → wpAny P md l.toArray (Nrm Q) (pu.length + f) listed a w
  | [], f, listed, a, w, _, h => by rw [List.length_nil, Nat.zero_add]; exact h
  | i :: r, f, listed, a, w, hp, h => by
    simp only [pureB, Bool.and_eq_true] at hp
    obtain ⟨hp1, hp2⟩ := hp
    unfold pureOp at hp1
    simp only [Bool.and_eq_true, Bool.not_eq_true'] at hp1
    obtain ⟨⟨h1, hun⟩, hf⟩ := hp1
    cases ho : l.toArray[i]? with
    | none => rw [ho] at h1; cases h1
    | some o =>
      rw [ho] at h1
      simp only [Bool.and_eq_true] at h1
      obtain ⟨⟨hae, hg⟩, hm⟩ := h1
      have hlo : l[i]? = some o := by simpa using ho
      rw [List.length_cons, show r.length + 1 + f = (r.length + f) + 1 by omega]
      have hready : i ∈ Region.ready md l.toArray listed := mem_ready.2 ⟨hun, o, ho, fun e he _ => by
        have : o.after = #[] := by simpa using hae
        rw [this] at he; simp at he⟩
      have hyield : Yields P l.toArray o (pureV o a) a := by
        refine .inl ⟨by unfold Region.wanted; rw [show o.guard = none by simpa using hg], fun w' => ?_⟩
        have hx : ∃ x, o.op = .move x := by
          cases hop : o.op <;> rw [hop] at hm <;> first | exact ⟨_, rfl⟩ | (simp at hm)
        obtain ⟨x, hop⟩ := hx
        unfold pureV execOp
        rw [hop]
        rfl
      have := wpAny_first (P := P) (md := md) (Q := Nrm Q) ho (Region.noSelect_spec hs) (fun c a' w' hq => absurd hq.1 (by simp)) (r.length + f) listed a w (Region.free_spec ho hf) hready hyield
      refine this ?_
      have ih := wpAny_pure (P := P) (Q := Q) hs r f (listed.setIfInBounds i true) (a.put o.dst (pureV o a)) w hp2
      refine ih ?_
      have h2 := h
      simp only [setAll, pureA, hlo, Option.bind_some, Option.map_some, Option.getD_some] at h2
      exact h2
theorem setAll_size : ∀ (r : List Nat) (x : Array Bool), (setAll r x).size = x.size
  | [], _ => rfl
  | i :: r, x => by unfold setAll; rw [setAll_size r]; simp
theorem setAll_get : ∀ (r : List Nat) (x : Array Bool) (i : Nat), i < x.size → ((setAll r x).getD i false = true ↔ i ∈ r ∨ x.getD i false = true)
  | [], x, i, _ => by simp [setAll]
  | j :: r, x, i, hi => by
    unfold setAll
    rw [setAll_get r _ i (by simpa using hi)]
    by_cases e : j = i
    · subst e; simp [getD_set_eq hi]
    · rw [getD_set_neF e]; simp [Ne.symm e]
/-- **The region**: see the head of this text. -/
theorem wp_region_grow3 {P : Program} {id : Nat} {Q : Exit → Act → World → Prop} {a : Act} {w : World} {l : List Oper} (pu hd tl : List Nat) (hm : P.follows .mixedOrders = true) (hB : growLB .any l.toArray pu hd tl = true) (hP : pureB .any l.toArray pu (Array.replicate l.toArray.size false) = true) (hN : Region.noSelect l.toArray = true) (hD : dstsL l hd = true) (Φ : List SPred)
    (hstep : stepsL P l hd w (pureA l pu a) Φ hd)
    (htail : ∀ (u : Nat → Value) (ρ : Nat → Nat × Nat) w1, Bel w w1 → (∀ k, k ∈ hd → (Φ.getD k SPred.any).φ (u k) (ρ k).1 (ρ k).2 w1 ∧ w.heap.size ≤ (ρ k).1 ∧ (ρ k).1 ≤ (ρ k).2 ∧ (ρ k).2 ≤ w1.heap.size) →
      (∀ i j, i ∈ hd → j ∈ hd → i ≠ j → (ρ i).2 ≤ (ρ j).1 ∨ (ρ j).2 ≤ (ρ i).1) → wpList P l.toArray (Nrm Q) (tl.filterMap (l[·]?)) (frL l hd (pureA l pu a) u) w1) :
    (Code.region id l.toArray true).wp P Q a w := by
  have hdd : ∀ p ∈ hd, ∀ q ∈ hd, p ≠ q → ((l[p]?).bind (·.dst)) ≠ ((l[q]?).bind (·.dst)) := fun p hp q hq hpq => by
    have h1 := List.all_eq_true.1 hD p hp
    have h2 := List.all_eq_true.1 h1 q hq
    simp only [Bool.or_eq_true, decide_eq_true_eq, bne_iff_ne] at h2
    rcases h2 with h2 | h2
    · exact absurd h2 hpq
    · exact h2
  unfold growLB at hB
  simp only [Bool.and_eq_true, decide_eq_true_eq] at hB
  obtain ⟨⟨⟨⟨⟨⟨hlt, hnd⟩, hdp⟩, hdis0⟩, hlen⟩, hwt⟩, hseq⟩ := hB
  have hdis : ∀ i ∈ hd, i ∉ pu := fun i hi hp => by
    have := List.all_eq_true.1 hdis0 i hi
    simp [hp] at this
  have hlt' : ∀ i ∈ hd, i < l.toArray.size := fun i hi => by simpa using List.all_eq_true.1 hlt i hi
  have htl : ∀ k ∈ tl, k < l.toArray.size := by
    have : ∀ (tl : List Nat) (listed : Array Bool), seqL .any l.toArray tl listed = true → ∀ k ∈ tl, k < l.toArray.size := by
      intro tl
      induction tl with
      | nil => intro _ _ k hk; simp at hk
      | cons j r ih =>
        intro listed h k hk
        simp only [seqL, Bool.and_eq_true, decide_eq_true_eq] at h
        rcases List.mem_cons.1 hk with rfl | hk
        · have h2 : k ∈ Region.ready .any l.toArray listed := by rw [h.1]; simp
          obtain ⟨_, o, ho, _⟩ := mem_ready.1 h2
          exact (Array.getElem?_eq_some_iff.1 ho).1
        · exact ih _ h.2 k hk
    exact this tl _ hseq
  have main : ∀ (f : Nat) (listed : Array Bool) (u : Nat → Value) (ρ : Nat → Nat × Nat) (w1 : World), LInv .any l.toArray pu hd listed → cntL listed hd = f → Bel w w1 →
      (∀ k ∈ hd, listed.getD k false = true → (Φ.getD k SPred.any).φ (u k) (ρ k).1 (ρ k).2 w1 ∧ w.heap.size ≤ (ρ k).1 ∧ (ρ k).1 ≤ (ρ k).2 ∧ (ρ k).2 ≤ w1.heap.size) →
      (∀ i j, i ∈ hd → j ∈ hd → listed.getD i false = true → listed.getD j false = true → i ≠ j → (ρ i).2 ≤ (ρ j).1 ∨ (ρ j).2 ≤ (ρ i).1) →
      wpAny P .any l.toArray (Nrm Q) (f + tl.length) listed (frL l hd (pureA l pu a) u) w1 := by
    intro f
    induction f with
    | zero =>
      intro listed u ρ w1 inv hcnt hb hΦ hdj
      have hall := cntL_zero hcnt
      have hle := doneL_eq (hd := pu ++ hd) inv.size (fun i hi => by
        rcases List.mem_append.1 hi with h | h
        · exact inv.pure_ i h
        · exact hall i h) (fun t ht => inv.tail t (fun h => ht (List.mem_append_left _ h)) (fun h => ht (List.mem_append_right _ h)))
      have := wpAny_of_seqL (P := P) (md := .any) (ops := l.toArray) (Q' := Nrm Q) tl listed (frL l hd (pureA l pu a) u) w1 htl (by rw [hle]; exact hseq)
        (by
          have := htail u ρ w1 hb (fun k hk => hΦ k hk (hall k hk)) (fun i j hi hj hij => hdj i j hi hj (hall i hi) (hall j hj) hij)
          simpa using this)
      rwa [Nat.zero_add]
    | succ f ih =>
      intro listed u ρ w1 inv hcnt hb hΦ hdj
      have hun0 := cntL_pos (listed := listed) (r := hd) (by omega)
      have hsz := inv.size
      rw [show f + 1 + tl.length = (f + tl.length) + 1 by omega]
      refine ⟨fun h => ?_, fun i hi => ?_⟩
      · exfalso
        obtain ⟨i, hi, hl, o, ho, hall⟩ := depsL_first hdp (fun d h => inv.pure_ d h) hun0
        have : i ∈ Region.ready .any l.toArray listed := mem_ready.2 ⟨getD_in (by have := hlt' i hi; omega) hl, o, ho, hall⟩
        rw [h] at this
        cases this
      · obtain ⟨hun, o, ho, hall⟩ := mem_ready.1 hi
        have hin : i ∈ hd := by
          cases hc : hd.contains i with
          | true => simpa using hc
          | false =>
            exfalso
            have h1 := List.all_eq_true.1 hwt i (List.mem_range.2 (Array.getElem?_eq_some_iff.1 ho).1)
            have hnp : pu.contains i = false := by
              cases hpc : pu.contains i with
              | false => rfl
              | true =>
                have h9 := inv.pure_ i (by simpa using hpc)
                rw [getD_both hun] at h9; cases h9
            rw [hc, hnp, Bool.false_or, Bool.false_or] at h1
            obtain ⟨j, hj, hjl⟩ := hun0
            have h2 := List.all_eq_true.1 h1 j hj
            have h3 := waitsT_listed inv 7 i j (fun o' ho' e he hb => by
              have : o' = o := Option.some.inj (ho'.symm.trans ho)
              subst this
              exact hall e he hb) h2
            rw [h3] at hjl; cases hjl
        have hlo : l[i]? = some o := by simpa using ho
        refine wpOp_only ho (fun _ _ _ h => h.1) ?_ (stepsL_at hstep i hin o hlo u ρ w1 hb (fun k hk => ?_))
        · rintro a' w2 ⟨_, v, rfl, hb2, hv⟩
          have hput := frL_put (a := pureA l pu a) (u := u) (v := v) hnd hdd hin
          rw [hlo] at hput
          have hput2 : (frL l hd (pureA l pu a) u).put o.dst v = frL l hd (pureA l pu a) (fun k => if k = i then v else u k) := hput
          rw [hput2]
          have hcs := cntL_set (listed := listed) (i := i) (by have := hlt' i hin; omega) (getD_both hun) hnd hin
          refine ih _ _ (fun k => if k = i then (w1.heap.size, w2.heap.size) else ρ k) w2 (inv.set hi hin) (by omega) (hb.trans hb2) (fun k hk hlk => ?_) (fun p q hp hq hlp hlq hpq => ?_)
          · by_cases e : k = i
            · subst e
              simp only [if_true]
              exact ⟨hv, hb.size, hb2.size, Nat.le_refl _⟩
            · simp only [if_neg e]
              rw [getD_set_neF (Ne.symm e)] at hlk
              obtain ⟨h1, h2, h3, h4⟩ := hΦ k hk hlk
              exact ⟨(Φ.getD k SPred.any).st _ _ _ _ _ h1 hb2, h2, h3, Nat.le_trans h4 hb2.size⟩
          · by_cases e1 : p = i
            · subst e1
              have e2 : q ≠ p := Ne.symm hpq
              simp only [if_true, if_neg e2]
              rw [getD_set_neF (Ne.symm e2)] at hlq
              exact .inr (hΦ q hq hlq).2.2.2
            · by_cases e2 : q = i
              · subst e2
                simp only [if_true, if_neg e1]
                rw [getD_set_neF (Ne.symm e1)] at hlp
                exact .inl (hΦ p hp hlp).2.2.2
              · simp only [if_neg e1, if_neg e2]
                rw [getD_set_neF (Ne.symm e1)] at hlp
                rw [getD_set_neF (Ne.symm e2)] at hlq
                exact hdj p q hp hq hlp hlq hpq
        · simp only [Bool.and_eq_true] at hk
          obtain ⟨hkh0, hk⟩ := hk
          have hkl : listed.getD k false = true := by
            obtain ⟨o', ho', e, he, hb', hon⟩ := Region.waitsFor_spec hk
            have : o' = o := Option.some.inj (ho'.symm.trans ho)
            subst this
            have h1 := hall e he hb'
            rw [hon] at h1
            exact h1
          exact (hΦ k (by simpa using hkh0) hkl).1
  refine wp_region_any hm ?_
  refine wpAny_nrm _ _ _ _ ?_
  obtain ⟨u0, hu0⟩ := frL_self (l := l) hd hnd (pureA l pu a)
  have hbase : ∀ j, (Array.replicate l.toArray.size false).getD j false = false := getD_replicate_false _
  have hafter : ∀ (r : List Nat) (x : Array Bool), pureB .any l.toArray r x = true → ∀ i ∈ r, ∀ o, l.toArray[i]? = some o → o.after = #[] := by
    intro r
    induction r with
    | nil => intro _ _ i hi; simp at hi
    | cons p r ih =>
      intro x hx i hi o ho
      simp only [pureB, Bool.and_eq_true] at hx
      rcases List.mem_cons.1 hi with rfl | hi
      · have h1 := hx.1
        unfold pureOp at h1
        rw [ho] at h1
        simp only [Bool.and_eq_true] at h1
        simpa using h1.1.1.1.1
      · exact ih _ hx.2 i hi o ho
  have hsz1 : (setAll pu (Array.replicate l.toArray.size false)).size = l.toArray.size := by rw [setAll_size]; simp
  have hget : ∀ i, i < l.toArray.size → ((setAll pu (Array.replicate l.toArray.size false)).getD i false = true ↔ i ∈ pu) := fun i hi => by
    rw [setAll_get pu _ i (by simpa using hi), hbase]; simp
  have hpul : ∀ (r : List Nat) (x : Array Bool), pureB .any l.toArray r x = true → ∀ i ∈ r, i < l.toArray.size := by
    intro r
    induction r with
    | nil => intro _ _ i hi; simp at hi
    | cons p r ih =>
      intro x hx i hi
      simp only [pureB, Bool.and_eq_true] at hx
      rcases List.mem_cons.1 hi with rfl | hi
      · have h1 := hx.1
        unfold pureOp at h1
        cases ho : l.toArray[i]? with
        | none => rw [ho] at h1; simp at h1
        | some o => exact (Array.getElem?_eq_some_iff.1 ho).1
      · exact ih _ hx.2 i hi
  have inv0 : LInv .any l.toArray pu hd (setAll pu (Array.replicate l.toArray.size false)) := by
    refine ⟨hsz1, fun i hi => (hget i (hpul pu _ hP i hi)).2 hi, fun j oj hoj hl e he _ => ?_, fun t hp _ ht => ?_⟩
    · have hj := (hget j (Array.getElem?_eq_some_iff.1 hoj).1).1 hl
      rw [hafter pu _ hP j hj oj hoj] at he
      simp at he
    · refine getD_in (by rw [hsz1]; exact ht) ?_
      cases hc : (setAll pu (Array.replicate l.toArray.size false)).getD t false with
      | false => rfl
      | true => exact absurd ((hget t ht).1 hc) hp
  have hun : ∀ i ∈ hd, (setAll pu (Array.replicate l.toArray.size false)).getD i false = false := fun i hi => by
    cases hc : (setAll pu (Array.replicate l.toArray.size false)).getD i false with
    | false => rfl
    | true => exact absurd ((hget i (hlt' i hi)).1 hc) (hdis i hi)
  have hcnt : ∀ r : List Nat, (∀ i ∈ r, i ∈ hd) → cntL (setAll pu (Array.replicate l.toArray.size false)) r = r.length := by
    intro r
    induction r with
    | nil => intro _; rfl
    | cons p r ih =>
      intro h
      unfold cntL
      rw [ih (fun i hi => h i (List.mem_cons_of_mem _ hi)), hun p (h p (by simp))]
      simp
  have := main hd.length (setAll pu (Array.replicate l.toArray.size false)) u0 (fun _ => (0, 0)) { w with drawn := w.drawn + 1 } inv0 (hcnt hd (fun _ h => h)) (Bel.refl w).drew
    (fun k hk h => by rw [hun k hk] at h; cases h) (fun i j hi _ h => by rw [hun i hi] at h; cases h)
  rw [← hu0] at this
  have h3 := wpAny_pure hN pu (hd.length + tl.length) _ a _ hP this
  rwa [show pu.length + (hd.length + tl.length) = l.toArray.size by omega] at h3
end Go.Cb

/- The library: as Grow, one of the first operations (m) writing to one block (row) that was there. -/
namespace Go.Cb
open Go
theorem gr_bel {w w' : World} {row : Option Nat} (h : Bel w w') : w.grownBy w' row := ⟨h.out.os, h.out.tape, h.out.output, h.size, fun _ hk _ => h.block hk⟩
theorem gr_trans {a b c : World} {row : Option Nat} (h1 : a.grownBy b row) (h2 : b.grownBy c row) : a.grownBy c row :=
  ⟨h2.os.trans h1.os, h2.tape.trans h1.tape, h2.output.trans h1.output, Nat.le_trans h1.size h2.size, fun i hi hne => (h2.block i (Nat.lt_of_lt_of_le hi h1.size) hne).trans (h1.block i hi hne)⟩
def relM (m : Nat) (row : Option Nat) (i : Nat) (a b : World) : Prop := if i = m then a.grownBy b row else Bel a b
def preM (md : Region.Mode) (ops : Array Oper) (m : Nat) (row : Option Nat) (i : Nat) (a b : World) : Prop := if i = m ∨ Region.waitsFor md ops m i = true then Bel a b else a.grownBy b row
/-- What one of the first n leaves: its value, memory that it made. -/
def growQM (a : Act) (o : Oper) (w1 : World) (rel : World → World → Prop) (φ : Value → Nat → Nat → World → Prop) : Exit → Act → World → Prop :=
  fun ex a' w2 => ex = .normal ∧ ∃ v, a' = a.put o.dst v ∧ rel w1 w2 ∧ φ v w1.heap.size w2.heap.size w2
section
variable {P : Program} {ops : Array Oper} {md : Region.Mode}
theorem wpAny_growM {n m : Nat} {row : Option Nat} {l : List Oper} {Q : Exit → Act → World → Prop} {w : World} (hl : ops = l.toArray) (hB : growB md ops n = true) (fr : (Nat → Value) → Act)
    (hfr : ∀ u i o v, l[i]? = some o → i < n → (fr u).put o.dst v = fr (fun k => if k = i then v else u k))
    (Φ : Nat → Value → Nat → Nat → World → Prop) (hst : ∀ i v lo hi w1 w2, Φ i v lo hi w1 → Bel w1 w2 → Φ i v lo hi w2)
    (hstR : ∀ i v lo hi w1 w2, i < n → i ≠ m → w.heap.size ≤ lo → Φ i v lo hi w1 → w1.grownBy w2 row → Φ i v lo hi w2)
    (hstep : ∀ i o, l[i]? = some o → i < n → ∀ (u : Nat → Value) (ρ : Nat → Nat × Nat) w1, preM md ops m row i w w1 → (∀ k, Region.waitsFor md ops i k = true → Φ k (u k) (ρ k).1 (ρ k).2 w1 ∧ w.heap.size ≤ (ρ k).1) → wpList P ops (growQM (fr u) o w1 (relM m row i) (Φ i)) [o] (fr u) w1)
    (htail : ∀ (u : Nat → Value) (ρ : Nat → Nat × Nat) w1, w.grownBy w1 row → (∀ k, k < n → Φ k (u k) (ρ k).1 (ρ k).2 w1 ∧ w.heap.size ≤ (ρ k).1 ∧ (ρ k).1 ≤ (ρ k).2 ∧ (ρ k).2 ≤ w1.heap.size) →
      wpList P ops Q (l.drop n) (fr u) w1) :
    ∀ (f : Nat) (listed : Array Bool) (u : Nat → Value) (ρ : Nat → Nat × Nat) (w1 : World), HeadInv md ops n listed → cntU listed n = f → (listed.getD m false = false → Bel w w1) → w.grownBy w1 row →
      (∀ k, k < n → listed.getD k false = true → Φ k (u k) (ρ k).1 (ρ k).2 w1 ∧ w.heap.size ≤ (ρ k).1 ∧ (ρ k).1 ≤ (ρ k).2 ∧ (ρ k).2 ≤ w1.heap.size) →
      wpAny P md ops Q (f + (ops.size - n)) listed (fr u) w1 := by
  unfold growB at hB
  simp only [Bool.and_eq_true, decide_eq_true_eq] at hB
  obtain ⟨⟨⟨⟨hn, hs⟩, hc⟩, hd⟩, hseq⟩ := hB
  have hdep : ∀ i k, i < n → Region.waitsFor md ops i k = true → k < i := fun i k hi hw => by
    obtain ⟨o, ho, e, he, hb, hon⟩ := Region.waitsFor_spec hw
    have h1 := List.all_eq_true.1 hd i (List.mem_range.2 hi)
    rw [ho] at h1
    simp only [Option.map_some, Option.getD_some] at h1
    have h2 := Array.all_eq_true'.1 h1 e he
    simp only [Bool.or_eq_true, Bool.not_eq_true', decide_eq_true_eq] at h2
    rcases h2 with h2 | h2
    · rw [h2] at hb; cases hb
    · omega
  intro f
  induction f with
  | zero =>
    intro listed u ρ w1 inv hcnt hb hg hΦ
    have hall := cntU_zero hcnt
    have hle := headDone_eq (m := ops.size) inv.size (by omega) hall inv.tail
    have hdl : (l.drop n).length = ops.size - n := by rw [hl]; simp
    have := wpAny_of_seq (P := P) (md := md) (ops := ops) (Q' := Q) (l.drop n) n listed (fr u) w1 (fun j => by rw [hl]; simp) (by rw [hdl, hle]; exact hseq)
      (htail u ρ w1 hg (fun k hk => hΦ k hk (hall k hk)))
    rw [hdl] at this
    rwa [Nat.zero_add]
  | succ f ih =>
    intro listed u ρ w1 inv hcnt hb hg hΦ
    obtain ⟨i0, hi0, hu0, hl0⟩ := least_un n (by omega : cntU listed n ≠ 0)
    have hsz := inv.size
    rw [show f + 1 + (ops.size - n) = (f + (ops.size - n)) + 1 by omega]
    refine ⟨fun h => ?_, fun i hi => ?_⟩
    · exfalso
      have : i0 ∈ Region.ready md ops listed := by
        rw [mem_ready]
        have hlt : i0 < ops.size := by omega
        refine ⟨getD_in (by omega) hu0, ops[i0], Array.getElem?_eq_getElem hlt, fun e he hb => ?_⟩
        exact hl0 _ (hdep i0 e.on hi0 (waits_of (Array.getElem?_eq_getElem hlt) he hb))
      rw [h] at this
      cases this
    · have hin : i < n := by
        rcases Nat.lt_or_ge i n with h | h
        · exact h
        · exact absurd hi (tail_waits hs hc hn inv _ i0 rfl hi0 (getD_in (by omega) hu0) i h)
      obtain ⟨hun, o, ho, hall⟩ := mem_ready.1 hi
      have hlo : l[i]? = some o := by rw [hl] at ho; simpa using ho
      have hunf : listed.getD i false = false := getD_both hun
      have hpre : preM md ops m row i w w1 := by
        unfold preM
        by_cases hc1 : i = m ∨ Region.waitsFor md ops m i = true
        · rw [if_pos hc1]
          refine hb ?_
          rcases hc1 with e | e
          · rw [← e]; exact hunf
          · cases hm : listed.getD m false with
            | false => rfl
            | true =>
              exfalso
              obtain ⟨om, hom, e1, he1, hb1, hon⟩ := Region.waitsFor_spec e
              have := inv.closed m om hom hm e1 he1 hb1
              rw [hon, hunf] at this
              cases this
        · rw [if_neg hc1]
          exact hg
      refine wpOp_only ho (fun _ _ _ h => h.1) ?_ (hstep i o hlo hin u ρ w1 hpre (fun k hk => ?_))
      · rintro a' w2 ⟨_, v, rfl, hb2, hv⟩
        rw [hfr u i o v hlo hin]
        have hcs := cntU_set (listed := listed) (i := i) (by omega) (getD_both hun) hin
        have hg2 : w1.grownBy w2 row := by
          unfold relM at hb2
          by_cases e : i = m
          · rw [if_pos e] at hb2; exact hb2
          · rw [if_neg e] at hb2; exact gr_bel hb2
        refine ih _ _ (fun k => if k = i then (w1.heap.size, w2.heap.size) else ρ k) w2 (inv.set hi hin) (by omega) (fun hmf => ?_) (gr_trans hg hg2) (fun k hk hlk => ?_)
        · by_cases e : i = m
          · subst e
            rw [getD_set_eq (by omega)] at hmf
            cases hmf
          · rw [getD_set_neF e] at hmf
            unfold relM at hb2
            rw [if_neg e] at hb2
            exact (hb hmf).trans hb2
        · by_cases e : k = i
          · subst e
            simp only [if_true]
            exact ⟨hv, hg.size, hg2.size, Nat.le_refl _⟩
          · simp only [if_neg e]
            rw [getD_set_neF (Ne.symm e)] at hlk
            obtain ⟨h1, h2, h3, h4⟩ := hΦ k hk hlk
            refine ⟨?_, h2, h3, Nat.le_trans h4 hg2.size⟩
            by_cases e2 : i = m
            · exact hstR _ _ _ _ _ _ hk (fun h => e (h.trans e2.symm)) h2 h1 hg2
            · unfold relM at hb2
              rw [if_neg e2] at hb2
              exact hst _ _ _ _ _ _ h1 hb2
      · obtain ⟨o', ho', e, he, hb', hon⟩ := Region.waitsFor_spec hk
        have : o' = o := Option.some.inj (ho'.symm.trans ho)
        subst this
        have h1 := hall e he hb'
        rw [hon] at h1
        have h2 := hΦ k (by have := hdep i k hin hk; omega) h1
        exact ⟨h2.1, h2.2.1⟩
end
def growStepsM (P : Program) (l : List Oper) (n m : Nat) (row : Option Nat) (w : World) (a : Act) (Φ : List SPred) : List Oper → Nat → Prop
  | [], _ => True
  | o :: rest, i => (∀ (u : Nat → Value) (ρ : Nat → Nat × Nat) w1, preM .any l.toArray m row i w w1 → (∀ k, Region.waitsFor .any l.toArray i k = true → (Φ.getD k SPred.any).φ (u k) (ρ k).1 (ρ k).2 w1 ∧ w.heap.size ≤ (ρ k).1) → wpList P l.toArray (growQM (growFr l n a u) o w1 (relM m row i) (Φ.getD i SPred.any).φ) [o] (growFr l n a u) w1) ∧ growStepsM P l n m row w a Φ rest (i + 1)
theorem growStepsM_at {P : Program} {l : List Oper} {n m : Nat} {row : Option Nat} {w : World} {a : Act} {Φ : List SPred} : ∀ {r : List Oper} {j : Nat}, growStepsM P l n m row w a Φ r j → ∀ i o, r[i]? = some o →
    ∀ (u : Nat → Value) (ρ : Nat → Nat × Nat) w1, preM .any l.toArray m row (j + i) w w1 → (∀ k, Region.waitsFor .any l.toArray (j + i) k = true → (Φ.getD k SPred.any).φ (u k) (ρ k).1 (ρ k).2 w1 ∧ w.heap.size ≤ (ρ k).1) → wpList P l.toArray (growQM (growFr l n a u) o w1 (relM m row (j + i)) (Φ.getD (j + i) SPred.any).φ) [o] (growFr l n a u) w1
  | [], _, _, i, o, h => by simp at h
  | x :: r, j, h, 0, o, ho => by
    obtain rfl : x = o := by simpa using ho
    exact h.1
  | x :: r, j, h, i + 1, o, ho => by
    have := growStepsM_at h.2 i o (by simpa using ho)
    rw [show j + 1 + i = j + (i + 1) by omega] at this
    exact this
/-- The region: its first n operations in any order, one of which (m) writes to one block; the others one by one behind them. -/
theorem wp_region_growM {P : Program} {id : Nat} {Q : Exit → Act → World → Prop} {a : Act} {w : World} {l : List Oper} (n m : Nat) (row : Option Nat) (hm : P.follows .mixedOrders = true) (hB : growB .any l.toArray n = true) (hD : growDsts l n = true) (Φ : List SPred)
    (hstR : ∀ i, i < n → i ≠ m → ∀ v lo hi w1 w2, w.heap.size ≤ lo → (Φ.getD i SPred.any).φ v lo hi w1 → w1.grownBy w2 row → (Φ.getD i SPred.any).φ v lo hi w2)
    (hstep : growStepsM P l n m row w a Φ (l.take n) 0)
    (htail : ∀ (u : Nat → Value) (ρ : Nat → Nat × Nat) w1, w.grownBy w1 row → (∀ k, k < n → (Φ.getD k SPred.any).φ (u k) (ρ k).1 (ρ k).2 w1 ∧ w.heap.size ≤ (ρ k).1 ∧ (ρ k).1 ≤ (ρ k).2 ∧ (ρ k).2 ≤ w1.heap.size) → wpList P l.toArray Q (l.drop n) (growFr l n a u) w1) :
    (Code.region id l.toArray true).wp P Q a w := by
  have hd : ∀ p q, p < n → q < n → p ≠ q → ((l[p]?).bind (·.dst)) ≠ ((l[q]?).bind (·.dst)) := fun p q hp hq hpq => by
    have h1 := List.all_eq_true.1 hD p (List.mem_range.2 hp)
    have h2 := List.all_eq_true.1 h1 q (List.mem_range.2 hq)
    simp only [Bool.or_eq_true, decide_eq_true_eq, bne_iff_ne] at h2
    rcases h2 with h2 | h2
    · exact absurd h2 hpq
    · exact h2
  obtain ⟨u0, hu0⟩ := growFr_self (l := l) n a
  refine wp_region_any hm ?_
  have hn : n < l.toArray.size := by
    have := hB
    unfold growB at this
    simp only [Bool.and_eq_true, decide_eq_true_eq] at this
    exact this.1.1.1.1
  have inv0 : HeadInv .any l.toArray n (Array.replicate l.toArray.size false) :=
    ⟨by simp, fun j oj _ hl => (by rw [getD_replicate_false] at hl; cases hl), fun t _ ht => getD_in (by simpa using ht) (getD_replicate_false _ _)⟩
  have hb0 : Bel w { w with drawn := w.drawn + 1 } := (Bel.refl w).drew
  have := wpAny_growM (P := P) (md := .any) (Q := Q) (w := w) (m := m) (row := row) rfl hB (growFr l n a) (fun u i o v ho hi => by
      have := growFr_put (a := a) (u := u) (v := v) hd hi
      rw [ho] at this
      exact this) (fun k => (Φ.getD k SPred.any).φ) (fun i => (Φ.getD i SPred.any).st) (fun i v lo hi w1 w2 h1 h2 => hstR i h1 h2 v lo hi w1 w2) (fun i o ho hi u ρ w1 hb hk => by
      have := growStepsM_at hstep i o (by rw [List.getElem?_take, if_pos hi]; exact ho) u ρ w1
      rw [Nat.zero_add] at this
      exact this hb hk) htail n (Array.replicate l.toArray.size false) u0 (fun _ => (0, 0)) { w with drawn := w.drawn + 1 } inv0 (cntU_none _ _) (fun _ => hb0) (gr_bel hb0)
    (fun k _ h => by rw [getD_replicate_false] at h; cases h)
  rw [show n + (l.toArray.size - n) = l.toArray.size by omega] at this
  rw [← hu0] at this
  exact this
theorem relM_bel {m i : Nat} {row : Option Nat} {a b : World} (h : i ≠ m) (hb : Bel a b) : relM m row i a b := by unfold relM; rw [if_neg h]; exact hb
theorem relM_row {m : Nat} {row : Option Nat} {a b : World} (hb : a.grownBy b row) : relM m row m a b := by unfold relM; rw [if_pos rfl]; exact hb
theorem preM_gr {md : Region.Mode} {ops : Array Oper} {m i : Nat} {row : Option Nat} {a b : World} (h : preM md ops m row i a b) : a.grownBy b row := by
  unfold preM at h
  split at h
  · exact gr_bel h
  · exact h
theorem preM_bel {md : Region.Mode} {ops : Array Oper} {m i : Nat} {row : Option Nat} {a b : World} (h : preM md ops m row i a b) (hc : i = m ∨ Region.waitsFor md ops m i = true) : Bel a b := by
  unfold preM at h
  rwa [if_pos hc] at h
/-- A row of one number, new. -/
def SPred.litI (t : TypeId) (x : Int) : SPred := ⟨fun v lo _ w => v = .slice (some ⟨lo, 0, none⟩) 1 1 ∧ w.heap[lo]? = some (.cells #[.int .i64 x] t (0, 0)), fun _ _ _ _ _ ⟨e, h⟩ hb => ⟨e, (hb.block (blk_lt h)).trans h⟩⟩
end Go.Cb

/- Plain laws of words (bags), without Go: what the program's functions compute. -/
namespace Go.Cb

/-! ### numbers -/
def far : Int := 1152921504606846976
def okN (n : Int) : Bool := decide (0 ≤ n) && decide (n ≤ far)
def addN (a b : Int) : Int × Bool := if okN a = true ∧ okN b = true ∧ a + b ≤ far then (a + b, true) else (0, false)
def mulN (a b : Int) : Int × Bool := if okN a = true ∧ okN b = true ∧ a * b ≤ far then (a * b, true) else (0, false)
theorem okN_iff (n : Int) : okN n = true ↔ 0 ≤ n ∧ n ≤ far := by simp [okN]

/-! ### words -/
def rightB (b : List Int) : Bool := decide (b.length ≤ 12) && (b.getLast? != some 0) && b.all okN
def cutB (b : List Int) : List Int := (b.reverse.dropWhile (· == 0)).reverse
def normB (b : List Int) : List Int := if rightB (cutB b) then cutB b else []
def oneB (tag n : Int) : List Int := if 0 ≤ tag ∧ tag < 12 ∧ 1 ≤ n ∧ n ≤ far then List.replicate tag.toNat 0 ++ [n] else []

theorem all_snoc {α : Type} {p : α → Bool} {l : List α} {k : Nat} (hk : k < l.length) (h : ∀ x ∈ l.take k, p x = true) (hx : p l[k] = true) : ∀ x ∈ l.take (k + 1), p x = true := by
  intro x hm
  rw [List.take_succ_eq_append_getElem hk] at hm
  rcases List.mem_append.1 hm with hm | hm
  · exact h x hm
  · rw [List.mem_singleton.1 hm]; exact hx
theorem idx_no {α : Type} {p : α → Bool} {l : List α} {k : Nat} (hk : k < l.length) (hx : p l[k] = false) : decide (0 ≤ (k : Int)) = !l.all p := by
  have : l.all p = false := by
    rw [← Bool.not_eq_true, List.all_eq_true]
    intro h
    rw [h _ (List.getElem_mem hk)] at hx
    cases hx
  rw [this]; simp
theorem idx_yes {α : Type} {p : α → Bool} {l : List α} {k : Nat} (hk : l.length ≤ k) (h : ∀ x ∈ l.take k, p x = true) : decide (0 ≤ (-1 : Int)) = !l.all p := by
  rw [List.take_of_length_le hk] at h
  rw [List.all_eq_true.2 h]; rfl
theorem cut_snoc {l : List Int} {k : Nat} (h0 : 0 < k) (hk : k ≤ l.length) (hz : l[k - 1] = 0) (h : ∀ x ∈ l.drop k, x = 0) : ∀ x ∈ l.drop (k - 1), x = 0 := by
  intro x hx
  rw [List.drop_eq_getElem_cons (by omega)] at hx
  rcases List.mem_cons.1 hx with hx | hx
  · rw [hx]; exact hz
  · rw [show k - 1 + 1 = k from by omega] at hx
    exact h x hx
theorem cutB_eq {l : List Int} {k : Nat} (hk : k ≤ l.length) (h : ∀ x ∈ l.drop k, x = 0) (he : k = 0 ∨ ∃ h0 : 0 < k, l[k - 1] ≠ 0) : cutB l = l.take k := by
  have hsplit : l = l.take k ++ l.drop k := (List.take_append_drop k l).symm
  have hrev : l.reverse = (l.drop k).reverse ++ (l.take k).reverse := by
    conv => lhs; rw [hsplit]
    rw [List.reverse_append]
  unfold cutB
  rw [hrev, List.dropWhile_append_of_pos (by intro x hx; simpa using h x (List.mem_reverse.1 hx))]
  rcases he with rfl | ⟨h0, hne⟩
  · simp
  · have htk : l.take k = l.take (k - 1) ++ [l[k - 1]] := by
      have := List.take_succ_eq_append_getElem (l := l) (i := k - 1) (by omega)
      rwa [show k - 1 + 1 = k from by omega] at this
    rw [htk, List.reverse_append, List.reverse_singleton, List.singleton_append, List.dropWhile_cons_of_neg (by simpa using hne), List.reverse_cons, List.reverse_reverse]
theorem oneB_eq {t : Nat} {k : Int} (h1 : t < 12) (h2 : 1 ≤ k) (h3 : k ≤ 1152921504606846976) : oneB (t : Int) k = (List.replicate (t + 1) (0 : Int)).set t k := by
  unfold oneB far
  rw [if_pos (by omega), List.replicate_succ', List.set_append_right _ _ (by simp)]
  simp
theorem oneB_no {t k : Int} (h : ¬ (0 ≤ t ∧ t < 12 ∧ 1 ≤ k ∧ k ≤ 1152921504606846976)) : oneB t k = [] := by
  unfold oneB far
  rw [if_neg h]

/-! ### meters -/
def spendOk (b s : Int) (o : Bool) (n : Int) : Bool := !o && decide (max n 0 ≤ b - s)
def spendS (b s : Int) (o : Bool) (n : Int) : Int := if spendOk b s o n then s + max n 0 else s
def spendO (b s : Int) (o : Bool) (n : Int) : Bool := !spendOk b s o n
theorem spendS_range {b s : Int} (o : Bool) (n : Int) (h1 : s ≤ b) : s ≤ spendS b s o n ∧ spendS b s o n ≤ b := by
  unfold spendS
  split
  · rename_i h
    simp [spendOk] at h
    omega
  · omega
theorem none_snoc {α : Type} {p : α → Bool} {l : List α} {k : Nat} (hk : k < l.length) (h : ∀ x ∈ l.take k, p x = false) (hx : p l[k] = false) : ∀ x ∈ l.take (k + 1), p x = false := by
  intro x hm
  rw [List.take_succ_eq_append_getElem hk] at hm
  rcases List.mem_append.1 hm with hm | hm
  · exact h x hm
  · rw [List.mem_singleton.1 hm]; exact hx
theorem any_yes {α : Type} {p : α → Bool} {l : List α} {k : Nat} (hk : k < l.length) (hx : p l[k] = true) : decide (0 ≤ (k : Int)) = l.any p := by
  have : l.any p = true := List.any_eq_true.2 ⟨_, List.getElem_mem hk, hx⟩
  rw [this]; simp
theorem any_no {α : Type} {p : α → Bool} {l : List α} {k : Nat} (hk : l.length ≤ k) (h : ∀ x ∈ l.take k, p x = false) : decide (0 ≤ (-1 : Int)) = l.any p := by
  rw [List.take_of_length_le hk] at h
  have : l.any p = false := by
    rw [← Bool.not_eq_true, List.any_eq_true]
    rintro ⟨x, hx, h2⟩
    rw [h x hx] at h2; cases h2
  rw [this]; rfl
end Go.Cb

/- Plain laws of words: sums, differences, order. -/
namespace Go.Cb

def addP : List Int → List Int → List Int
  | [], b => b
  | a, [] => a
  | x :: a, y :: b => (x + y) :: addP a b
def subP : List Int → List Int → List Int
  | [], _ => []
  | a, [] => a
  | x :: a, y :: b => (x - y) :: subP a b
def leP : List Int → List Int → Bool
  | _, [] => true
  | [], _ :: _ => false
  | x :: a, y :: b => decide (y ≤ x) && leP a b
def addB (a b : List Int) : List Int × Bool := if rightB a = true ∧ rightB b = true ∧ (addP a b).all (fun n => decide (n ≤ far)) = true then (addP a b, true) else ([], false)
def subB (a b : List Int) : List Int × Bool := if rightB a = true ∧ rightB b = true ∧ leP a b = true then (cutB (subP a b), true) else ([], false)
def cmpI (a b : Int) : Int := if a < b then -1 else if b < a then 1 else 0
def cmpL : List Int → List Int → Int
  | [], [] => 0
  | [], _ :: _ => -1
  | _ :: _, [] => 1
  | x :: a, y :: b => if cmpI x y = 0 then cmpL a b else cmpI x y
def cmpB (a b : List Int) : Int := if rightB a = true ∧ rightB b = true then (if a.length = b.length then cmpL a b else cmpI a.length b.length) else 0
def totalB (b : List Int) : Int × Bool := if rightB b = true ∧ b.sum ≤ far then (b.sum, true) else (0, false)

theorem addP_nil (a : List Int) : addP a [] = a := by cases a <;> rfl
theorem addP_comm : ∀ a b : List Int, addP a b = addP b a
  | [], b => by rw [addP_nil]; rfl
  | a :: as, [] => rfl
  | x :: a, y :: b => by rw [addP, addP, addP_comm a b, Int.add_comm]
theorem addB_comm (a b : List Int) : addB a b = addB b a := by
  unfold addB
  rw [addP_comm a b]
  by_cases h : rightB a = true ∧ rightB b = true ∧ (addP b a).all (fun n => decide (n ≤ far)) = true
  · rw [if_pos h, if_pos ⟨h.2.1, h.1, h.2.2⟩]
  · rw [if_neg h, if_neg (fun h2 => h ⟨h2.2.1, h2.1, h2.2.2⟩)]
theorem addP_length : ∀ a b : List Int, (addP a b).length = max a.length b.length
  | [], b => by simp [addP]
  | x :: a, [] => by simp [addP]
  | x :: a, y :: b => by simp [addP, addP_length a b]
theorem addP_get : ∀ (a b : List Int) (i : Nat), (addP a b).getD i 0 = a.getD i 0 + b.getD i 0
  | [], b, i => by simp [addP]
  | x :: a, [], i => by simp [addP]
  | x :: a, y :: b, 0 => by simp [addP]
  | x :: a, y :: b, i + 1 => by simpa [addP] using addP_get a b i
theorem list_ext {a b : List Int} (hl : a.length = b.length) (h : ∀ i, i < a.length → a.getD i 0 = b.getD i 0) : a = b := by
  apply List.ext_getElem hl
  intro i h1 h2
  have := h i h1
  rw [List.getD_eq_getElem?_getD, List.getD_eq_getElem?_getD, List.getElem?_eq_getElem h1, List.getElem?_eq_getElem h2] at this
  exact this
theorem getD_of {l : List Int} {k : Nat} (h : k < l.length) : l.getD k 0 = l[k] := by rw [List.getD_eq_getElem?_getD, List.getElem?_eq_getElem h]; rfl
theorem getD_out {l : List Int} {k : Nat} (h : l.length ≤ k) : l.getD k 0 = 0 := by rw [List.getD_eq_getElem?_getD, List.getElem?_eq_none h]; rfl
theorem getD_take (l : List Int) (k i : Nat) : (l.take k).getD i 0 = if i < k then l.getD i 0 else 0 := by
  rw [List.getD_eq_getElem?_getD, List.getElem?_take]
  split
  · rw [List.getD_eq_getElem?_getD]
  · rfl
theorem getD_set (l : List Int) (k i : Nat) (x : Int) (hk : k < l.length) : (l.set k x).getD i 0 = if i = k then x else l.getD i 0 := by
  rw [List.getD_eq_getElem?_getD, List.getElem?_set, List.getD_eq_getElem?_getD]
  by_cases h : k = i
  · rw [if_pos h, if_pos h.symm, if_pos (by omega)]; rfl
  · rw [if_neg h, if_neg (fun e => h e.symm)]
theorem addP_step {a b : List Int} {k : Nat} (hk : k < b.length) (hl : b.length ≤ a.length) : addP a (b.take (k + 1)) = (addP a (b.take k)).set k (a[k] + b[k]) := by
  apply list_ext
  · rw [List.length_set, addP_length, addP_length, List.length_take, List.length_take]; omega
  · intro i hi
    rw [addP_length, List.length_take] at hi
    rw [getD_set _ _ _ _ (by rw [addP_length]; omega), addP_get, addP_get, getD_take, getD_take]
    by_cases h : i = k
    · subst h; rw [if_pos (by omega), if_pos rfl, getD_of (by omega), getD_of hk]
    · rw [if_neg h]
      by_cases h2 : i < k
      · rw [if_pos (by omega), if_pos h2]
      · rw [if_neg (by omega), if_neg h2]
theorem right_ok {b : List Int} (h : rightB b = true) : ∀ x ∈ b, 0 ≤ x ∧ x ≤ far := by
  unfold rightB at h
  simp only [Bool.and_eq_true, List.all_eq_true] at h
  exact fun x hx => (okN_iff _).1 (h.2 _ hx)
theorem right_len {b : List Int} (h : rightB b = true) : b.length ≤ 12 := by
  unfold rightB at h
  simp only [Bool.and_eq_true] at h
  exact of_decide_eq_true h.1.1
/-- What the loop of sums comes to. -/
theorem addB_yes {a b : List Int} (ha : rightB a = true) (hb : rightB b = true) (hl : b.length ≤ a.length) (h : ∀ i, i < b.length → a.getD i 0 + b.getD i 0 ≤ far) : addB a b = (addP a b, true) := by
  have hall : (addP a b).all (fun n => decide (n ≤ far)) = true := by
    rw [List.all_eq_true]
    intro x hx
    obtain ⟨i, hi, rfl⟩ := List.getElem_of_mem hx
    have hm : i < a.length := by rw [addP_length] at hi; omega
    have h2 : (addP a b)[i] = a.getD i 0 + b.getD i 0 := by rw [← addP_get, getD_of hi]
    rw [h2]
    apply decide_eq_true
    by_cases hib : i < b.length
    · exact h i hib
    · rw [getD_out (l := b) (by omega), Int.add_zero, getD_of hm]
      exact (right_ok ha _ (List.getElem_mem hm)).2
  unfold addB
  rw [if_pos ⟨ha, hb, hall⟩]
theorem addB_no {a b : List Int} {i : Nat} (h : far < a.getD i 0 + b.getD i 0) : addB a b = ([], false) := by
  unfold addB
  rw [if_neg]
  rintro ⟨_, _, h3⟩
  rw [List.all_eq_true] at h3
  have hi : i < (addP a b).length := by
    rw [addP_length]
    rcases Nat.lt_or_ge i (max a.length b.length) with h4 | h4
    · exact h4
    · rw [getD_out (by omega), getD_out (by omega)] at h
      simp [far] at h
  have := of_decide_eq_true (h3 _ (List.getElem_mem hi))
  rw [← getD_of hi, addP_get] at this
  omega

/-! ### order -/
theorem cmpI_self (a : Int) : cmpI a a = 0 := by unfold cmpI; simp
theorem cmpI_lt {a b : Int} (h : a < b) : cmpI a b = -1 := by unfold cmpI; rw [if_pos h]
theorem cmpI_gt {a b : Int} (h : b < a) : cmpI a b = 1 := by unfold cmpI; rw [if_neg (by omega), if_pos h]
theorem cmpI_zero {a b : Int} : cmpI a b = 0 ↔ a = b := by
  unfold cmpI
  split
  · omega
  · split <;> omega
theorem cmpL_drop : ∀ (k : Nat) (a b : List Int), k ≤ a.length → k ≤ b.length → (∀ i, i < k → a.getD i 0 = b.getD i 0) → cmpL a b = cmpL (a.drop k) (b.drop k)
  | 0, a, b, _, _, _ => by simp
  | k + 1, [], b, h, _, _ => by simp at h
  | k + 1, a :: as, [], _, h, _ => by simp at h
  | k + 1, x :: a, y :: b, h1, h2, h => by
    have h0 := h 0 (by omega)
    simp at h0
    subst h0
    rw [cmpL, cmpI_self, if_pos rfl]
    exact cmpL_drop k a b (by simpa using h1) (by simpa using h2) (fun i hi => by simpa using h (i + 1) (by omega))
theorem cmpL_at {a b : List Int} {k : Nat} (h1 : k < a.length) (h2 : k < b.length) (h : ∀ i, i < k → a.getD i 0 = b.getD i 0) (hne : a[k] ≠ b[k]) : cmpL a b = cmpI a[k] b[k] := by
  rw [cmpL_drop k a b (by omega) (by omega) h, List.drop_eq_getElem_cons h1, List.drop_eq_getElem_cons h2, cmpL, if_neg (fun e => hne (cmpI_zero.1 e))]
theorem cmpL_short {a b : List Int} (h1 : a.length < b.length) (h : ∀ i, i < a.length → a.getD i 0 = b.getD i 0) : cmpL a b = -1 := by
  rw [cmpL_drop a.length a b (by omega) (by omega) h, List.drop_length, List.drop_eq_getElem_cons h1]; rfl
theorem cmpL_long {a b : List Int} (h1 : b.length < a.length) (h : ∀ i, i < b.length → a.getD i 0 = b.getD i 0) : cmpL a b = 1 := by
  rw [cmpL_drop b.length a b (by omega) (by omega) h, List.drop_length, List.drop_eq_getElem_cons h1]; rfl
theorem cmpL_same {a b : List Int} (h1 : a.length = b.length) (h : ∀ i, i < a.length → a.getD i 0 = b.getD i 0) : cmpL a b = 0 := by
  rw [cmpL_drop a.length a b (by omega) (by omega) h, List.drop_length, h1, List.drop_length]; rfl
theorem agree_snoc {a b : List Int} {k : Nat} (h1 : k < a.length) (h2 : k < b.length) (h : ∀ i, i < k → a.getD i 0 = b.getD i 0) (he : a[k] = b[k]) : ∀ i, i < k + 1 → a.getD i 0 = b.getD i 0 := by
  intro i hi
  by_cases hik : i < k
  · exact h i hik
  · obtain rfl : i = k := by omega
    rw [getD_of h1, getD_of h2, he]

/-! ### totals -/
theorem sum_take {b : List Int} {k : Nat} (h : k < b.length) : (b.take (k + 1)).sum = (b.take k).sum + b[k] := by
  rw [List.take_succ_eq_append_getElem h, List.sum_append]; simp
theorem sum_nonneg : ∀ {b : List Int}, (∀ x ∈ b, 0 ≤ x) → 0 ≤ b.sum
  | [], _ => by simp
  | x :: b, h => by
    rw [List.sum_cons]
    have := h x List.mem_cons_self
    have := sum_nonneg (b := b) (fun y hy => h y (List.mem_cons_of_mem _ hy))
    omega
theorem sum_take_le {b : List Int} (h : ∀ x ∈ b, 0 ≤ x) (k : Nat) : (b.take k).sum ≤ b.sum := by
  have h1 : b.sum = (b.take k).sum + (b.drop k).sum := by rw [← List.sum_append, List.take_append_drop]
  have h2 := sum_nonneg (b := b.drop k) (fun x hx => h x (List.mem_of_mem_drop hx))
  omega

/-! ### differences -/
theorem subP_length : ∀ a b : List Int, b.length ≤ a.length → (subP a b).length = a.length
  | [], b, _ => by simp [subP]
  | x :: a, [], _ => by simp [subP]
  | x :: a, y :: b, h => by simp [subP, subP_length a b (by simpa using h)]
theorem subP_get : ∀ (a b : List Int), b.length ≤ a.length → ∀ i, (subP a b).getD i 0 = a.getD i 0 - b.getD i 0
  | [], b, h, i => by
    have : b = [] := List.eq_nil_of_length_eq_zero (by simpa using h)
    subst this; simp [subP]
  | x :: a, [], _, i => by simp [subP]
  | x :: a, y :: b, _, 0 => by simp [subP]
  | x :: a, y :: b, h, i + 1 => by simpa [subP] using subP_get a b (by simpa using h) i
theorem leP_iff : ∀ (a b : List Int), leP a b = true ↔ b.length ≤ a.length ∧ ∀ i, i < b.length → b.getD i 0 ≤ a.getD i 0
  | a, [] => by simp [leP]
  | [], y :: b => by simp [leP]
  | x :: a, y :: b => by
    simp only [leP, Bool.and_eq_true, decide_eq_true_eq, leP_iff a b, List.length_cons]
    constructor
    · rintro ⟨h1, h2, h3⟩
      refine ⟨by omega, fun i hi => ?_⟩
      cases i with
      | zero => simpa using h1
      | succ i => simpa using h3 i (by omega)
    · rintro ⟨h1, h2⟩
      exact ⟨by simpa using h2 0 (by omega), by omega, fun i hi => by simpa using h2 (i + 1) (by omega)⟩
theorem subP_nil (a : List Int) : subP a [] = a := by cases a <;> rfl
theorem subP_step {a b : List Int} {k : Nat} (hk : k < b.length) (hl : b.length ≤ a.length) : subP a (b.take (k + 1)) = (subP a (b.take k)).set k (a[k] - b[k]) := by
  have e1 : (b.take (k + 1)).length ≤ a.length := by rw [List.length_take]; omega
  have e2 : (b.take k).length ≤ a.length := by rw [List.length_take]; omega
  apply list_ext
  · rw [List.length_set, subP_length _ _ e1, subP_length _ _ e2]
  · intro i hi
    rw [getD_set _ _ _ _ (by rw [subP_length _ _ e2]; omega), subP_get _ _ e1, subP_get _ _ e2, getD_take, getD_take]
    by_cases h : i = k
    · subst h; rw [if_pos (by omega), if_pos rfl, getD_of (by omega), getD_of hk]
    · rw [if_neg h]
      by_cases h2 : i < k
      · rw [if_pos (by omega), if_pos h2]
      · rw [if_neg (by omega), if_neg h2]
theorem subP_at {a b : List Int} {k : Nat} (hk : k < a.length) (hb : k < b.length) (hl : b.length ≤ a.length) (h : k < (subP a (b.take k)).length) : (subP a (b.take k))[k] = a[k] := by
  have e2 : (b.take k).length ≤ a.length := by rw [List.length_take]; omega
  rw [← getD_of h, subP_get _ _ e2, getD_take, if_neg (by omega), getD_of hk]; omega
theorem subB_no {a b : List Int} (h : leP a b = false) : subB a b = ([], false) := by
  unfold subB; rw [if_neg (by simp [h])]
theorem subB_yes {a b : List Int} (ha : rightB a = true) (hb : rightB b = true) (h : leP a b = true) : subB a b = (cutB (subP a b), true) := by
  unfold subB; rw [if_pos ⟨ha, hb, h⟩]
/-- A word without its noughts is right, if its numbers are. -/
theorem cutB_sub (l : List Int) : ∃ k, k ≤ l.length ∧ cutB l = l.take k ∧ (k = 0 ∨ l.getD (k - 1) 0 ≠ 0) := by
  induction hn : l.length generalizing l with
  | zero =>
    have : l = [] := List.eq_nil_of_length_eq_zero hn
    subst this
    exact ⟨0, by simp, rfl, .inl rfl⟩
  | succ n ih =>
    by_cases hz : l[n]'(by omega) = 0
    · obtain ⟨k, hk, hc, he⟩ := ih (l.take n) (by rw [List.length_take]; omega)
      have hlt : l.take n ++ [0] = l := by
        have := List.take_succ_eq_append_getElem (l := l) (i := n) (by omega)
        rw [hz, List.take_of_length_le (by omega)] at this
        exact this.symm
      have hcut : cutB l = cutB (l.take n) := by
        conv => lhs; rw [← hlt]
        unfold cutB
        rw [List.reverse_append, List.reverse_singleton, List.singleton_append, List.dropWhile_cons_of_pos (by rfl)]
      refine ⟨k, by omega, ?_, ?_⟩
      · rw [hcut, hc, List.take_take]; congr 1; omega
      · rcases he with he | he
        · exact .inl he
        · rw [getD_take] at he
          split at he
          · exact .inr he
          · exact absurd rfl he
    · refine ⟨n + 1, by omega, ?_, .inr (by rw [show n + 1 - 1 = n from rfl, getD_of (by omega)]; exact hz)⟩
      exact cutB_eq (by omega) (by intro x hx; rw [List.drop_of_length_le (by omega)] at hx; cases hx) (.inr ⟨by omega, hz⟩)
theorem cutB_right {l : List Int} (hl : l.length ≤ 12) (h : ∀ x ∈ l, 0 ≤ x ∧ x ≤ far) : rightB (cutB l) = true := by
  obtain ⟨k, hk, hc, he⟩ := cutB_sub l
  rw [hc]
  unfold rightB
  simp only [Bool.and_eq_true, List.all_eq_true]
  refine ⟨⟨decide_eq_true (by rw [List.length_take]; omega), ?_⟩, fun x hx => (okN_iff x).2 (h x (List.mem_of_mem_take hx))⟩
  rcases he with rfl | h2
  · simp
  · by_cases hk0 : k = 0
    · subst hk0; simp
    · rw [getD_of (by omega)] at h2
      rw [List.getLast?_eq_getElem?, List.length_take, Nat.min_eq_left hk, List.getElem?_take, if_pos (by omega), List.getElem?_eq_getElem (by omega)]
      simpa using h2
theorem normB_eq {l : List Int} (hl : l.length ≤ 12) (h : ∀ x ∈ l, 0 ≤ x ∧ x ≤ far) : normB l = cutB l := by
  unfold normB; rw [if_pos (cutB_right hl h)]
theorem rightB_bad {l : List Int} {k : Nat} (hk : k < l.length) (hok : okN l[k] = false) : rightB l = false := by
  unfold rightB
  have : l.all okN = false := by
    rw [← Bool.not_eq_true, List.all_eq_true]
    intro h
    rw [h _ (List.getElem_mem hk)] at hok
    cases hok
  rw [this, Bool.and_false]
theorem totalB_yes {b : List Int} (h : rightB b = true) (hs : b.sum ≤ far) : totalB b = (b.sum, true) := by unfold totalB; rw [if_pos ⟨h, hs⟩]
theorem totalB_no {b : List Int} {k : Nat} (hr : rightB b = true) (hk : k < b.length) (hs : ¬ (b.take k).sum + b[k] ≤ far) : totalB b = (0, false) := by
  unfold totalB
  rw [if_neg]
  rintro ⟨_, h2⟩
  rw [← sum_take hk] at hs
  have := sum_take_le (b := b) (fun x hx => (right_ok hr x hx).1) (k + 1)
  omega

/-! ### what the statements' own helps make -/
def withinI (v n : Int) : Int := if n < 1 then 0 else v % n
theorem withinI_range {v n : Int} (h : 1 ≤ n) : 0 ≤ withinI v n ∧ withinI v n < n := by
  unfold withinI
  rw [if_neg (by omega)]
  exact ⟨Int.emod_nonneg _ (by omega), Int.emod_lt_of_pos _ (by omega)⟩
theorem tmod_neg {v n : Int} (hv : v < 0) : v.tmod n = -((-v) % n) := by
  have h1 : (-v).tmod n = (-v) % n := Int.tmod_eq_emod_of_nonneg (by omega)
  have h2 : (-v).tmod n = -(v.tmod n) := Int.neg_tmod v n
  omega
theorem emod_neg2 {v n : Int} (hn : 1 ≤ n) : ((-v) % n = 0 → v % n = 0) ∧ (0 < (-v) % n → v % n = n - (-v) % n) := by
  have h := Int.neg_emod (a := -v) (b := n)
  rw [Int.neg_neg] at h
  by_cases hd : n ∣ -v
  · rw [if_pos hd] at h
    have := Int.emod_eq_zero_of_dvd hd
    omega
  · rw [if_neg hd] at h
    have h3 : (n.natAbs : Int) = n := by omega
    constructor
    · intro h0; exact absurd (Int.dvd_of_emod_eq_zero h0) hd
    · intro _; omega
theorem withinI_neg {v n : Int} (hn : 1 ≤ n) (hv : v < 0) : v.tmod n ≤ 0 ∧ -n < v.tmod n ∧ (v.tmod n < 0 → v.tmod n + n = withinI v n) ∧ (¬ v.tmod n < 0 → v.tmod n = withinI v n) := by
  have e := tmod_neg (n := n) hv
  have h0 := Int.emod_nonneg (-v) (b := n) (by omega)
  have h1 := Int.emod_lt_of_pos (-v) (b := n) (by omega)
  have h2 := emod_neg2 (v := v) hn
  unfold withinI
  rw [if_neg (by omega), e]
  omega
def playN (n : Int) : Int := if 0 ≤ n ∧ n % 11 = 10 then withinI n 40 else withinI n 4
def playBag (l : List Int) : List Int := normB ((List.range 4).map fun i => playN (l.getD i 0))
theorem playN_range (n : Int) : 0 ≤ playN n ∧ playN n < 40 := by
  unfold playN
  split
  · exact withinI_range (by omega)
  · have := withinI_range (v := n) (n := 4) (by omega); omega
def playF (l : List Int) (k : Nat) : List Int := (List.range 4).map fun i => if i < k then playN (l.getD i 0) else 0
theorem playF_len (l : List Int) (k : Nat) : (playF l k).length = 4 := by simp [playF]
theorem playF_zero (l : List Int) : playF l 0 = List.replicate 4 0 := by simp [playF, List.range_succ]
theorem playF_four (l : List Int) : playF l 4 = (List.range 4).map fun i => playN (l.getD i 0) := by simp [playF, List.range_succ]
theorem playF_step (l : List Int) {k : Nat} (hk : k < 4) : (playF l k).set k (playN (l.getD k 0)) = playF l (k + 1) := by
  apply list_ext
  · rw [List.length_set, playF_len, playF_len]
  · intro i hi
    rw [List.length_set, playF_len] at hi
    rw [getD_set _ _ _ _ (by rw [playF_len]; exact hk)]
    have e : ∀ k, (playF l k).getD i 0 = if i < k then playN (l.getD i 0) else 0 := by
      intro k
      rw [getD_of (by rw [playF_len]; exact hi)]
      simp [playF]
    rw [e, e]
    by_cases h : i = k
    · subst h; rw [if_pos rfl, if_pos (by omega)]
    · rw [if_neg h]
      by_cases h2 : i < k
      · rw [if_pos h2, if_pos (by omega)]
      · rw [if_neg h2, if_neg (by omega)]
theorem normB_sub {a b : List Int} (ha : rightB a = true) (hb : rightB b = true) (hl : b.length ≤ a.length) (h : ∀ i, i < b.length → b.getD i 0 ≤ a.getD i 0) : normB (subP a b) = cutB (subP a b) := by
  apply normB_eq
  · rw [subP_length _ _ hl]; exact right_len ha
  · intro x hx
    obtain ⟨i, hi, rfl⟩ := List.getElem_of_mem hx
    have hia : i < a.length := by rw [subP_length _ _ hl] at hi; exact hi
    rw [← getD_of hi, subP_get _ _ hl]
    have h1 := right_ok ha _ (List.getElem_mem hia)
    rw [← getD_of hia] at h1
    by_cases hib : i < b.length
    · have h2 := right_ok hb _ (List.getElem_mem hib)
      rw [← getD_of hib] at h2
      have := h i hib
      omega
    · rw [getD_out (l := b) (by omega)]; omega
end Go.Cb

/- Plain laws of words: the document's sums, made place by place. -/
namespace Go.Cb
def addF (L : Nat) (a b : List Int) (k : Nat) : List Int := (List.range L).map fun i => if i < k then a.getD i 0 + b.getD i 0 else 0
theorem addF_len (L : Nat) (a b : List Int) (k : Nat) : (addF L a b k).length = L := by simp [addF]
theorem addF_get {L : Nat} (a b : List Int) (k : Nat) {i : Nat} (hi : i < L) : (addF L a b k).getD i 0 = if i < k then a.getD i 0 + b.getD i 0 else 0 := by
  rw [getD_of (by rw [addF_len]; exact hi)]
  simp [addF]
theorem addF_zero (L : Nat) (a b : List Int) : addF L a b 0 = List.replicate L 0 := by
  apply list_ext
  · rw [addF_len, List.length_replicate]
  · intro i hi
    rw [addF_len] at hi
    rw [addF_get a b 0 hi, getD_of (l := List.replicate L 0) (by rw [List.length_replicate]; exact hi)]
    simp
theorem addF_full (a b : List Int) {L : Nat} (hL : L = max a.length b.length) : addF L a b L = addP a b := by
  apply list_ext
  · rw [addF_len, addP_length, hL]
  · intro i hi
    rw [addF_len] at hi
    rw [addF_get a b L hi, addP_get, if_pos hi]
theorem addF_step {L : Nat} (a b : List Int) {k : Nat} (hk : k < L) : (addF L a b k).set k (a.getD k 0 + b.getD k 0) = addF L a b (k + 1) := by
  apply list_ext
  · rw [List.length_set, addF_len, addF_len]
  · intro i hi
    rw [List.length_set, addF_len] at hi
    rw [getD_set _ _ _ _ (by rw [addF_len]; exact hk), addF_get _ _ _ hi, addF_get _ _ _ hi]
    by_cases h : i = k
    · subst h; rw [if_pos rfl, if_pos (by omega)]
    · rw [if_neg h]
      by_cases h2 : i < k
      · rw [if_pos h2, if_pos (by omega)]
      · rw [if_neg h2, if_neg (by omega)]
theorem addB_all {a b : List Int} (ha : rightB a = true) (hb : rightB b = true) (h : ∀ i, i < max a.length b.length → a.getD i 0 + b.getD i 0 ≤ far) : addB a b = (addP a b, true) := by
  by_cases hl : b.length ≤ a.length
  · exact addB_yes ha hb hl (fun i hi => h i (by omega))
  · rw [addB_comm, addP_comm]
    exact addB_yes hb ha (by omega) (fun i hi => by rw [Int.add_comm]; exact h i (by omega))
theorem right_getD {b : List Int} (h : rightB b = true) (i : Nat) : 0 ≤ b.getD i 0 ∧ b.getD i 0 ≤ far := by
  by_cases hi : i < b.length
  · rw [getD_of hi]; exact right_ok h _ (List.getElem_mem hi)
  · rw [getD_out (by omega)]; simp [far]
end Go.Cb

/- Plain laws of words: their order; sums and differences belong together. -/
namespace Go.Cb

/-! ### order -/
theorem cmpI_neg (a b : Int) : cmpI b a = -cmpI a b := by
  unfold cmpI
  by_cases h1 : a < b
  · rw [if_pos h1, if_neg (by omega), if_pos h1]; rfl
  · by_cases h2 : b < a
    · rw [if_pos h2, if_neg h1, if_pos h2]
    · rw [if_neg h2, if_neg h1, if_neg h1, if_neg h2]; rfl
theorem cmpI_range (a b : Int) : -1 ≤ cmpI a b ∧ cmpI a b ≤ 1 := by
  unfold cmpI
  split
  · omega
  · split <;> omega
theorem cmpI_le {a b : Int} : cmpI a b ≤ 0 ↔ a ≤ b := by
  unfold cmpI
  split
  · omega
  · split <;> omega
theorem cmpI_neg1 {a b : Int} : cmpI a b = -1 ↔ a < b := by
  unfold cmpI
  split
  · omega
  · split <;> omega
theorem cmpL_neg : ∀ a b : List Int, cmpL b a = -cmpL a b
  | [], [] => rfl
  | [], _ :: _ => rfl
  | _ :: _, [] => rfl
  | x :: a, y :: b => by
    rw [cmpL, cmpL, cmpI_neg x y, cmpL_neg a b]
    by_cases h : cmpI x y = 0
    · rw [if_pos h, if_pos (by omega)]
    · rw [if_neg h, if_neg (by omega)]
theorem cmpL_range : ∀ a b : List Int, -1 ≤ cmpL a b ∧ cmpL a b ≤ 1
  | [], [] => by simp [cmpL]
  | [], _ :: _ => by simp [cmpL]
  | _ :: _, [] => by simp [cmpL]
  | x :: a, y :: b => by
    rw [cmpL]
    split
    · exact cmpL_range a b
    · exact cmpI_range x y
theorem cmpL_zero : ∀ {a b : List Int}, cmpL a b = 0 ↔ a = b
  | [], [] => by simp [cmpL]
  | [], _ :: _ => by simp [cmpL]
  | _ :: _, [] => by simp [cmpL]
  | x :: a, y :: b => by
    rw [cmpL]
    by_cases h : cmpI x y = 0
    · rw [if_pos h, cmpL_zero, cmpI_zero.1 h]; simp
    · rw [if_neg h]
      constructor
      · intro h2; exact absurd h2 h
      · intro h2; injection h2 with h2 _; exact absurd (cmpI_zero.2 h2) h
theorem cmpL_trans : ∀ {a b c : List Int}, cmpL a b ≤ 0 → cmpL b c ≤ 0 → cmpL a c ≤ 0
  | [], _, [] => by intros; simp [cmpL]
  | [], _, _ :: _ => by intros; simp [cmpL]
  | _ :: _, [], _ => by intro h; simp [cmpL] at h
  | _ :: _, _ :: _, [] => by intro _ h; simp [cmpL] at h
  | x :: a, y :: b, z :: c => by
    rw [cmpL, cmpL, cmpL]
    intro h1 h2
    by_cases hxy : cmpI x y = 0
    · rw [if_pos hxy] at h1
      obtain rfl := cmpI_zero.1 hxy
      by_cases hyz : cmpI x z = 0
      · rw [if_pos hyz] at h2 ⊢
        exact cmpL_trans h1 h2
      · rw [if_neg hyz] at h2 ⊢
        exact h2
    · rw [if_neg hxy] at h1
      have h3 := cmpI_le.1 h1
      have h4 : x ≠ y := fun e => hxy (cmpI_zero.2 e)
      by_cases hyz : cmpI y z = 0
      · obtain rfl := cmpI_zero.1 hyz
        rw [if_neg hxy]; exact h1
      · rw [if_neg hyz] at h2
        have h5 := cmpI_le.1 h2
        have h6 : y ≠ z := fun e => hyz (cmpI_zero.2 e)
        rw [if_neg (fun e => by have := cmpI_zero.1 e; omega)]
        exact cmpI_le.2 (by omega)
theorem cmpB_right {a b : List Int} (ha : rightB a = true) (hb : rightB b = true) : cmpB a b = if a.length = b.length then cmpL a b else cmpI a.length b.length := by
  unfold cmpB; rw [if_pos ⟨ha, hb⟩]
theorem cmpB_neg (a b : List Int) : cmpB b a = -cmpB a b := by
  unfold cmpB
  by_cases h : rightB a = true ∧ rightB b = true
  · rw [if_pos h, if_pos ⟨h.2, h.1⟩]
    by_cases hl : a.length = b.length
    · rw [if_pos hl, if_pos hl.symm, cmpL_neg]
    · rw [if_neg hl, if_neg (fun e => hl e.symm), cmpI_neg]
  · rw [if_neg h, if_neg (fun h2 => h ⟨h2.2, h2.1⟩)]; rfl
theorem cmpB_range (a b : List Int) : -1 ≤ cmpB a b ∧ cmpB a b ≤ 1 := by
  unfold cmpB
  split
  · split
    · exact cmpL_range a b
    · exact cmpI_range _ _
  · omega
theorem cmpB_zero {a b : List Int} (ha : rightB a = true) (hb : rightB b = true) : cmpB a b = 0 ↔ a = b := by
  rw [cmpB_right ha hb]
  by_cases hl : a.length = b.length
  · rw [if_pos hl]; exact cmpL_zero
  · rw [if_neg hl]
    constructor
    · intro h; have := cmpI_zero.1 h; omega
    · intro h; exact absurd (by rw [h]) hl
theorem cmpB_trans {a b c : List Int} (ha : rightB a = true) (hb : rightB b = true) (hc : rightB c = true) (h1 : cmpB a b ≤ 0) (h2 : cmpB b c ≤ 0) : cmpB a c ≤ 0 := by
  rw [cmpB_right ha hb] at h1
  rw [cmpB_right hb hc] at h2
  rw [cmpB_right ha hc]
  by_cases h3 : a.length = b.length
  · rw [if_pos h3] at h1
    by_cases h4 : b.length = c.length
    · rw [if_pos h4] at h2
      rw [if_pos (h3.trans h4)]
      exact cmpL_trans h1 h2
    · rw [if_neg h4] at h2
      rw [if_neg (by omega), h3]; exact h2
  · rw [if_neg h3] at h1
    have h5 := cmpI_le.1 h1
    by_cases h4 : b.length = c.length
    · rw [if_neg (by omega), ← h4]; exact h1
    · rw [if_neg h4] at h2
      have h6 := cmpI_le.1 h2
      rw [if_neg (by omega)]
      exact cmpI_le.2 (by omega)
theorem cmpB_len {a b : List Int} (ha : rightB a = true) (hb : rightB b = true) (hl : a.length ≠ b.length) : (cmpB a b < 0 ↔ a.length < b.length) := by
  rw [cmpB_right ha hb, if_neg hl]
  have h1 := cmpI_neg1 (a := (a.length : Int)) (b := b.length)
  have h2 := cmpI_range (a.length : Int) b.length
  constructor
  · intro h; have := h1.1 (by omega); omega
  · intro h; have := h1.2 (by omega); omega

/-! ### words that are made -/
theorem oneB_right (tag n : Int) : rightB (oneB tag n) = true := by
  unfold oneB
  split
  · rename_i h
    unfold rightB
    simp only [Bool.and_eq_true, List.all_eq_true]
    refine ⟨⟨decide_eq_true (by simp; omega), ?_⟩, ?_⟩
    · rw [List.getLast?_concat]
      have : n ≠ 0 := by omega
      simpa using this
    · intro x hx
      rcases List.mem_append.1 hx with hx | hx
      · rw [(List.mem_replicate.1 hx).2]; exact (okN_iff 0).2 (by simp [far])
      · rw [List.mem_singleton.1 hx]; exact (okN_iff n).2 ⟨by omega, h.2.2.2⟩
  · rfl
theorem normB_right (l : List Int) : rightB (normB l) = true := by
  unfold normB
  split
  · assumption
  · rfl
theorem playList_ok (l : List Int) : ∀ x ∈ (List.range 4).map (fun i => playN (l.getD i 0)), 0 ≤ x ∧ x < 40 := by
  intro x hx
  obtain ⟨i, _, rfl⟩ := List.mem_map.1 hx
  exact playN_range _
theorem playBag_right (l : List Int) : rightB (playBag l) = true := normB_right _
theorem playBag_eq (l : List Int) : playBag l = cutB ((List.range 4).map fun i => playN (l.getD i 0)) :=
  normB_eq (by simp) (fun x hx => by have := playList_ok l x hx; unfold far; omega)
theorem cutB_mem {l : List Int} {x : Int} (h : x ∈ cutB l) : x ∈ l := by
  obtain ⟨k, _, hc, _⟩ := cutB_sub l
  rw [hc] at h
  exact List.mem_of_mem_take h
theorem playBag_small (l : List Int) : ∀ x ∈ playBag l, 0 ≤ x ∧ x < 40 := by
  intro x hx
  rw [playBag_eq] at hx
  exact playList_ok l x (cutB_mem hx)
theorem cutB_length (l : List Int) : (cutB l).length ≤ l.length := by
  obtain ⟨k, hk, hc, _⟩ := cutB_sub l
  rw [hc, List.length_take]; omega
theorem playBag_len (l : List Int) : (playBag l).length ≤ 4 := by
  rw [playBag_eq]
  refine Nat.le_trans (cutB_length _) ?_
  simp

/-! ### what is cut of noughts is told by its places -/
theorem cutB_getD (l : List Int) (i : Nat) : (cutB l).getD i 0 = l.getD i 0 := by
  induction hn : l.length generalizing l with
  | zero =>
    have : l = [] := List.eq_nil_of_length_eq_zero hn
    subst this; rfl
  | succ n ih =>
    by_cases hz : l[n]'(by omega) = 0
    · have hlt : l.take n ++ [0] = l := by
        have := List.take_succ_eq_append_getElem (l := l) (i := n) (by omega)
        rw [hz, List.take_of_length_le (by omega)] at this
        exact this.symm
      have hcut : cutB l = cutB (l.take n) := by
        conv => lhs; rw [← hlt]
        unfold cutB
        rw [List.reverse_append, List.reverse_singleton, List.singleton_append, List.dropWhile_cons_of_pos (by rfl)]
      rw [hcut, ih (l.take n) (by rw [List.length_take]; omega), getD_take]
      split
      · rfl
      · by_cases h2 : i = n
        · subst h2; rw [getD_of (by omega), hz]
        · rw [getD_out (by omega)]
    · have : cutB l = l := by
        rw [cutB_eq (k := n + 1) (by omega) (by intro x hx; rw [List.drop_of_length_le (by omega)] at hx; cases hx) (.inr ⟨by omega, hz⟩), List.take_of_length_le (by omega)]
      rw [this]
/-- Two right words with the same numbers are one. -/
theorem right_ext {a b : List Int} (ha : rightB a = true) (hb : rightB b = true) (h : ∀ i, a.getD i 0 = b.getD i 0) : a = b := by
  have key : ∀ {a b : List Int}, rightB b = true → (∀ i, a.getD i 0 = b.getD i 0) → b.length ≤ a.length := by
    intro a b hb h
    rcases Nat.lt_or_ge a.length b.length with hl | hl
    · exfalso
      unfold rightB at hb
      simp only [Bool.and_eq_true] at hb
      have h2 := hb.1.2
      rw [List.getLast?_eq_getElem?, List.getElem?_eq_getElem (by omega)] at h2
      have h3 := h (b.length - 1)
      rw [getD_out (by omega), getD_of (by omega)] at h3
      rw [← h3] at h2
      simp at h2
    · exact hl
  have h1 := key hb h
  have h2 := key ha (fun i => (h i).symm)
  exact list_ext (by omega) (fun i _ => h i)
theorem addB_right {a b : List Int} (h : (addB a b).2 = true) : rightB (addB a b).1 = true := by
  unfold addB at *
  split at h
  · rename_i hc
    obtain ⟨ha, hb, hall⟩ := hc
    rw [if_pos ⟨ha, hb, hall⟩]
    show rightB (addP a b) = true
    unfold rightB
    simp only [Bool.and_eq_true, List.all_eq_true]
    have la := right_len ha
    have lb := right_len hb
    refine ⟨⟨decide_eq_true (by rw [addP_length]; omega), ?_⟩, fun x hx => ?_⟩
    · by_cases h0 : max a.length b.length = 0
      · have h1 : addP a b = [] := List.eq_nil_of_length_eq_zero (by rw [addP_length]; exact h0)
        rw [h1]; rfl
      · rw [List.getLast?_eq_getElem?, List.getElem?_eq_getElem (by rw [addP_length]; omega)]
        have hlt : (addP a b).length - 1 < (addP a b).length := by rw [addP_length]; omega
        have he : (addP a b)[(addP a b).length - 1] = a.getD ((addP a b).length - 1) 0 + b.getD ((addP a b).length - 1) 0 := by rw [← addP_get, getD_of hlt]
        rw [he]
        generalize hk : (addP a b).length - 1 = k
        have hkk : k = max a.length b.length - 1 := by rw [← hk, addP_length]
        have ra := right_getD ha k
        have rb := right_getD hb k
        have ne : ∀ {c : List Int}, rightB c = true → c.length ≠ 0 → k = c.length - 1 → c.getD k 0 ≠ 0 := by
          intro c hc h0 hk2
          unfold rightB at hc
          simp only [Bool.and_eq_true] at hc
          have h2 := hc.1.2
          rw [List.getLast?_eq_getElem?, List.getElem?_eq_getElem (by omega)] at h2
          subst hk2
          rw [getD_of (by omega)]
          simpa using h2
        have : a.getD k 0 + b.getD k 0 ≠ 0 := by
          by_cases hl : b.length ≤ a.length
          · have := ne ha (by omega) (by omega); omega
          · have := ne hb (by omega) (by omega); omega
        simpa using this
    · obtain ⟨i, hi, rfl⟩ := List.getElem_of_mem hx
      rw [List.all_eq_true] at hall
      have h1 := of_decide_eq_true (hall _ (List.getElem_mem hi))
      refine (okN_iff _).2 ⟨?_, h1⟩
      rw [← getD_of hi, addP_get]
      have := right_getD ha i
      have := right_getD hb i
      omega
  · cases h
theorem addB_getD {a b : List Int} (h : (addB a b).2 = true) (i : Nat) : (addB a b).1.getD i 0 = a.getD i 0 + b.getD i 0 := by
  unfold addB at *
  split at h
  · rename_i hc
    rw [if_pos hc]; exact addP_get a b i
  · cases h
/-- Small words have a sum. -/
theorem addB_small {a b : List Int} (ha : rightB a = true) (hb : rightB b = true) (h : ∀ i, a.getD i 0 + b.getD i 0 ≤ far) : (addB a b).2 = true := by
  rw [addB_all ha hb (fun i _ => h i)]
theorem subB_add {a b : List Int} (ha : rightB a = true) (hb : rightB b = true) (h : (addB a b).2 = true) : subB (addB a b).1 b = (a, true) := by
  have hr := addB_right h
  have hg := addB_getD h
  have hle : leP (addB a b).1 b = true := by
    rw [leP_iff]
    constructor
    · unfold addB at *
      split at h
      · rename_i hc
        rw [if_pos hc]; show b.length ≤ (addP a b).length; rw [addP_length]; omega
      · cases h
    · intro i _
      rw [hg]
      have := right_getD ha i
      omega
  rw [subB_yes hr hb hle]
  have hl := ((leP_iff _ _).1 hle).1
  have : cutB (subP (addB a b).1 b) = a := by
    apply right_ext _ ha
    · intro i
      rw [cutB_getD, subP_get _ _ hl, hg]; omega
    · apply cutB_right
      · rw [subP_length _ _ hl]; exact right_len hr
      · intro x hx
        obtain ⟨i, hi, rfl⟩ := List.getElem_of_mem hx
        rw [← getD_of hi, subP_get _ _ hl, hg]
        have := right_getD ha i
        omega
  rw [this]
theorem addB_sub {a b : List Int} (ha : rightB a = true) (hb : rightB b = true) (h : leP a b = true) : addB (subB a b).1 b = (a, true) := by
  have hl := ((leP_iff _ _).1 h)
  rw [subB_yes ha hb h]
  show addB (cutB (subP a b)) b = (a, true)
  have hr : rightB (cutB (subP a b)) = true := by
    apply cutB_right
    · rw [subP_length _ _ hl.1]; exact right_len ha
    · intro x hx
      obtain ⟨i, hi, rfl⟩ := List.getElem_of_mem hx
      rw [← getD_of hi, subP_get _ _ hl.1]
      have h1 := right_getD ha i
      have h2 := right_getD hb i
      have h3 : b.getD i 0 ≤ a.getD i 0 := by
        by_cases hib : i < b.length
        · exact hl.2 i hib
        · rw [getD_out (by omega)]; omega
      omega
  have hsum : ∀ i, (cutB (subP a b)).getD i 0 + b.getD i 0 = a.getD i 0 := by
    intro i; rw [cutB_getD, subP_get _ _ hl.1]; omega
  have h2 : (addB (cutB (subP a b)) b).2 = true := addB_small hr hb (fun i => by rw [hsum]; exact (right_getD ha i).2)
  have h3 : (addB (cutB (subP a b)) b).1 = a := right_ext (addB_right h2) ha (fun i => by rw [addB_getD h2, hsum])
  exact Prod.ext h3 h2
theorem addB_assoc {a b c : List Int} (h1 : (addB a b).2 = true) (h2 : (addB (addB a b).1 c).2 = true) (h3 : (addB b c).2 = true) (h4 : (addB a (addB b c).1).2 = true) : (addB (addB a b).1 c).1 = (addB a (addB b c).1).1 :=
  right_ext (addB_right h2) (addB_right h4) (fun i => by rw [addB_getD h2, addB_getD h1, addB_getD h4, addB_getD h3]; omega)
theorem sum_addP : ∀ a b : List Int, (addP a b).sum = a.sum + b.sum
  | [], b => by simp [addP]
  | x :: a, [] => by simp [addP]
  | x :: a, y :: b => by simp [addP, sum_addP a b]; omega
theorem addB_sum {a b : List Int} (h : (addB a b).2 = true) : (addB a b).1.sum = a.sum + b.sum := by
  unfold addB at *
  split at h
  · rename_i hc
    rw [if_pos hc]; exact sum_addP a b
  · cases h
theorem sum_small : ∀ {l : List Int} {m : Int}, (∀ x ∈ l, 0 ≤ x ∧ x < m) → 0 ≤ m → 0 ≤ l.sum ∧ l.sum ≤ m * l.length
  | [], m, _, hm => by simp
  | x :: l, m, h, hm => by
    have h1 := h x List.mem_cons_self
    have h2 := sum_small (l := l) (fun y hy => h y (List.mem_cons_of_mem _ hy)) hm
    rw [List.sum_cons, List.length_cons]
    have : m * ((l.length + 1 : Nat) : Int) = m * l.length + m := by rw [Int.natCast_add, Int.mul_add]; simp
    omega
end Go.Cb

/- Plain laws of tables: lists of keys and values, the keys rising. -/
namespace Go.Cb
/-- What a comparison of keys is. -/
structure KOrd {κ : Type} (cf : κ → κ → Int) : Prop where
  zero : ∀ a b, cf a b = 0 ↔ a = b
  neg : ∀ a b, cf a b < 0 ↔ 0 < cf b a
  trans : ∀ a b c, cf a b < 0 → cf b c < 0 → cf a c < 0
section
variable {κ β : Type} (cf : κ → κ → Int)
def tabOk (xs : List (κ × β)) : Prop := xs.Pairwise fun a b => cf a.1 b.1 < 0
/-- p is where k stands, or would. -/
def AtT (xs : List (κ × β)) (k : κ) (p : Nat) : Prop := p ≤ xs.length ∧ (∀ i x, i < p → xs[i]? = some x → cf x.1 k < 0) ∧ ∀ i x, p ≤ i → xs[i]? = some x → 0 ≤ cf x.1 k
def posT (xs : List (κ × β)) (k : κ) : Nat := xs.countP fun x => decide (cf x.1 k < 0)
def hasT (xs : List (κ × β)) (k : κ) : Bool := (xs[posT cf xs k]?).any fun x => cf x.1 k == 0
def putT (xs : List (κ × β)) (k : κ) (v : β) : List (κ × β) := if hasT cf xs k then xs.set (posT cf xs k) (k, v) else xs.take (posT cf xs k) ++ (k, v) :: xs.drop (posT cf xs k)
def dropT (xs : List (κ × β)) (k : κ) : List (κ × β) := if hasT cf xs k then xs.take (posT cf xs k) ++ xs.drop (posT cf xs k + 1) else xs
def getT (xs : List (κ × β)) (k : κ) : Option β := if hasT cf xs k then (xs[posT cf xs k]?).map (·.2) else none
variable {cf}
theorem countP_at {α : Type} (p : α → Bool) : ∀ (xs : List α) (n : Nat), n ≤ xs.length → (∀ i x, i < n → xs[i]? = some x → p x = true) → (∀ i x, n ≤ i → xs[i]? = some x → p x = false) → xs.countP p = n
  | [], n, hn, _, _ => by simp at hn; simp [hn]
  | x :: xs, 0, _, _, h2 => by
    rw [List.countP_cons_of_neg (by have := h2 0 x (Nat.le_refl _) rfl; simp [this])]
    exact countP_at p xs 0 (Nat.zero_le _) (fun i _ h => absurd h (by omega)) (fun i y _ hy => h2 (i + 1) y (Nat.zero_le _) hy)
  | x :: xs, n + 1, hn, h1, h2 => by
    rw [List.countP_cons_of_pos (h1 0 x (by omega) rfl), countP_at p xs n (by simpa using hn) (fun i y hi hy => h1 (i + 1) y (by omega) hy) (fun i y hi hy => h2 (i + 1) y (by omega) hy)]
theorem AtT.pos {xs : List (κ × β)} {k : κ} {p : Nat} (h : AtT cf xs k p) : posT cf xs k = p :=
  countP_at _ xs p h.1 (fun i x hi hx => decide_eq_true (h.2.1 i x hi hx)) (fun i x hi hx => decide_eq_false (by have := h.2.2 i x hi hx; omega))
theorem pair_lt {xs : List (κ × β)} (hs : tabOk cf xs) {i j : Nat} {x y : κ × β} (h : i < j) (hx : xs[i]? = some x) (hy : xs[j]? = some y) : cf x.1 y.1 < 0 := by
  obtain ⟨h1, rfl⟩ := List.getElem?_eq_some_iff.1 hx
  obtain ⟨h2, rfl⟩ := List.getElem?_eq_some_iff.1 hy
  exact List.pairwise_iff_getElem.1 hs i j h1 h2 h
theorem atT {xs : List (κ × β)} (O : KOrd cf) (hs : tabOk cf xs) (k : κ) : AtT cf xs k (posT cf xs k) := by
  suffices h : ∃ p, AtT cf xs k p by
    obtain ⟨p, h⟩ := h
    rw [h.pos]; exact h
  induction xs with
  | nil => exact ⟨0, Nat.zero_le _, fun i x _ hx => by simp at hx, fun i x _ hx => by simp at hx⟩
  | cons x xs ih =>
    have hs2 : tabOk cf xs := (List.pairwise_cons.1 hs).2
    obtain ⟨p, h0, h1, h2⟩ := ih hs2
    by_cases hc : cf x.1 k < 0
    · refine ⟨p + 1, by simpa using h0, fun i y hi hy => ?_, fun i y hi hy => ?_⟩
      · cases i with
        | zero => simp at hy; rw [← hy]; exact hc
        | succ i => exact h1 i y (by omega) (by simpa using hy)
      · cases i with
        | zero => omega
        | succ i => exact h2 i y (by omega) (by simpa using hy)
    · refine ⟨0, Nat.zero_le _, fun i y hi _ => absurd hi (by omega), fun i y _ hy => ?_⟩
      cases i with
      | zero => simp at hy; rw [← hy]; omega
      | succ i =>
        have hy' : xs[i]? = some y := by simpa using hy
        have hl : cf x.1 y.1 < 0 := pair_lt hs (i := 0) (j := i + 1) (by omega) rfl hy
        by_cases e : cf y.1 k < 0
        · exact absurd (O.trans _ _ _ hl e) hc
        · omega
theorem posT_le (xs : List (κ × β)) (k : κ) : posT cf xs k ≤ xs.length := List.countP_le_length
theorem hasT_iff {xs : List (κ × β)} (O : KOrd cf) {k : κ} : hasT cf xs k = true ↔ ∃ v, xs[posT cf xs k]? = some (k, v) := by
  unfold hasT
  cases h : xs[posT cf xs k]? with
  | none => simp
  | some x =>
    obtain ⟨a, v⟩ := x
    simp [O.zero]
theorem hasT_lt {xs : List (κ × β)} {k : κ} (h : hasT cf xs k = true) : posT cf xs k < xs.length := by
  unfold hasT at h
  cases hx : xs[posT cf xs k]? with
  | none => rw [hx] at h; simp at h
  | some x => exact (List.getElem?_eq_some_iff.1 hx).1
theorem tabOk_nil : tabOk cf ([] : List (κ × β)) := List.Pairwise.nil
theorem take_lt {xs : List (κ × β)} {k : κ} {p : Nat} (h : AtT cf xs k p) : ∀ x ∈ xs.take p, cf x.1 k < 0 := by
  intro x hx
  obtain ⟨i, hi, rfl⟩ := List.getElem_of_mem hx
  have hi' := hi
  rw [List.length_take] at hi'
  rw [List.getElem_take]
  exact h.2.1 i _ (by omega) (List.getElem?_eq_getElem (by omega))
theorem drop_gt {xs : List (κ × β)} {k : κ} {p : Nat} (O : KOrd cf) (hs : tabOk cf xs) (h : AtT cf xs k p) (hn : ∀ v, xs[p]? ≠ some (k, v)) : ∀ x ∈ xs.drop p, 0 < cf x.1 k := by
  intro x hx
  obtain ⟨i, hi, rfl⟩ := List.getElem_of_mem hx
  have hi' := hi
  rw [List.length_drop] at hi'
  rw [List.getElem_drop]
  have h1 := h.2.2 (p + i) _ (by omega) (List.getElem?_eq_getElem (by omega))
  rcases Int.lt_or_eq_of_le h1 with h1 | h1
  · exact h1
  · have hk : xs[p + i].1 = k := (O.zero _ _).1 h1.symm
    exfalso
    cases i with
    | zero => exact hn xs[p].2 (by rw [List.getElem?_eq_getElem (by omega)]; simp at hk ⊢; exact Prod.ext hk rfl)
    | succ i =>
      have h2 := pair_lt hs (i := p) (j := p + (i + 1)) (by omega) (List.getElem?_eq_getElem (by omega)) (List.getElem?_eq_getElem (by omega))
      have h3 := h.2.2 p _ (Nat.le_refl _) (List.getElem?_eq_getElem (by omega))
      rw [hk] at h2
      omega
theorem putT_ok {xs : List (κ × β)} (O : KOrd cf) (hs : tabOk cf xs) (k : κ) (v : β) : tabOk cf (putT cf xs k v) := by
  have ha := atT O hs k
  unfold putT
  by_cases h : hasT cf xs k = true
  · rw [if_pos h]
    obtain ⟨u, hu⟩ := (hasT_iff O).1 h
    unfold tabOk at *
    rw [List.pairwise_iff_getElem] at hs ⊢
    intro i j hi hj hij
    rw [List.length_set] at hi hj
    have hp := hasT_lt h
    have e : xs[posT cf xs k].1 = k := by
      have := (List.getElem?_eq_some_iff.1 hu).2
      rw [this]
    have hg := hs i j hi hj hij
    rw [List.getElem_set, List.getElem_set]
    split <;> split
    · omega
    · rename_i h1 h2; subst h1; rw [e] at hg; exact hg
    · rename_i h1 h2; subst h2; rw [e] at hg; exact hg
    · exact hg
  · rw [if_neg h]
    have hn : ∀ v, xs[posT cf xs k]? ≠ some (k, v) := fun v hv => h ((hasT_iff O).2 ⟨v, hv⟩)
    have hd := drop_gt O hs ha hn
    have ht := take_lt ha
    have hs2 : (xs.take (posT cf xs k) ++ xs.drop (posT cf xs k)).Pairwise fun a b => cf a.1 b.1 < 0 := by rw [List.take_append_drop]; exact hs
    obtain ⟨p1, p2, p3⟩ := List.pairwise_append.1 hs2
    refine List.pairwise_append.2 ⟨p1, List.pairwise_cons.2 ⟨fun b hb => (O.neg _ _).2 (hd b hb), p2⟩, fun a ha b hb => ?_⟩
    rcases List.mem_cons.1 hb with rfl | hb
    · exact ht a ha
    · exact p3 a ha b hb
theorem dropT_ok {xs : List (κ × β)} (hs : tabOk cf xs) (k : κ) : tabOk cf (dropT cf xs k) := by
  unfold dropT
  split
  · rw [← List.eraseIdx_eq_take_drop_succ]
    exact List.Pairwise.sublist (List.eraseIdx_sublist _ _) hs
  · exact hs
theorem getT_iff {xs : List (κ × β)} (O : KOrd cf) (hs : tabOk cf xs) {k : κ} {v : β} : getT cf xs k = some v ↔ (k, v) ∈ xs := by
  have ha := atT O hs k
  unfold getT
  constructor
  · intro h
    by_cases hh : hasT cf xs k = true
    · rw [if_pos hh] at h
      obtain ⟨u, hu⟩ := (hasT_iff O).1 hh
      rw [hu] at h
      simp at h
      subst h
      exact List.mem_of_getElem? hu
    · rw [if_neg hh] at h; cases h
  · intro h
    obtain ⟨i, hi, he⟩ := List.getElem_of_mem h
    have hx : xs[i]? = some (k, v) := by rw [List.getElem?_eq_getElem hi, he]
    have hp : posT cf xs k = i := by
      refine AtT.pos ⟨by omega, fun j x hj hx2 => ?_, fun j x hj hx2 => ?_⟩
      · exact pair_lt hs hj hx2 hx
      · rcases Nat.lt_or_eq_of_le hj with hj | rfl
        · have h1 : cf k x.1 < 0 := pair_lt hs hj hx hx2
          have h2 := (O.neg _ _).1 h1
          omega
        · rw [hx] at hx2
          injection hx2 with e
          rw [← e, (O.zero _ _).2 rfl]
          exact Int.le_refl 0
    have hh : hasT cf xs k = true := (hasT_iff O).2 ⟨v, by rw [hp]; exact hx⟩
    rw [if_pos hh, hp, hx]
    rfl
theorem getT_none {xs : List (κ × β)} {k : κ} : getT cf xs k = none ↔ hasT cf xs k = false := by
  unfold getT
  cases h : hasT cf xs k with
  | false => simp
  | true =>
    have := hasT_lt h
    simp
    omega
theorem putT_mem {xs : List (κ × β)} (O : KOrd cf) (hs : tabOk cf xs) (k : κ) (v : β) (x : κ × β) : x ∈ putT cf xs k v ↔ x = (k, v) ∨ (x ∈ xs ∧ x.1 ≠ k) := by
  have ha := atT O hs k
  unfold putT
  by_cases h : hasT cf xs k = true
  · rw [if_pos h]
    obtain ⟨u, hu⟩ := (hasT_iff O).1 h
    have hp := hasT_lt h
    constructor
    · intro hx
      obtain ⟨i, hi, he⟩ := List.getElem_of_mem hx
      rw [List.length_set] at hi
      rw [List.getElem_set] at he
      split at he
      · exact .inl he.symm
      · rename_i hne
        refine .inr ⟨he ▸ List.getElem_mem hi, fun e => hne ?_⟩
        have h1 : xs[i]? = some x := by rw [List.getElem?_eq_getElem hi, he]
        rcases Nat.lt_trichotomy i (posT cf xs k) with hl | hl | hl
        · have := ha.2.1 i x hl h1
          rw [e, (O.zero _ _).2 rfl] at this; omega
        · exact hl.symm
        · have := pair_lt hs hl hu h1
          rw [e, (O.zero _ _).2 rfl] at this; omega
    · rintro (rfl | ⟨hx, hne⟩)
      · exact List.mem_of_getElem? (i := posT cf xs k) (by rw [List.getElem?_set_self hp])
      · obtain ⟨i, hi, he⟩ := List.getElem_of_mem hx
        refine List.mem_of_getElem? (i := i) ?_
        rw [List.getElem?_set_ne, List.getElem?_eq_getElem hi, he]
        rintro rfl
        rw [List.getElem?_eq_getElem hi, he] at hu
        injection hu with hu
        exact hne (by rw [hu])
  · rw [if_neg h]
    have hn : ∀ v, xs[posT cf xs k]? ≠ some (k, v) := fun v hv => h ((hasT_iff O).2 ⟨v, hv⟩)
    have hd := drop_gt O hs ha hn
    have ht := take_lt ha
    have hm : ∀ y, y ∈ xs ↔ y ∈ xs.take (posT cf xs k) ∨ y ∈ xs.drop (posT cf xs k) := fun y => by rw [← List.mem_append, List.take_append_drop]
    rw [List.mem_append, List.mem_cons, hm]
    constructor
    · rintro (hx | rfl | hx)
      · exact .inr ⟨.inl hx, fun e => by have := ht x hx; rw [e, (O.zero _ _).2 rfl] at this; omega⟩
      · exact .inl rfl
      · exact .inr ⟨.inr hx, fun e => by have := hd x hx; rw [e, (O.zero _ _).2 rfl] at this; omega⟩
    · rintro (rfl | ⟨hx | hx, _⟩)
      · exact .inr (.inl rfl)
      · exact .inl hx
      · exact .inr (.inr hx)
theorem putT_length (xs : List (κ × β)) (k : κ) (v : β) : (putT cf xs k v).length = if hasT cf xs k then xs.length else xs.length + 1 := by
  have := posT_le (cf := cf) xs k
  unfold putT
  split
  · rw [List.length_set]
  · simp only [List.length_append, List.length_cons, List.length_take, List.length_drop]
    omega
end
theorem cmpI_ord : KOrd cmpI where
  zero := fun a b => cmpI_zero
  neg := fun a b => by rw [cmpI_neg a b]; omega
  trans := fun a b c h1 h2 => by
    have := cmpI_range a b
    have := cmpI_range b c
    have e1 := cmpI_neg1.1 (show cmpI a b = -1 by omega)
    have e2 := cmpI_neg1.1 (show cmpI b c = -1 by omega)
    rw [cmpI_lt (show a < c by omega)]; omega
end Go.Cb

/- The library: rows of pairs, two cells each; copies within and between rows. -/
namespace Go.Cb
open Go.RowKit
theorem run_copy_k {P : Program} (w : World) (dT sT ty elem : TypeId) (b o dLen dCap : Nat) (a : Addr) (sLen sCap m k : Nat) (cs : List Value)
    (hu : P.underlying dT = some (.slice elem)) (hs : (P.info? elem).map (·.size) = some k) (hm : m = Nat.min sLen dLen) (hn : cs.length = m * k)
    (hsrc : ∀ j v, cs[j]? = some v → w.cell? (a.add j) = some v) (hc : ∀ j, j < cs.length → (w.cell? ⟨b, o + j, none⟩).isSome = true) (hf : ∀ j, j < cs.length → w.frozen? ⟨b, o + j, none⟩ = false) (h1 : ∀ v ∈ cs, v.oneCell' = true) :
    (Builtin.copy_ #[dT, sT] ty #[.slice (some ⟨b, o, none⟩) dLen dCap, .slice (some a) sLen sCap]).run P w = .ok (goInt m) (w.setCells b o cs) := by
  have hl := run_loadCells_list (P := P) w a cs hsrc
  have hst := run_storeCells_cells (P := P) b o cs 0 w (by simpa using hc) (by simpa using hf) h1
  cases hq : P.info? elem with
  | none => simp [hq] at hs
  | some i =>
    have hi : i.size = k := by simpa [hq] using hs
    simp [Builtin.copy_, run_underlying hu, Builtin.lenOf, Builtin.firstCells, sizeOf, typeInfo, hq, hi, ← hm, ← hn, hl, hst]
section
variable {κ β : Type} (eK : κ → Value) (eV : β → Value)
def flat2 (xs : List (κ × β)) : List Value := xs.flatMap fun x => [eK x.1, eV x.2]
variable {eK eV}
theorem flat2_nil : flat2 eK eV [] = [] := rfl
theorem flat2_cons (x : κ × β) (xs : List (κ × β)) : flat2 eK eV (x :: xs) = eK x.1 :: eV x.2 :: flat2 eK eV xs := rfl
theorem flat2_append (xs ys : List (κ × β)) : flat2 eK eV (xs ++ ys) = flat2 eK eV xs ++ flat2 eK eV ys := by simp [flat2]
theorem flat2_length (xs : List (κ × β)) : (flat2 eK eV xs).length = xs.length * 2 := by
  induction xs with
  | nil => rfl
  | cons x xs ih => rw [flat2_cons, List.length_cons, List.length_cons, List.length_cons, ih]; omega
theorem flat2_take : ∀ (xs : List (κ × β)) (n : Nat), (flat2 eK eV xs).take (n * 2) = flat2 eK eV (xs.take n)
  | [], n => by simp [flat2]
  | x :: xs, 0 => by simp [flat2]
  | x :: xs, n + 1 => by
    rw [show (n + 1) * 2 = n * 2 + 1 + 1 by omega, flat2_cons, List.take_succ_cons, List.take_succ_cons, flat2_take xs n, List.take_succ_cons, flat2_cons]
theorem flat2_drop : ∀ (xs : List (κ × β)) (n : Nat), (flat2 eK eV xs).drop (n * 2) = flat2 eK eV (xs.drop n)
  | [], n => by simp [flat2]
  | x :: xs, 0 => by simp [flat2]
  | x :: xs, n + 1 => by
    rw [show (n + 1) * 2 = n * 2 + 1 + 1 by omega, flat2_cons, List.drop_succ_cons, List.drop_succ_cons, flat2_drop xs n, List.drop_succ_cons]
theorem flat2_get {xs : List (κ × β)} {j : Nat} {x : κ × β} (h : xs[j]? = some x) : (flat2 eK eV xs)[j * 2]? = some (eK x.1) ∧ (flat2 eK eV xs)[j * 2 + 1]? = some (eV x.2) := by
  have hlt := (List.getElem?_eq_some_iff.1 h).1
  have e : xs.drop j = x :: xs.drop (j + 1) := by
    rw [List.drop_eq_getElem_cons hlt]
    congr 1
    exact (List.getElem?_eq_some_iff.1 h).2
  have h1 := flat2_drop (eK := eK) (eV := eV) xs j
  rw [e, flat2_cons] at h1
  constructor
  · have := List.getElem?_drop (xs := flat2 eK eV xs) (i := j * 2) (j := 0)
    rw [h1] at this
    simpa using this.symm
  · have := List.getElem?_drop (xs := flat2 eK eV xs) (i := j * 2) (j := 1)
    rw [h1] at this
    simpa using this.symm
theorem flat2_one (hK : ∀ x, (eK x).oneCell' = true) (hV : ∀ x, (eV x).oneCell' = true) (xs : List (κ × β)) : ∀ u ∈ flat2 eK eV xs, u.oneCell' = true := by
  intro u hu
  obtain ⟨x, _, hx⟩ := List.mem_flatMap.1 hu
  simp at hx
  rcases hx with rfl | rfl
  · exact hK _
  · exact hV _
theorem flat2_set {xs : List (κ × β)} {j : Nat} {x : κ × β} (h : xs[j]? = some x) (u : β) : (flat2 eK eV xs).set (j * 2 + 1) (eV u) = flat2 eK eV (xs.set j (x.1, u)) := by
  induction xs generalizing j with
  | nil => simp at h
  | cons y ys ih =>
    cases j with
    | zero =>
      simp at h
      subst h
      rfl
    | succ j =>
      rw [show (j + 1) * 2 + 1 = j * 2 + 1 + 1 + 1 by omega, flat2_cons, List.set_cons_succ, List.set_cons_succ, ih (by simpa using h), List.set_cons_succ, flat2_cons]
end

theorem cells_one {v : Value} (h : v.oneCell' = true) : v.cells = #[v] := by
  cases v <;> first | rfl | (simp [Value.oneCell'] at h)
/-! ### cells in a row -/
def setL : List Value → Nat → List Value → List Value
  | xs, _, [] => xs
  | xs, o, c :: cs => setL (xs.set o c) (o + 1) cs
theorem setL_eq : ∀ (cs xs : List Value) (o : Nat), o + cs.length ≤ xs.length → setL xs o cs = xs.take o ++ cs ++ xs.drop (o + cs.length)
  | [], xs, o, h => by simp [setL]
  | c :: cs, xs, o, h => by
    simp only [List.length_cons] at h
    rw [setL, setL_eq cs _ _ (by rw [List.length_set]; omega)]
    rw [show (xs.set o c).take (o + 1) = xs.take o ++ [c] from by
      rw [List.take_add_one, List.getElem?_set_self (by omega), List.take_set_of_le (Nat.le_refl _)]; rfl]
    rw [List.drop_set_of_lt (by omega), List.length_cons, show o + 1 + cs.length = o + (cs.length + 1) by omega]
    simp
theorem ownsRow_setCells {base : Nat} {e : TypeId} {size g n cap : Nat} : ∀ (cs : List Value) (o : Nat) (w : World) (xs : List Value), w.ownsRow base e size (.slice (some ⟨g, 0, none⟩) n cap) n xs →
    (w.setCells g o cs).ownsRow base e size (.slice (some ⟨g, 0, none⟩) n cap) n (setL xs o cs) ∧ w.grownBy (w.setCells g o cs) (some g) ∧ (w.setCells g o cs).heap.size = w.heap.size
  | [], o, w, xs, h => ⟨h, ⟨rfl, rfl, rfl, Nat.le_refl _, fun _ _ _ => rfl⟩, rfl⟩
  | c :: cs, o, w, xs, h => by
    rw [World.setCells, setL]
    obtain ⟨h1, h2⟩ := h.stored o c
    obtain ⟨h3, h4, h5⟩ := ownsRow_setCells cs (o + 1) _ _ h1
    have hs : (w.setCell ⟨g, o, none⟩ c).heap.size = w.heap.size := by simp [World.setCell]
    refine ⟨h3, ⟨h4.os.trans h2.os, h4.tape.trans h2.tape, h4.output.trans h2.output, Nat.le_trans h2.size h4.size, fun k hk hne => (h4.block k (by omega) hne).trans (h2.block k hk hne)⟩, by omega⟩
theorem ownsRow_extend {w : World} {base : Nat} {e : TypeId} {size g n cap : Nat} {xs : List Value} (h : w.ownsRow base e size (.slice (some ⟨g, 0, none⟩) n cap) n xs) (hc : n + 1 ≤ cap) :
    ∃ junk, junk.length = size ∧ w.ownsRow base e size (.slice (some ⟨g, 0, none⟩) (n + 1) cap) (n + 1) (xs ++ junk) := by
  obtain ⟨hl, h2⟩ := h
  rcases h2 with ⟨h2, _⟩ | ⟨g', cap', cur, he, hb, hg, hn, hm, hs, ht⟩
  · simp at h2
  · injection he with he1 _ he2
    injection he1 with he1
    injection he1 with he1
    subst he1 he2
    have hle : (n + 1) * size ≤ cap * size := Nat.mul_le_mul_right _ hc
    have e1 : (n + 1) * size = n * size + size := Nat.succ_mul _ _
    have hj : ((cur.toList.drop (n * size)).take size).length = size := by
      rw [List.length_take, List.length_drop, Array.length_toList]
      omega
    refine ⟨(cur.toList.drop (n * size)).take size, hj, ?_, .inr ⟨g, cap, cur, rfl, hb, hg, hc, hm, hs, ?_⟩⟩
    · rw [List.length_append, hj, hl, e1]
    · rw [e1, List.take_add, ht]
theorem ownsRow_prefix {w : World} {base : Nat} {e : TypeId} {size g n cap : Nat} {xs : List Value} (h : w.ownsRow base e size (.slice (some ⟨g, 0, none⟩) n cap) n xs) {i : Nat} (hi : i ≤ n) :
    w.ownsRow base e size (.slice (some ⟨g, 0, none⟩) i cap) i (xs.take (i * size)) := by
  obtain ⟨hl, h2⟩ := h
  rcases h2 with ⟨h2, _⟩ | ⟨g', cap', cur, he, hb, hg, hn, hm, hs, ht⟩
  · simp at h2
  · injection he with he1 _ he2
    injection he1 with he1
    injection he1 with he1
    subst he1 he2
    have hle : i * size ≤ n * size := Nat.mul_le_mul_right _ hi
    refine ⟨by rw [List.length_take]; omega, .inr ⟨g, cap, cur, rfl, hb, hg, by omega, hm, hs, ?_⟩⟩
    rw [← ht, List.take_take, Nat.min_eq_left hle]
theorem insert_list {F junk : List Value} {i n : Nat} (p : List Value) (hF : F.length = n * 2) (hj : junk.length = 2) (hp : p.length = 2) (hi : i ≤ n) :
    setL (setL (F ++ junk) ((i + 1) * 2) (F.drop (i * 2))) (i * 2) p = F.take (i * 2) ++ p ++ F.drop (i * 2) := by
  have h1 : setL (F ++ junk) ((i + 1) * 2) (F.drop (i * 2)) = (F ++ junk).take ((i + 1) * 2) ++ F.drop (i * 2) := by
    rw [setL_eq _ _ _ (by rw [List.length_drop, List.length_append]; omega), List.drop_eq_nil_of_le (as := F ++ junk) (by rw [List.length_drop, List.length_append]; omega), List.append_nil]
  have hl : ((F ++ junk).take ((i + 1) * 2)).length = (i + 1) * 2 := by rw [List.length_take, List.length_append]; omega
  rw [h1, setL_eq _ _ _ (by rw [List.length_append, List.length_drop]; omega)]
  rw [List.take_append_of_le_length (by omega), List.take_take, Nat.min_eq_left (by omega), List.take_append_of_le_length (by omega)]
  rw [List.drop_append, List.drop_eq_nil_of_le (by omega), List.nil_append, hl, show i * 2 + p.length - (i + 1) * 2 = 0 by omega, List.drop_zero]

/-! ### rows of pairs; tables -/
section
variable {κ β : Type} {eK : κ → Value} {eV : β → Value}
/-- v is a row of the call's own that reads as the pairs xs. -/
def RowP (eK : κ → Value) (eV : β → Value) (e : TypeId) (w : World) (base : Nat) (v : Value) (xs : List (κ × β)) : Prop := w.ownsRow base e 2 v xs.length (flat2 eK eV xs)
theorem RowP.step {e : TypeId} {w w' : World} {base : Nat} {v : Value} {xs : List (κ × β)} (h : RowP eK eV e w base v xs) (hm : ∀ k, v.ownBlock = some k → w'.heap[k]? = w.heap[k]?) : RowP eK eV e w' base v xs := ownsRow_step h hm
theorem RowP.nil (e : TypeId) (w : World) (base : Nat) : RowP eK eV e w base (.slice none 0 0) [] := World.ownsRow_nil _ _ _ _
theorem RowP.form {e : TypeId} {w : World} {base : Nat} {v : Value} {xs : List (κ × β)} (h : RowP eK eV e w base v xs) : (v = .slice none 0 0 ∧ xs = []) ∨ ∃ g c, v = .slice (some ⟨g, 0, none⟩) xs.length c ∧ base ≤ g ∧ g < w.heap.size ∧ xs.length ≤ c ∧ c ≤ maxLen := by
  rcases h.2 with ⟨h1, h2⟩ | ⟨g, c, cur, h1, h2, h3, h4, h5, _⟩
  · exact .inl ⟨h1, List.eq_nil_of_length_eq_zero h2⟩
  · exact .inr ⟨g, c, h1, h2, blk_lt h3, h4, h5⟩
theorem RowP.cells {e : TypeId} {w : World} {base g c n : Nat} {xs : List (κ × β)} (h : RowP eK eV e w base (.slice (some ⟨g, 0, none⟩) n c) xs) {j : Nat} {x : κ × β} (hj : xs[j]? = some x) :
    w.cell? ⟨g, j * 2, none⟩ = some (eK x.1) ∧ w.cell? ⟨g, j * 2 + 1, none⟩ = some (eV x.2) := by
  have h1 := flat2_get (eK := eK) (eV := eV) hj
  have h2 := World.ownsRow.cells h (g := g) rfl
  have a1 := h2 _ _ h1.1
  have a2 := h2 _ _ h1.2
  rw [add_plain] at a1 a2
  exact ⟨a1, a2⟩
theorem RowP.frozen {e : TypeId} {w : World} {base g c n : Nat} {xs : List (κ × β)} (h : RowP eK eV e w base (.slice (some ⟨g, 0, none⟩) n c) xs) (i : Nat) : w.frozen? ⟨g, i, none⟩ = false := by
  rcases h.2 with ⟨h1, h2⟩ | ⟨g', c', cur, h1, h2, h3, _⟩
  · simp at h1
  · injection h1 with h1
    injection h1 with h1
    injection h1 with h1
    subst h1
    exact frozenAt h3 i
theorem RowP.at {e : TypeId} {w : World} {base n c : Nat} {A : Option Addr} {xs : List (κ × β)} (h : RowP eK eV e w base (.slice A n c) xs) {m : Nat} (hm : m < xs.length) :
    ∃ g x, A = some ⟨g, 0, none⟩ ∧ n = xs.length ∧ xs[m]? = some x ∧ g < w.heap.size ∧ w.cell? ⟨g, m * 2, none⟩ = some (eK x.1) ∧ w.cell? ⟨g, m * 2 + 1, none⟩ = some (eV x.2) := by
  rcases h.form with ⟨_, h2⟩ | ⟨g, c', h1, h2, h3, h4, h5⟩
  · rw [h2] at hm; simp at hm
  · injection h1 with e1 e2 e3
    subst e1 e2 e3
    have hx := List.getElem?_eq_getElem hm
    obtain ⟨c1, c2⟩ := h.cells hx
    exact ⟨g, _, rfl, rfl, hx, h3, c1, c2⟩
theorem RowP.set {e : TypeId} {w : World} {base g c n : Nat} {xs : List (κ × β)} (h : RowP eK eV e w base (.slice (some ⟨g, 0, none⟩) n c) xs) (hn : n = xs.length) {j : Nat} {x : κ × β} (hj : xs[j]? = some x) (u : β) :
    RowP eK eV e (w.setCell ⟨g, j * 2 + 1, none⟩ (eV u)) base (.slice (some ⟨g, 0, none⟩) n c) (xs.set j (x.1, u)) := by
  subst hn
  unfold RowP at *
  have h1 := (World.ownsRow.stored h (j * 2 + 1) (eV u)).1
  rw [flat2_set hj u] at h1
  rw [List.length_set]
  exact h1
theorem RowP.heap {e : TypeId} {w w' : World} {base : Nat} {v : Value} {xs : List (κ × β)} (h : RowP eK eV e w base v xs) (hh : w'.heap = w.heap) : RowP eK eV e w' base v xs := h.step (fun _ _ => by rw [hh])
section
variable {P : Program}
/-- append of one pair that lies in a block. -/
theorem run_appendP {w : World} {base : Nat} {v : Value} {xs : List (κ × β)} (t ty e : TypeId) (z : Value) (bytes : Nat) (ht : P.underlying t = some (.slice e))
    (hinfo : (P.info? e).map (fun i => (i.zero, i.size, i.bytes)) = some (some z, 2, bytes)) (hz : z.cells.size = 2) (h : RowP eK eV e w base v xs) (k : κ) (u : β) (vb : Nat)
    (hvb : w.heap[vb]? = some (.cells #[eK k, eV u] e (0, 0))) (hK : ∀ x, (eK x).oneCell' = true) (hV : ∀ x, (eV x).oneCell' = true) (hbig : (xs.length + 1) * bytes ≤ 140737488355328) (hl : xs.length + 1 ≤ maxLen) (hb : base ≤ w.heap.size) :
    ∃ v' w', (Builtin.append_ #[t, t] ty #[v, .slice (some ⟨vb, 0, none⟩) 1 1]).run P w = .ok v' w' ∧ RowP eK eV e w' base v' (xs ++ [(k, u)]) ∧ w.grownBy w' v.ownBlock ∧ (v'.ownBlock = v.ownBlock ∨ v'.ownBlock = some w.heap.size) := by
  obtain ⟨i0, hi, hzz⟩ := Option.map_eq_some_iff.1 hinfo
  simp only [Prod.mk.injEq] at hzz
  obtain ⟨hz0, hz1, hz2⟩ := hzz
  obtain ⟨v', w', hr, h2, h3, _, h5⟩ := run_append_own_at (P := P) w base t ty e i0 z 2 bytes ht hi hz0 hz1 hz2 hz (by omega) v xs.length (flat2 eK eV xs) h ⟨vb, 0, none⟩ 1 1 [eK k, eV u] rfl
    (fun j y hj => by
      rw [add_plain, cellAt hvb]
      rcases j with _ | _ | j
      · exact hj
      · exact hj
      · simp at hj)
    (by
      intro y hy
      simp at hy
      rcases hy with rfl | rfl
      · exact hK _
      · exact hV _) hl hbig hb
  refine ⟨v', w', hr, ?_, h3, h5⟩
  unfold RowP
  rw [flat2_append, List.length_append]
  exact h2
/-- append(s[:p], make(n + 1 - p)...) where there is no room. -/
theorem run_growP {w : World} {base g n c : Nat} {xs : List (κ × β)} (t tn ty e : TypeId) (z : Value) (bytes : Nat) (ht : P.underlying t = some (.slice e)) (htn : P.underlying tn = some (.int .i64))
    (hinfo : (P.info? e).map (fun i => (i.zero, i.size, i.bytes)) = some (some z, 2, bytes)) (hz : z.cells.size = 2) (h : RowP eK eV e w base (.slice (some ⟨g, 0, none⟩) n c) xs) (hn : n = xs.length) {p : Nat} (hp : p < n) (hc : c < n + 1) (hnc : n ≤ c)
    (hbig : (n + 1) * bytes ≤ 140737488355328) (hl : n + 1 ≤ maxLen) (hb : base ≤ w.heap.size) :
    ∃ W1 G zs, (Builtin.append_ #[t, tn] ty #[.slice (some ⟨g, 0, none⟩) p c, .int .i64 ((n + 1 - p : Nat) : Int)]).run P w = .ok (.slice (some ⟨w.heap.size, 0, none⟩) (n + 1) G) W1 ∧
      W1.ownsRow base e 2 (.slice (some ⟨w.heap.size, 0, none⟩) (n + 1) G) (n + 1) ((flat2 eK eV xs).take (p * 2) ++ zs) ∧ zs.length = (n + 1 - p) * 2 ∧ Bel w W1 ∧ W1.heap.size = w.heap.size + 1 ∧ n + 1 ≤ G ∧ G ≤ maxLen := by
  obtain ⟨i0, hi, hzz⟩ := Option.map_eq_some_iff.1 hinfo
  simp only [Prod.mk.injEq] at hzz
  obtain ⟨hz0, hz1, hz2⟩ := hzz
  have hfl := flat2_length (eK := eK) (eV := eV) xs
  have htl : ((flat2 eK eV xs).take (p * 2)).length = p * 2 := by rw [List.length_take]; omega
  have hold : (Builtin.firstCells i0.size p (.slice (some ⟨g, 0, none⟩) p c)).run P w.drew = .ok ((flat2 eK eV xs).take (p * 2)).toArray w.drew := by
    rw [hz1]
    exact run_firstCells_some w.drew 2 p ⟨g, 0, none⟩ p c ((flat2 eK eV xs).take (p * 2)) htl (fun j u hj => by
      rw [List.getElem?_take] at hj
      split at hj
      · exact World.ownsRow.cells h (g := g) rfl j u hj
      · cases hj)
  have hm : n + 1 ≤ 9223372036854775807 := by unfold maxLen at hl; omega
  have hr := Lib.run_append_grow_zeros w t tn ty e i0 z .i64 .i64 ht htn hi hz0 (some ⟨g, 0, none⟩) p c ((flat2 eK eV xs).take (p * 2)) hold (n + 1 - p) (by omega) (by omega) (by omega) (by omega)
    (by rw [hz2]; exact Nat.le_trans (Nat.mul_le_mul_right _ (by omega)) (Nat.le_trans hbig (by omega)))
    (by rw [show p + (n + 1 - p) = n + 1 by omega, hz2]; exact growslice_fits (by omega) hbig)
  rw [show p + (n + 1 - p) = n + 1 by omega] at hr
  have hG1 := grownCap_ge w (n + 1) c e
  have hG2 := grownCap_le_maxLen w (n + 1) c e hl
  refine ⟨_, _, (Builtin.zeroCells z.cells (n + 1 - p)).toList, hr, ⟨?_, .inr ⟨w.heap.size, _, _, rfl, hb, heap_alloc_new w.drew _, hG1, hG2, ?_, ?_⟩⟩, ?_, (Bel.refl w).drew.alloc _, Array.size_push _, hG1, hG2⟩
  · rw [List.length_append, htl, Array.length_toList, size_zeroCells, hz]; omega
  · simp only [Array.size_append, List.size_toArray, size_zeroCells, hz, htl]; omega
  · simp only [Array.toList_append]
    rw [List.take_append_of_le_length (by rw [List.length_append, htl, Array.length_toList, size_zeroCells, hz]; omega), List.take_of_length_le (by rw [List.length_append, htl, Array.length_toList, size_zeroCells, hz]; omega)]
  · rw [Array.length_toList, size_zeroCells, hz]
end
theorem grow_list {F zs : List Value} {p n : Nat} (q : List Value) (hF : F.length = n * 2) (hp : p < n) (hz : zs.length = (n + 1 - p) * 2) (hq : q.length = 2) :
    setL (setL (F.take (p * 2) ++ zs) (p * 2) q) ((p + 1) * 2) (F.drop (p * 2)) = F.take (p * 2) ++ q ++ F.drop (p * 2) := by
  have htl : (F.take (p * 2)).length = p * 2 := by rw [List.length_take]; omega
  have h1 : setL (F.take (p * 2) ++ zs) (p * 2) q = F.take (p * 2) ++ q ++ zs.drop 2 := by
    rw [setL_eq _ _ _ (by rw [List.length_append]; omega), List.take_append_of_le_length (by omega), List.take_take, Nat.min_self, List.drop_append, List.drop_eq_nil_of_le (by omega), List.nil_append, htl, hq, show p * 2 + 2 - p * 2 = 2 by omega]
  have hl2 : (F.take (p * 2) ++ q).length = (p + 1) * 2 := by rw [List.length_append]; omega
  rw [h1, setL_eq _ _ _ (by rw [List.length_append, List.length_drop, List.length_drop]; omega), List.take_append_of_le_length (by omega), List.take_of_length_le (by omega),
    List.drop_eq_nil_of_le (as := F.take (p * 2) ++ q ++ zs.drop 2) (by rw [List.length_append, List.length_drop, List.length_drop]; omega), List.append_nil]
/-- At block g lies a table's row v, that reads as xs. -/
structure Tab (eK : κ → Value) (eV : β → Value) (T e : TypeId) (w : World) (base g : Nat) (v : Value) (xs : List (κ × β)) : Prop where
  box : w.heap[g]? = some (.cells #[v] T (0, 0))
  low : base ≤ g
  row : RowP eK eV e w base v xs
  ne : v.ownBlock ≠ some g
/-- What one step of a table turns: its block, its row. -/
structure Step (g : Nat) (v v' : Value) (w w' : World) : Prop where
  os : w'.os = w.os
  tape : w'.tape = w.tape
  output : w'.output = w.output
  size : w.heap.size ≤ w'.heap.size
  block : ∀ k, k < w.heap.size → k ≠ g → v.ownBlock ≠ some k → w'.heap[k]? = w.heap[k]?
  fresh : ∀ k, v'.ownBlock = some k → v.ownBlock = some k ∨ w.heap.size ≤ k
theorem Step.refl (g : Nat) (v : Value) (w : World) : Step g v v w w := ⟨rfl, rfl, rfl, Nat.le_refl _, fun _ _ _ _ => rfl, fun _ h => .inl h⟩
theorem Step.trans {g : Nat} {v1 v2 v3 : Value} {w1 w2 w3 : World} (h : Step g v1 v2 w1 w2) (k : Step g v2 v3 w2 w3) : Step g v1 v3 w1 w3 where
  os := k.os.trans h.os
  tape := k.tape.trans h.tape
  output := k.output.trans h.output
  size := Nat.le_trans h.size k.size
  block := fun i hi hg hv => (k.block i (Nat.lt_of_lt_of_le hi h.size) hg (fun e => by
    rcases h.fresh i e with e | e
    · exact hv e
    · omega)).trans (h.block i hi hg hv)
  fresh := fun i hi => by
    rcases k.fresh i hi with e | e
    · exact h.fresh i e
    · exact .inr (Nat.le_trans h.size e)
theorem Step.ofBel {w w' : World} (h : Bel w w') (g : Nat) (v : Value) : Step g v v w w' :=
  ⟨h.out.os, h.out.tape, h.out.output, h.size, fun _ hk _ _ => h.block hk, fun _ h => .inl h⟩
theorem Step.bel {g : Nat} {v v' : Value} {a w w' : World} (h : Step g v v' w w') (hb : Bel a w) (hg : a.heap.size ≤ g) (hv : ∀ k, v.ownBlock = some k → a.heap.size ≤ k) : Bel a w' :=
  hb.heap h.os h.tape h.output h.size (fun k hk => h.block k (Nat.lt_of_lt_of_le hk hb.size) (by omega) (fun e => by have := hv k e; omega))
theorem Step.rd {α : Type} {d : Ty α} {g : Nat} {v v' : Value} {w w' : World} {S : Nat → Prop} {A : Option Addr} {c : Nat} {xs : List α} (h : Step g v v' w w') (hr : Rd d w S A c xs) (hS : ∀ k, S k → k ≠ g ∧ v.ownBlock ≠ some k) : Rd d w' S A c xs :=
  hr.step (fun k hk hlt => h.block k hlt (hS k hk).1 (hS k hk).2)
theorem Tab.to {T e : TypeId} {w w' : World} {base g : Nat} {v : Value} {xs : List (κ × β)} (h : Tab eK eV T e w base g v xs) (hb : Bel w w') : Tab eK eV T e w' base g v xs :=
  ⟨(hb.block (blk_lt h.box)).trans h.box, h.low, h.row.step (fun k hk => hb.block (World.ownsRow.lt h.row k hk).2), h.ne⟩
theorem Tab.ge {T e : TypeId} {w : World} {base g : Nat} {v : Value} {xs : List (κ × β)} (h : Tab eK eV T e w base g v xs) : ∀ k, v.ownBlock = some k → base ≤ k := fun k hk => (World.ownsRow.lt h.row k hk).1
theorem Tab.lt {T e : TypeId} {w : World} {base g : Nat} {v : Value} {xs : List (κ × β)} (h : Tab eK eV T e w base g v xs) : g < w.heap.size := blk_lt h.box
/-- Another table's step leaves a table as it is. -/
theorem Tab.other {T e : TypeId} {w w' : World} {base g g' : Nat} {v v1 v2 : Value} {xs : List (κ × β)} (h : Tab eK eV T e w base g v xs) (hs : Step g' v1 v2 w w') (h1 : g ≠ g') (h2 : v1.ownBlock ≠ some g) (h3 : ∀ k, v.ownBlock = some k → k ≠ g' ∧ v1.ownBlock ≠ some k) : Tab eK eV T e w' base g v xs :=
  ⟨(hs.block g h.lt h1 h2).trans h.box, h.low, h.row.step (fun k hk => hs.block k (World.ownsRow.lt h.row k hk).2 (h3 k hk).1 (h3 k hk).2), h.ne⟩
end
end Go.Cb

/- The library: a table's steps. -/
namespace Go.Cb
open Go.RowKit
section
variable {κ β : Type} {eK : κ → Value} {eV : β → Value}
theorem cells_set1 {w : World} {T : TypeId} {g : Nat} {v : Value} (h : w.heap[g]? = some (.cells #[v] T (0, 0))) (v2 : Value) : (w.setCell ⟨g, 0, none⟩ v2).heap[g]? = some (.cells #[v2] T (0, 0)) := by
  simp [World.setCell, Array.getElem?_modify, h]
theorem Tab.store {T e : TypeId} {w W w2 : World} {base g : Nat} {v v2 : Value} {xs ys : List (κ × β)} (h : Tab eK eV T e w base g v xs) (hw : Bel w W) (g2 : W.grownBy w2 v.ownBlock) (r2 : RowP eK eV e w2 base v2 ys) (f2 : ∀ q, v2.ownBlock = some q → v.ownBlock = some q ∨ W.heap.size ≤ q) :
    w2.heap[g]? = some (.cells #[v] T (0, 0)) ∧ Tab eK eV T e (w2.setCell ⟨g, 0, none⟩ v2) base g v2 ys ∧ Step g v v2 w (w2.setCell ⟨g, 0, none⟩ v2) := by
  have hW := h.to hw
  have hbx : w2.heap[g]? = some (.cells #[v] T (0, 0)) := (g2.block g hW.lt (fun e => h.ne e.symm)).trans hW.box
  have hne : v2.ownBlock ≠ some g := fun e => by
    rcases f2 g e with e | e
    · exact h.ne e
    · have := hW.lt; omega
  have hu := (Upd.refl g w2).set (p := ⟨g, 0, none⟩) rfl v2
  refine ⟨hbx, ⟨cells_set1 hbx v2, h.low, r2.step (fun k hk => hu.block k (fun e => hne (e ▸ hk))), hne⟩, ⟨?_, ?_, ?_, ?_, ?_, ?_⟩⟩
  · exact hu.os.trans (g2.os.trans hw.out.os)
  · exact hu.tape.trans (g2.tape.trans hw.out.tape)
  · exact hu.output.trans (g2.output.trans hw.out.output)
  · have := hw.size; have := g2.size; have := hu.size; omega
  · intro k hk hkg hkv
    exact (hu.block k hkg).trans ((g2.block k (Nat.lt_of_lt_of_le hk hw.size) (fun e => hkv e.symm)).trans (hw.block hk))
  · intro q hq
    rcases f2 q hq with e | e
    · exact .inl e
    · exact .inr (Nat.le_trans hw.size e)
theorem Tab.stored {T e : TypeId} {w W : World} {base g g1 n c : Nat} {xs : List (κ × β)} (h : Tab eK eV T e w base g (.slice (some ⟨g1, 0, none⟩) n c) xs) (hw : Bel w W) (hn : n = xs.length) {p : Nat} {x : κ × β} (hx : xs[p]? = some x) (u : β) :
    Tab eK eV T e (W.setCell ⟨g1, p * 2 + 1, none⟩ (eV u)) base g (.slice (some ⟨g1, 0, none⟩) n c) (xs.set p (x.1, u)) ∧ Step g (.slice (some ⟨g1, 0, none⟩) n c) (.slice (some ⟨g1, 0, none⟩) n c) w (W.setCell ⟨g1, p * 2 + 1, none⟩ (eV u)) := by
  have hW := h.to hw
  have hu := (Upd.refl g1 W).set (p := ⟨g1, p * 2 + 1, none⟩) rfl (eV u)
  have hne : g ≠ g1 := fun e => h.ne (by rw [e]; rfl)
  refine ⟨⟨(hu.block g hne).trans hW.box, h.low, hW.row.set hn hx u, h.ne⟩, ⟨hu.os.trans hw.out.os, hu.tape.trans hw.out.tape, hu.output.trans hw.out.output, by have := hw.size; have := hu.size; omega, ?_, fun q hq => .inl hq⟩⟩
  intro k hk hkg hkv
  exact (hu.block k (fun e => hkv (by rw [e]; rfl))).trans (hw.block hk)
end
section
variable {P : Program} {ops : Array Oper} {rest : List Oper} {o : Oper} {a : Act} {Q : Exit → Act → World → Prop}
/-- make([]T, 0, n), T of one cell. Ahead of it: 'at_make'. -/
theorem wp_make0 {α : Type} {enc : α → Value} (h1 : ∀ x, (enc x).oneCell' = true) {w0 W : World} (t e : TypeId) (z : Value) (bytes : Nat) (hgd : o.guard = none) (l c : Operand)
    (ho : o.op = .makeSlice t l c) (ht : P.underlying t = some (.slice e)) (hinfo : (P.info? e).map (fun i => (i.zero, i.size, i.bytes)) = some (some z, 1, bytes))
    (n : Nat) (C : Int) (hl : a.eval l = .int .i64 0) (hc : a.eval c = .int .i64 C) (hC : C = (n : Int)) (HB : Bel w0 W) (hb : bytes * n ≤ 281474976710656) (hn : n ≤ maxLen)
    (h : ∀ w1, Own (scalar enc h1) e w1 w0.heap.size All (.slice (some ⟨W.heap.size, 0, none⟩) 0 n) [] → Bel w0 w1 → wpList P ops Q rest (a.put o.dst (.slice (some ⟨W.heap.size, 0, none⟩) 0 n)) w1) :
    wpList P ops Q (o :: rest) a W := by
  obtain ⟨i0, hi, hzz⟩ := Option.map_eq_some_iff.1 hinfo
  simp only [Prod.mk.injEq] at hzz
  obtain ⟨hz0, hz1, hz2⟩ := hzz
  subst hC
  obtain ⟨w', hrun, h2, h3⟩ := run_make_own (P := P) W w0.heap.size t e i0 z 1 ht hi hz0 hz1 .i64 .i64 n (by rw [hz2]; exact hb) hn HB.size
  refine wpList_plain hgd fun K hK => ?_
  unfold Oper.wp execOp
  simp only [ho, hl, hc, Sem.run_bind, hrun, Sem.run_pure, Result.andThen_ok]
  exact hK _ _ (h _ (Own.ofRow h2) (HB.grown h3 (by intro k hk; cases hk)))
/-- wp_append1, the variadic's block being given by its number. -/
theorem wp_append1b {α : Type} (d : Ty α) {w0 W : World} (t e : TypeId) (z : Value) (bytes : Nat) (hgd : o.guard = none) (s x : Operand)
    (ho : o.op = .call { callee := .builtin .append, args := #[s, x], argTypes := #[t, t] })
    (ht : P.underlying t = some (.slice e)) (hinfo : (P.info? e).map (fun i => (i.zero, i.size, i.bytes)) = some (some z, d.sz, bytes)) (hz : z.cells.size = d.sz)
    (S : Nat → Prop) (v : Value) (xs : List α) (y : α) (cs : List Value) (b : Nat) (hb : b = W.heap.size) (hs : a.eval s = v) (hx : a.eval x = .slice (some ⟨b, 0, none⟩) 1 1) (HO : Own d e W w0.heap.size S v xs) (HR : d.rd W (fun k => S k ∧ some k ≠ v.ownBlock) y cs)
    (HB : Bel w0 W) (hl : xs.length + 1 ≤ maxLen) (hl2 : (xs.length + 1) * bytes ≤ 140737488355328)
    (h : ∀ v1 w1, Own d e w1 w0.heap.size S v1 (xs ++ [y]) → Bel w0 w1 → W.grownBy w1 v.ownBlock → (v1.ownBlock = v.ownBlock ∨ ∃ b, v1.ownBlock = some b ∧ W.heap.size ≤ b) → wpList P ops Q rest (a.put o.dst v1) w1) :
    wpList P ops Q (o :: rest) a (W.alloc (.cells cs.toArray e)) :=
  wp_append1 d t e z bytes hgd s x ho ht hinfo hz S v xs y cs hs (by rw [← hb]; exact hx) HO HR HB hl hl2 h
end
theorem delete_list {F zs : List Value} {p m : Nat} (hF : F.length = (p + 1 + m) * 2) (hz : zs.length = 2) : (setL (setL F (p * 2) (F.drop ((p + 1) * 2))) ((p + m) * 2) zs).take ((p + m) * 2) = F.take (p * 2) ++ F.drop ((p + 1) * 2) := by
  have hd : (F.drop ((p + 1) * 2)).length = m * 2 := by rw [List.length_drop]; omega
  have ht : (F.take (p * 2)).length = p * 2 := by rw [List.length_take]; omega
  have hl : (F.take (p * 2) ++ F.drop ((p + 1) * 2)).length = (p + m) * 2 := by rw [List.length_append]; omega
  rw [setL_eq _ F _ (by omega)]
  have hl2 : (F.take (p * 2) ++ F.drop ((p + 1) * 2) ++ F.drop (p * 2 + (F.drop ((p + 1) * 2)).length)).length = (p + 1 + m) * 2 := by rw [List.length_append, hl, List.length_drop]; omega
  rw [setL_eq _ _ _ (by rw [hl2]; omega), List.append_assoc (List.take _ _) zs, List.take_append_of_le_length (by rw [List.length_take, hl2]; omega), List.take_take, Nat.min_self,
    List.take_append_of_le_length (by omega), List.take_of_length_le (by omega)]
theorem run_clear1 {P : Program} (w : World) (t e ty : TypeId) (z : Value) (zs : List Value) (ht : P.underlying t = some (.slice e)) (hv : ∀ w, (zeroValue e).run P w = .ok z w) (hzc : (Builtin.zeroCells z.cells 1).toList = zs) (h1 : ∀ v ∈ zs, v.oneCell' = true) (hzl : zs.length = 2) (b o c : Nat)
    (hc : ∀ j, j < 2 → (w.cell? ⟨b, o + j, none⟩).isSome = true) (hf : ∀ j, j < 2 → w.frozen? ⟨b, o + j, none⟩ = false) :
    (Builtin.clear_ #[t] ty #[.slice (some ⟨b, o, none⟩) 1 c]).run P w = .ok (.tuple #[]) (w.setCells b o zs) := by
  have hst := run_storeCells_cells (P := P) b o zs 0 w (by rw [hzl]; simpa using hc) (by rw [hzl]; simpa using hf) h1
  simp only [Nat.add_zero] at hst
  simp [Builtin.clear_, run_underlying ht, hv, hzc, hst]
end Go.Cb
