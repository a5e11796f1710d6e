/- The library of this place's proofs: kinds of data, what reads as what in a world, rows of the call's own. -/
import Derived.WalkKit
import Derived.WalkSpells
import Derived.WalkLawsBesides
import Derived.BigQuiet
import Derived.Deep.QuietTactic
import Derived.Deep.LoopGhost
import Derived.LaidEqlPtr
import Derived.Maps.AppendAt
import Derived.Deep.OwnRows
import Derived.Below
import Derived.KernelRfl
import Derived.Lib.Hide
import Derived.Lib.QuietBelow
import Derived.StillTail
import Derived.Lib.AppendZerosOnto
import Derived.Laws.IdiomCopy
import Derived.Lib.Overlaps
import Derived.Laws.OwnMore
set_option linter.unusedVariables false
set_option linter.unusedSimpArgs false
namespace Go.Cb
open Go.RowKit

/-! ### worlds -/
/-- What was there in w is in w' as it was. -/
structure Bel (w w' : World) : Prop where mk :: (out : Below w.heap.size w w')
theorem Bel.refl (w : World) : Bel w w := ⟨Below.refl _ _⟩
theorem Bel.size {a b : World} (h : Bel a b) : a.heap.size ≤ b.heap.size := h.out.size
theorem Bel.block {a b : World} (h : Bel a b) {k : Nat} (hk : k < a.heap.size) : b.heap[k]? = a.heap[k]? := h.out.block k hk
theorem Bel.trans {a b c : World} (h : Bel a b) (k : Bel b c) : Bel a c := ⟨h.out.trans (k.out.mono h.size)⟩
theorem Bel.alloc {a w : World} (h : Bel a w) (o : Obj) : Bel a (w.alloc o) := ⟨h.out.alloc h.size o⟩
theorem Bel.drew {a w : World} (h : Bel a w) : Bel a w.drew := ⟨h.out.drew⟩
theorem Bel.drewN {a w : World} (h : Bel a w) (n : Nat) : Bel a (w.drewN n) := ⟨⟨h.out.os, h.out.tape, h.out.output, h.out.size, h.out.block⟩⟩
theorem Bel.set {a w : World} (h : Bel a w) {p : Addr} (hp : a.heap.size ≤ p.block) (u : Value) : Bel a (w.setCell p u) := ⟨h.out.setCell hp u⟩
theorem Bel.grown {a w w' : World} {row : Option Nat} (h : Bel a w) (hg : w.grownBy w' row) (hr : ∀ k, row = some k → a.heap.size ≤ k) : Bel a w' := ⟨h.out.grown hg h.size hr⟩
theorem Bel.below {a b : World} (h : Bel a b) : Below a.heap.size a b := h.out
theorem Bel.heap {a w w' : World} (h : Bel a w) (ho : w'.os = w.os) (ht : w'.tape = w.tape) (hu : w'.output = w.output) (hs : w.heap.size ≤ w'.heap.size) (hb : ∀ k, k < a.heap.size → w'.heap[k]? = w.heap[k]?) : Bel a w' :=
  ⟨⟨ho.trans h.out.os, ht.trans h.out.tape, hu.trans h.out.output, Nat.le_trans h.out.size hs, fun k hk => (hb k hk).trans (h.out.block k hk)⟩⟩

theorem cell_keep {w w' : World} {a : Addr} {v : Value} (h : w.cell? a = some v) (hb : w'.heap[a.block]? = w.heap[a.block]?) : w'.cell? a = some v := (World.cell?_of_block hb).trans h
theorem cellAt {w : World} {g : Nat} {cs : Array Value} {t : TypeId} {fr : Nat × Nat} (h : w.heap[g]? = some (.cells cs t fr)) (i : Nat) : w.cell? ⟨g, i, none⟩ = cs[i]? := by
  simp [World.cell?, h]
theorem frozenAt {w : World} {g : Nat} {cs : Array Value} {t : TypeId} (h : w.heap[g]? = some (.cells cs t (0,0))) (i : Nat) : w.frozen? ⟨g, i, none⟩ = false := by
  simp [World.frozen?, h]
theorem blk_lt {w : World} {g : Nat} {o : Obj} (h : w.heap[g]? = some o) : g < w.heap.size := (Array.getElem?_eq_some_iff.1 h).1
theorem add_plain (g j : Nat) : (⟨g, 0, none⟩ : Addr).add j = ⟨g, j, none⟩ := by unfold Addr.add; split <;> simp_all
theorem add_add (a : Addr) (i j : Nat) : (a.add i).add j = a.add (i + j) := by
  unfold Addr.add
  by_cases h1 : i = 0 <;> by_cases h2 : j = 0 <;> simp [h1, h2, Nat.add_assoc]
theorem add_block (a : Addr) (i : Nat) : (a.add i).block = a.block := by unfold Addr.add; split <;> rfl

/-! ### kinds -/
/-- A kind of data: how many cells an element has; when cells read as x in w, all that they lead to lying in blocks of S. -/
structure Ty (α : Type) where
  sz : Nat
  pos : 0 < sz
  rd : World → (Nat → Prop) → α → List Value → Prop
  len : ∀ {w S x cs}, rd w S x cs → cs.length = sz
  one : ∀ {w S x cs}, rd w S x cs → ∀ u ∈ cs, u.oneCell' = true
  mono : ∀ {w : World} {S S' : Nat → Prop} {x cs}, (∀ k, S k → S' k) → rd w S x cs → rd w S' x cs
  bound : ∀ {w : World} {S x cs}, rd w S x cs → rd w (fun k => S k ∧ k < w.heap.size) x cs
  step : ∀ {w w' : World} {S x cs}, (∀ k, S k → w'.heap[k]? = w.heap[k]?) → rd w S x cs → rd w' S x cs

/-- One value, as it stands. -/
def scalar {α : Type} (enc : α → Value) (h1 : ∀ x, (enc x).oneCell' = true) : Ty α where
  sz := 1
  pos := by omega
  rd := fun _ _ x cs => cs = [enc x]
  len := fun h => by rw [h]; rfl
  one := fun h u hu => by rw [h] at hu; rw [List.mem_singleton.1 hu]; exact h1 _
  mono := fun _ h => h
  bound := fun h => h
  step := fun _ h => h
def intT : Ty Int := scalar (Value.int .i64) (fun _ => rfl)
def uintT : Ty Int := scalar (Value.int .u64) (fun _ => rfl)
def byteT : Ty Int := scalar (Value.int .u8) (fun _ => rfl)
def boolT : Ty Bool := scalar Value.bool (fun _ => rfl)
def strT : Ty ByteArray := scalar Value.string (fun _ => rfl)

/-- A slice (A: where, c: its capacity) reads as xs. -/
def Rd {α : Type} (d : Ty α) (w : World) (S : Nat → Prop) (A : Option Addr) (c : Nat) (xs : List α) : Prop :=
  xs.length ≤ c ∧ c ≤ maxLen ∧ ∀ j x, xs[j]? = some x → ∃ ad cs, A = some ad ∧ S ad.block ∧ d.rd w S x cs ∧ ∀ i u, cs[i]? = some u → w.cell? (ad.add (j * d.sz + i)) = some u
def All : Nat → Prop := fun _ => True
def Ge (b : Nat) : Nat → Prop := fun k => b ≤ k

section
variable {α : Type} {d : Ty α} {w w' : World} {S S' : Nat → Prop} {A : Option Addr} {c : Nat} {xs : List α}
theorem Rd.mono (h : Rd d w S A c xs) (hS : ∀ k, S k → S' k) : Rd d w S' A c xs :=
  ⟨h.1, h.2.1, fun j x hj => let ⟨ad, cs, e, hs, hr, hc⟩ := h.2.2 j x hj; ⟨ad, cs, e, hS _ hs, d.mono hS hr, hc⟩⟩
theorem Rd.all (h : Rd d w S A c xs) : Rd d w All A c xs := h.mono (fun _ _ => trivial)
theorem Rd.bound (h : Rd d w S A c xs) : Rd d w (fun k => S k ∧ k < w.heap.size) A c xs :=
  ⟨h.1, h.2.1, fun j x hj => by
    obtain ⟨ad, cs, e, hs, hr, hc⟩ := h.2.2 j x hj
    refine ⟨ad, cs, e, ⟨hs, ?_⟩, d.bound hr, hc⟩
    have hl := d.len hr
    have hp := d.pos
    have := hc 0 cs[0] (List.getElem?_eq_getElem (by omega))
    have := World.block_lt_of_cell? w _ this
    rwa [add_block] at this⟩
theorem Rd.step' (h : Rd d w S A c xs) (hs : ∀ k, S k → w'.heap[k]? = w.heap[k]?) : Rd d w' S A c xs :=
  ⟨h.1, h.2.1, fun j x hj => by
    obtain ⟨ad, cs, e, hS, hr, hc⟩ := h.2.2 j x hj
    exact ⟨ad, cs, e, hS, d.step hs hr, fun i u hu => cell_keep (hc i u hu) (by rw [add_block]; exact hs _ hS)⟩⟩
theorem Rd.step (h : Rd d w S A c xs) (hs : ∀ k, S k → k < w.heap.size → w'.heap[k]? = w.heap[k]?) : Rd d w' S A c xs :=
  (h.bound.step' (fun k hk => hs k hk.1 hk.2)).mono (fun _ hk => hk.1)
theorem Rd.to (h : Rd d w S A c xs) (hb : Bel w w') : Rd d w' S A c xs := h.step (fun _ _ hk => hb.block hk)
theorem Ty.rd_step {x : α} {cs : List Value} (h : d.rd w S x cs) (hs : ∀ k, S k → k < w.heap.size → w'.heap[k]? = w.heap[k]?) : d.rd w' S x cs :=
  d.mono (fun _ hk => hk.1) (d.step (fun k hk => hs k hk.1 hk.2) (d.bound h))
theorem Ty.rd_to {x : α} {cs : List Value} (h : d.rd w S x cs) (hb : Bel w w') : d.rd w' S x cs := d.rd_step h (fun _ _ hk => hb.block hk)
theorem Rd.nil (d : Ty α) (w : World) (S : Nat → Prop) (A : Option Addr) (c : Nat) (hc : c ≤ maxLen) : Rd d w S A c [] := ⟨Nat.zero_le _, hc, fun j x hj => by simp at hj⟩
theorem Rd.cap (h : Rd d w S A c xs) : xs.length ≤ c := h.1
theorem Rd.capMax (h : Rd d w S A c xs) : c ≤ maxLen := h.2.1
theorem Rd.lenMax (h : Rd d w S A c xs) : xs.length ≤ 9223372036854775807 := by have := h.1; have := h.2.1; unfold maxLen at this; omega
theorem Rd.get (h : Rd d w S A c xs) {j : Nat} {x : α} (hj : xs[j]? = some x) : ∃ ad cs, A = some ad ∧ d.rd w S x cs ∧ ∀ i u, cs[i]? = some u → w.cell? (ad.add (j * d.sz + i)) = some u :=
  let ⟨ad, cs, e, _, hr, hc⟩ := h.2.2 j x hj; ⟨ad, cs, e, hr, hc⟩
theorem Rd.take (h : Rd d w S A c xs) (n : Nat) : Rd d w S A c (xs.take n) :=
  ⟨by have := h.1; have := List.length_take_le n xs; have := List.length_take_le' n xs; omega, h.2.1, fun j x hj => by
    rw [List.getElem?_take] at hj
    split at hj
    · exact h.2.2 j x hj
    · cases hj⟩
theorem Rd.drop (h : Rd d w S A c xs) (n : Nat) (hn : n ≤ xs.length) : Rd d w S (if c = n then A else A.map (·.add (n * d.sz))) (c - n) (xs.drop n) := by
  have h1 := h.1
  refine ⟨by rw [List.length_drop]; omega, by have := h.2.1; omega, fun j x hj => ?_⟩
  have hj2 : xs[n + j]? = some x := by rw [List.getElem?_drop] at hj; exact hj
  obtain ⟨ad, cs, e, hS, hr, hc⟩ := h.2.2 _ _ hj2
  have hlt : n + j < xs.length := (List.getElem?_eq_some_iff.1 hj2).1
  rw [if_neg (by omega), e]
  refine ⟨ad.add (n * d.sz), cs, rfl, by rw [add_block]; exact hS, hr, fun i u hu => ?_⟩
  rw [add_add, ← hc i u hu, Nat.add_mul]
  congr 1
  congr 1
  omega
end

/-- A slice of such. -/
def sl {α : Type} (d : Ty α) : Ty (List α) where
  sz := 1
  pos := by omega
  rd := fun w S xs cs => ∃ A c, cs = [.slice A xs.length c] ∧ Rd d w S A c xs
  len := by rintro w S x cs ⟨A, c, rfl, _⟩; rfl
  one := by
    rintro w S x cs ⟨A, c, rfl, _⟩ u hu
    rw [List.mem_singleton.1 hu]; rfl
  mono := by rintro w S S' x cs hS ⟨A, c, rfl, h⟩; exact ⟨A, c, rfl, h.mono hS⟩
  bound := by rintro w S x cs ⟨A, c, rfl, h⟩; exact ⟨A, c, rfl, h.bound⟩
  step := by rintro w w' S x cs hs ⟨A, c, rfl, h⟩; exact ⟨A, c, rfl, h.step' hs⟩
/-- Two, one behind the other. -/
def two {α β : Type} (a : Ty α) (b : Ty β) : Ty (α × β) where
  sz := a.sz + b.sz
  pos := by have := a.pos; omega
  rd := fun w S x cs => ∃ c0 c1, cs = c0 ++ c1 ∧ a.rd w S x.1 c0 ∧ b.rd w S x.2 c1
  len := by rintro w S x cs ⟨c0, c1, rfl, h0, h1⟩; rw [List.length_append, a.len h0, b.len h1]
  one := by
    rintro w S x cs ⟨c0, c1, rfl, h0, h1⟩ u hu
    rcases List.mem_append.1 hu with hu | hu
    · exact a.one h0 u hu
    · exact b.one h1 u hu
  mono := by rintro w S S' x cs hS ⟨c0, c1, rfl, h0, h1⟩; exact ⟨c0, c1, rfl, a.mono hS h0, b.mono hS h1⟩
  bound := by rintro w S x cs ⟨c0, c1, rfl, h0, h1⟩; exact ⟨c0, c1, rfl, a.bound h0, b.bound h1⟩
  step := by rintro w w' S x cs hs ⟨c0, c1, rfl, h0, h1⟩; exact ⟨c0, c1, rfl, a.step hs h0, b.step hs h1⟩
/-- A Lean structure by its fields. -/
def iso {α β : Type} (d : Ty α) (f : β → α) : Ty β where
  sz := d.sz
  pos := d.pos
  rd := fun w S x cs => d.rd w S (f x) cs
  len := d.len
  one := d.one
  mono := d.mono
  bound := d.bound
  step := d.step

/-! ### a row of the call's own -/
/-- v is a row of elements of type e, of the call's own (from block base on), that reads as xs; its elements lead to blocks of S, none of which is the row's own. -/
def Own {α : Type} (d : Ty α) (e : TypeId) (w : World) (base : Nat) (S : Nat → Prop) (v : Value) (xs : List α) : Prop :=
  ∃ inner, w.ownsRow base e d.sz v xs.length inner ∧ ∀ j x, xs[j]? = some x → d.rd w (fun k => S k ∧ some k ≠ v.ownBlock) x ((inner.drop (j * d.sz)).take d.sz)

theorem ownsRow_step {w w' : World} {base : Nat} {e : TypeId} {size n : Nat} {v : Value} {xs : List Value} (h : w.ownsRow base e size v n xs) (hm : ∀ k, v.ownBlock = some k → w'.heap[k]? = w.heap[k]?) : w'.ownsRow base e size v n xs := by
  obtain ⟨h1, h2⟩ := h
  refine ⟨h1, ?_⟩
  rcases h2 with h2 | ⟨g, cap, cur, rfl, hg, hh, r⟩
  · exact .inl h2
  · exact .inr ⟨g, cap, cur, rfl, hg, (hm g (by simp [Value.ownBlock])).trans hh, r⟩

section
variable {α : Type} {d : Ty α} {e : TypeId} {w w' : World} {base : Nat} {S S' : Nat → Prop} {v : Value} {xs : List α}
theorem Own.nil (d : Ty α) (e : TypeId) (w : World) (base : Nat) (S : Nat → Prop) : Own d e w base S (.slice none 0 0) [] := ⟨[], ⟨by simp, .inl ⟨rfl, rfl⟩⟩, fun j x hj => by simp at hj⟩
theorem Own.lt (h : Own d e w base S v xs) {k : Nat} (hk : v.ownBlock = some k) : k < w.heap.size := by obtain ⟨inner, ho, _⟩ := h; exact (ho.lt k hk).2
theorem Own.ge (h : Own d e w base S v xs) {k : Nat} (hk : v.ownBlock = some k) : base ≤ k := by obtain ⟨inner, ho, _⟩ := h; exact (ho.lt k hk).1
theorem Own.mono (h : Own d e w base S v xs) (hS : ∀ k, S k → S' k) : Own d e w base S' v xs :=
  let ⟨inner, ho, hr⟩ := h; ⟨inner, ho, fun j x hj => d.mono (fun k hk => ⟨hS k hk.1, hk.2⟩) (hr j x hj)⟩
theorem Own.lower {base' : Nat} (h : Own d e w base S v xs) (hb : base' ≤ base) : Own d e w base' S v xs := by
  obtain ⟨inner, ⟨h1, h2⟩, hr⟩ := h
  refine ⟨inner, ⟨h1, ?_⟩, hr⟩
  rcases h2 with h2 | ⟨g, cap, cur, rfl, hg, r⟩
  · exact .inl h2
  · exact .inr ⟨g, cap, cur, rfl, Nat.le_trans hb hg, r⟩
theorem Own.raise {base' : Nat} (h : Own d e w base S v xs) (hb : ∀ k, v.ownBlock = some k → base' ≤ k) : Own d e w base' S v xs := by
  obtain ⟨inner, ⟨h1, h2⟩, hr⟩ := h
  refine ⟨inner, ⟨h1, ?_⟩, hr⟩
  rcases h2 with h2 | ⟨g, cap, cur, rfl, hg, r⟩
  · exact .inl h2
  · exact .inr ⟨g, cap, cur, rfl, hb g (by simp [Value.ownBlock]), r⟩
theorem Own.bound (h : Own d e w base S v xs) : Own d e w base (fun k => S k ∧ k < w.heap.size) v xs :=
  let ⟨inner, ho, hr⟩ := h; ⟨inner, ho, fun j x hj => d.mono (fun _ hk => ⟨⟨hk.1.1, hk.2⟩, hk.1.2⟩) (d.bound (hr j x hj))⟩
theorem Own.step (h : Own d e w base S v xs) (hm : ∀ k, v.ownBlock = some k → w'.heap[k]? = w.heap[k]?) (hs : ∀ k, S k → k < w.heap.size → some k ≠ v.ownBlock → w'.heap[k]? = w.heap[k]?) : Own d e w' base S v xs := by
  obtain ⟨inner, ho, hr⟩ := h
  exact ⟨inner, ownsRow_step ho hm, fun j x hj => d.rd_step (hr j x hj) (fun k hk hlt => hs k hk.1 hlt hk.2)⟩
theorem Own.to (h : Own d e w base S v xs) (hb : Bel w w') : Own d e w' base S v xs := h.step (fun _ hk => hb.block (h.lt hk)) (fun _ _ hk _ => hb.block hk)
theorem Own.form (h : Own d e w base S v xs) : ∃ A c, v = .slice A xs.length c := by
  obtain ⟨inner, ⟨h1, h2⟩, hr⟩ := h
  rcases h2 with ⟨rfl, hn⟩ | ⟨g, cap, cur, rfl, _⟩
  · exact ⟨none, 0, by rw [hn]⟩
  · exact ⟨_, cap, rfl⟩
theorem Own.rd (h : Own d e w base S v xs) : ∃ A c, v = .slice A xs.length c ∧ Rd d w (fun k => S k ∨ some k = v.ownBlock) A c xs := by
  obtain ⟨inner, ho, hr⟩ := h
  have h2 := ho.2
  rcases h2 with ⟨rfl, hn⟩ | ⟨g, cap, cur, rfl, hb, hg, hc, hm, hcs, ht⟩
  · have : xs = [] := List.eq_nil_of_length_eq_zero hn
    subst this
    exact ⟨none, 0, rfl, Rd.nil _ _ _ _ _ (by simp [maxLen])⟩
  · refine ⟨_, cap, rfl, hc, hm, fun j x hj => ?_⟩
    have hlt : j < xs.length := (List.getElem?_eq_some_iff.1 hj).1
    refine ⟨_, _, rfl, .inr rfl, d.mono (fun k hk => .inl hk.1) (hr j x hj), fun i u hu => ?_⟩
    have hi : i < d.sz := by
      have := (List.getElem?_eq_some_iff.1 hu).1
      simp at this; omega
    have hu2 : inner[j * d.sz + i]? = some u := by
      rw [List.getElem?_take, if_pos hi, List.getElem?_drop] at hu
      exact hu
    exact ho.cells (g := g) rfl _ _ hu2
theorem Own.rdAll (h : Own d e w base S v xs) : ∃ A c, v = .slice A xs.length c ∧ Rd d w All A c xs := let ⟨A, c, e, hr⟩ := h.rd; ⟨A, c, e, hr.all⟩
theorem Own.rdGe (h : Own d e w base (Ge base) v xs) : ∃ A c, v = .slice A xs.length c ∧ Rd d w (Ge base) A c xs :=
  let ⟨A, c, e, hr⟩ := h.rd; ⟨A, c, e, hr.mono (fun k hk => by
    rcases hk with hk | hk
    · exact hk
    · exact h.ge hk.symm)⟩
end
/-! ### the cells of a row that is read, one behind the other -/
theorem Rd.flat {α : Type} {d : Ty α} {w : World} {S : Nat → Prop} {A : Option Addr} {c : Nat} {xs : List α} (h : Rd d w S A c xs) (hp : 0 < xs.length) :
    ∃ (ad : Addr) (news : List Value), A = some ad ∧ news.length = xs.length * d.sz ∧ (∀ j u, news[j]? = some u → w.cell? (ad.add j) = some u) ∧ (∀ u ∈ news, u.oneCell' = true) ∧ ∀ j x, xs[j]? = some x → d.rd w S x ((news.drop (j * d.sz)).take d.sz) := by
  obtain ⟨ad, _, e, _, _, _⟩ := h.2.2 0 xs[0] (List.getElem?_eq_getElem hp)
  have key : ∀ j x, xs[j]? = some x → ∃ cs, d.rd w S x cs ∧ ∀ i u, cs[i]? = some u → w.cell? (ad.add (j * d.sz + i)) = some u := by
    intro j x hj
    obtain ⟨ad', cs, e', _, hr, hc⟩ := h.2.2 j x hj
    rw [e] at e'
    injection e' with e'
    subst e'
    exact ⟨cs, hr, hc⟩
  have hsome : ∀ j, j < xs.length * d.sz → ∃ u, w.cell? (ad.add j) = some u ∧ u.oneCell' = true := by
    intro j hj
    have hd := d.pos
    have hq : j / d.sz < xs.length := Nat.div_lt_of_lt_mul (by rwa [Nat.mul_comm] at hj)
    obtain ⟨cs, hr, hc⟩ := key (j / d.sz) _ (List.getElem?_eq_getElem hq)
    have hm : j % d.sz < cs.length := by rw [d.len hr]; exact Nat.mod_lt _ hd
    refine ⟨cs[j % d.sz], ?_, d.one hr _ (List.getElem_mem hm)⟩
    have := hc _ _ (List.getElem?_eq_getElem hm)
    rwa [Nat.mul_comm, Nat.div_add_mod] at this
  refine ⟨ad, (List.range (xs.length * d.sz)).map (fun j => (w.cell? (ad.add j)).getD undef), e, by simp, ?_, ?_, ?_⟩
  · intro j u hu
    rw [List.getElem?_map] at hu
    by_cases hj : j < xs.length * d.sz
    · rw [List.getElem?_range hj] at hu
      obtain ⟨u', hu', _⟩ := hsome j hj
      simp [hu'] at hu
      rw [hu', hu]
    · rw [List.getElem?_eq_none (by simpa using hj)] at hu
      simp at hu
  · intro u hu
    obtain ⟨j, hj, rfl⟩ := List.mem_map.1 hu
    obtain ⟨u', hu', h1⟩ := hsome j (List.mem_range.1 hj)
    rw [hu']
    exact h1
  · intro j x hj
    obtain ⟨cs, hr, hc⟩ := key j x hj
    have hlt : j < xs.length := (List.getElem?_eq_some_iff.1 hj).1
    have hle : j * d.sz + d.sz ≤ xs.length * d.sz := by rw [← Nat.succ_mul]; exact Nat.mul_le_mul_right _ hlt
    have hcs := d.len hr
    have hh : (((List.range (xs.length * d.sz)).map (fun j => (w.cell? (ad.add j)).getD undef)).drop (j * d.sz)).take d.sz = cs := by
      apply List.ext_getElem?
      intro i
      by_cases hi : i < d.sz
      · rw [List.getElem?_take, if_pos hi, List.getElem?_drop, List.getElem?_map, List.getElem?_range (by omega)]
        have hi' : i < cs.length := by omega
        rw [List.getElem?_eq_getElem hi']
        have := hc i _ (List.getElem?_eq_getElem hi')
        simp [this]
      · rw [List.getElem?_eq_none (by simp; omega), List.getElem?_eq_none (by omega)]
    rw [hh]
    exact hr

theorem Rd.get1 {α : Type} {enc : α → Value} {h1 : ∀ x, (enc x).oneCell' = true} {w : World} {S : Nat → Prop} {A : Option Addr} {c : Nat} {xs : List α} (h : Rd (scalar enc h1) w S A c xs) {k : Nat} (hk : k < xs.length) :
    ∃ ad, A = some ad ∧ w.cell? (ad.add k) = some (enc xs[k]) := by
  obtain ⟨ad, cs, e, hr, hc⟩ := h.get (List.getElem?_eq_getElem hk)
  have hcs : cs = [enc xs[k]] := hr
  refine ⟨ad, e, ?_⟩
  have := hc 0 (enc xs[k]) (by rw [hcs]; rfl)
  simpa [scalar] using this
theorem Rd.int {w : World} {S : Nat → Prop} {A : Option Addr} {c : Nat} {xs : List Int} (h : Rd intT w S A c xs) {k : Nat} (hk : k < xs.length) :
    ∃ ad, A = some ad ∧ w.cell? (ad.add k) = some (.int .i64 xs[k]) := h.get1 hk

theorem Ty.rdS {α : Type} (d : Ty α) {W : World} {S S' : Nat → Prop} {v : Value} (h : ∀ k, S' k → k < W.heap.size → S k ∧ some k ≠ v.ownBlock) : ∀ x cs, d.rd W S' x cs → d.rd W (fun k => S k ∧ some k ≠ v.ownBlock) x cs :=
  fun _ _ hr => d.mono (fun k hk => h k hk.1 hk.2) (d.bound hr)

/-! ### append -/
section
variable {P : Program} {ops : Array Oper} {rest : List Oper} {o : Oper} {a : Act} {Q : Exit → Act → World → Prop}
/-- append's run at a row of the call's own, what is put behind it lying at ad, cell by cell. -/
theorem run_appendC {α : Type} (d : Ty α) {w0 W : World} (ty t e : TypeId) (z : Value) (bytes : Nat)
    (ht : P.underlying t = some (.slice e)) (hinfo : (P.info? e).map (fun i => (i.zero, i.size, i.bytes)) = some (some z, d.sz, bytes)) (hz : z.cells.size = d.sz)
    (S : Nat → Prop) (v : Value) (xs ys : List α) (ad : Addr) (c : Nat) (news : List Value) (HO : Own d e W w0.heap.size S v xs)
    (hnl : news.length = ys.length * d.sz) (hnc : ∀ j u, news[j]? = some u → W.cell? (ad.add j) = some u) (hn1 : ∀ u ∈ news, u.oneCell' = true) (hnr : ∀ j x, ys[j]? = some x → d.rd W (fun k => S k ∧ some k ≠ v.ownBlock) x ((news.drop (j * d.sz)).take d.sz))
    (HB : Bel w0 W) (hl : xs.length + ys.length ≤ maxLen) (hl2 : (xs.length + ys.length) * bytes ≤ 140737488355328) :
    ∃ v1 w1, (Builtin.append_ #[t, t] ty #[v, .slice (some ad) ys.length c]).run P W = .ok v1 w1 ∧ Own d e w1 w0.heap.size S v1 (xs ++ ys) ∧ Bel w0 w1 ∧ W.grownBy w1 v.ownBlock ∧ (v1.ownBlock = v.ownBlock ∨ v1.ownBlock = some W.heap.size) := by
  obtain ⟨i0, hi, hzz⟩ := Option.map_eq_some_iff.1 hinfo
  simp only [Prod.mk.injEq] at hzz
  obtain ⟨hz0, hz1, hz2⟩ := hzz
  obtain ⟨inner, ho, hr⟩ := HO.bound
  have hown : ∀ k, v.ownBlock = some k → w0.heap.size ≤ k := fun k hk => HO.ge hk
  obtain ⟨v1, w1, hrun, h2, h3, _, h5⟩ := run_append_own_at (P := P) W w0.heap.size t ty e i0 z d.sz bytes ht hi hz0 hz1 hz2 hz d.pos v xs.length inner ho ad ys.length c news hnl hnc hn1 hl hl2 HB.size
  refine ⟨v1, w1, hrun, ⟨inner ++ news, by rw [List.length_append]; exact h2, fun j x hj => ?_⟩, HB.grown h3 hown, h3, h5⟩
  have hil : inner.length = xs.length * d.sz := ho.1
  have agree : ∀ k, k < W.heap.size → some k ≠ v.ownBlock → w1.heap[k]? = W.heap[k]? := fun k hk hne => h3.block k hk hne
  have ne1 : ∀ k, k < W.heap.size → some k ≠ v.ownBlock → some k ≠ v1.ownBlock := by
    intro k hk hne
    rcases h5 with h5 | h5
    · rw [h5]; exact hne
    · rw [h5]; intro he; injection he with he; omega
  by_cases hj1 : j < xs.length
  · rw [List.getElem?_append_left hj1] at hj
    have hle : j * d.sz + d.sz ≤ inner.length := by rw [hil, ← Nat.succ_mul]; exact Nat.mul_le_mul_right _ hj1
    rw [List.drop_append_of_le_length (by omega), List.take_append_of_le_length (by rw [List.length_drop]; omega)]
    exact d.mono (fun k hk => ⟨hk.1.1, ne1 k hk.1.2 hk.2⟩) (d.step (fun k hk => agree k hk.1.2 hk.2) (hr j x hj))
  · rw [List.getElem?_append_right (by omega)] at hj
    have hd : (inner ++ news).drop (j * d.sz) = news.drop ((j - xs.length) * d.sz) := by
      rw [List.drop_append, List.drop_eq_nil_of_le (by rw [hil]; exact Nat.mul_le_mul_right _ (by omega)), List.nil_append, hil, Nat.sub_mul]
    rw [hd]
    exact d.mono (fun k hk => ⟨hk.1.1, ne1 k hk.2 hk.1.2⟩) (d.step (fun k hk => agree k hk.2 hk.1.2) (d.bound (hnr _ x hj)))

theorem run_append {α : Type} (d : Ty α) {w0 W : World} (ty t e : TypeId) (z : Value) (bytes : Nat)
    (ht : P.underlying t = some (.slice e)) (hinfo : (P.info? e).map (fun i => (i.zero, i.size, i.bytes)) = some (some z, d.sz, bytes)) (hz : z.cells.size = d.sz)
    (S S' : Nat → Prop) (v : Value) (xs ys : List α) (A : Option Addr) (c : Nat) (HO : Own d e W w0.heap.size S v xs) (HR : Rd d W S' A c ys)
    (hS : ∀ x cs, d.rd W S' x cs → d.rd W (fun k => S k ∧ some k ≠ v.ownBlock) x cs) (HB : Bel w0 W) (hl : xs.length + ys.length ≤ maxLen) (hl2 : (xs.length + ys.length) * bytes ≤ 140737488355328) :
    ∃ v1 w1, (Builtin.append_ #[t, t] ty #[v, .slice A ys.length c]).run P W = .ok v1 w1 ∧ Own d e w1 w0.heap.size S v1 (xs ++ ys) ∧ Bel w0 w1 ∧ W.grownBy w1 v.ownBlock ∧ (v1.ownBlock = v.ownBlock ∨ v1.ownBlock = some W.heap.size) := by
  rcases Nat.eq_zero_or_pos ys.length with h0 | h0
  · obtain ⟨i0, hi, hzz⟩ := Option.map_eq_some_iff.1 hinfo
    obtain ⟨inner, ho, hr⟩ := HO
    have h1 : ys = [] := List.eq_nil_of_length_eq_zero h0
    subst h1
    refine ⟨v, W, ?_, ⟨inner, by simpa using ho, by simpa using hr⟩, HB, ⟨rfl, rfl, rfl, Nat.le_refl _, fun _ _ _ => rfl⟩, .inl rfl⟩
    rcases A with _ | ad
    · rcases ho.2 with ⟨rfl, hn⟩ | ⟨g, cap, cur, rfl, _, _, hnc, _⟩
      · simp [Builtin.append_, run_underlying ht, sizeOf, typeInfo, hi, Builtin.lenOf, Builtin.firstCells]
      · simp [Builtin.append_, run_underlying ht, sizeOf, typeInfo, hi, Builtin.lenOf, Builtin.firstCells, hnc, storeCells]
    · rcases ho.2 with ⟨rfl, hn⟩ | ⟨g, cap, cur, rfl, _, _, hnc, _⟩
      · simp [Builtin.append_, run_underlying ht, sizeOf, typeInfo, hi, Builtin.lenOf, Builtin.firstCells, loadCells, loadCellsFrom]
      · simp [Builtin.append_, run_underlying ht, sizeOf, typeInfo, hi, Builtin.lenOf, Builtin.firstCells, loadCells, loadCellsFrom, hnc, storeCells]
  · obtain ⟨ad, news, rfl, hnl, hnc, hn1, hnr⟩ := HR.flat h0
    exact run_appendC d ty t e z bytes ht hinfo hz S v xs ys ad c news HO hnl hnc hn1 (fun j x hj => hS _ _ (hnr j x hj)) HB hl hl2

/-- append(v, ys...). Ahead of it: 'at_builtin'. -/
theorem wp_append {α : Type} (d : Ty α) {w0 W : World} (t e : TypeId) (z : Value) (bytes : Nat) (hgd : o.guard = none) (s x : Operand)
    (ho : o.op = .call { callee := .builtin .append, args := #[s, x], argTypes := #[t, t] })
    (ht : P.underlying t = some (.slice e)) (hinfo : (P.info? e).map (fun i => (i.zero, i.size, i.bytes)) = some (some z, d.sz, bytes)) (hz : z.cells.size = d.sz)
    (S S' : Nat → Prop) (v : Value) (xs ys : List α) (A : Option Addr) (n c : Nat) (hs : a.eval s = v) (hx : a.eval x = .slice A n c) (hn : n = ys.length) (HO : Own d e W w0.heap.size S v xs) (HR : Rd d W S' A c ys)
    (hS : ∀ x cs, d.rd W S' x cs → d.rd W (fun k => S k ∧ some k ≠ v.ownBlock) x cs) (HB : Bel w0 W) (hl : xs.length + ys.length ≤ maxLen) (hl2 : (xs.length + ys.length) * bytes ≤ 140737488355328)
    (h : ∀ v1 w1, Own d e w1 w0.heap.size S v1 (xs ++ ys) → Bel w0 w1 → W.grownBy w1 v.ownBlock → (v1.ownBlock = v.ownBlock ∨ v1.ownBlock = some W.heap.size) → wpList P ops Q rest (a.put o.dst v1) w1) :
    wpList P ops Q (o :: rest) a W := by
  subst hn
  refine wpList_plain hgd fun K hK => ?_
  obtain ⟨v1, w1, hr, h2, h3, h4, h5⟩ := run_append (P := P) d o.type t e z bytes ht hinfo hz S S' v xs ys A c HO HR hS HB hl hl2
  unfold Oper.wp execOp
  simp only [ho, resolve, invoke, builtin, Sem.run_bind, Sem.run_pure, Result.andThen_ok, List.map_toArray, List.map_cons, List.map_nil, hs, hx, hr]
  exact hK _ _ (h v1 w1 h2 h3 h4 h5)

/-- append(v, y): the world is 'W.alloc' of the variadic's box. -/
theorem wp_append1 {α : Type} (d : Ty α) {w0 W : World} (t e : TypeId) (z : Value) (bytes : Nat) (hgd : o.guard = none) (s x : Operand)
    (ho : o.op = .call { callee := .builtin .append, args := #[s, x], argTypes := #[t, t] })
    (ht : P.underlying t = some (.slice e)) (hinfo : (P.info? e).map (fun i => (i.zero, i.size, i.bytes)) = some (some z, d.sz, bytes)) (hz : z.cells.size = d.sz)
    (S : Nat → Prop) (v : Value) (xs : List α) (y : α) (cs : List Value) (hs : a.eval s = v) (hx : a.eval x = .slice (some ⟨W.heap.size, 0, none⟩) 1 1) (HO : Own d e W w0.heap.size S v xs) (HR : d.rd W (fun k => S k ∧ some k ≠ v.ownBlock) y cs)
    (HB : Bel w0 W) (hl : xs.length + 1 ≤ maxLen) (hl2 : (xs.length + 1) * bytes ≤ 140737488355328)
    (h : ∀ v1 w1, Own d e w1 w0.heap.size S v1 (xs ++ [y]) → Bel w0 w1 → W.grownBy w1 v.ownBlock → (v1.ownBlock = v.ownBlock ∨ ∃ b, v1.ownBlock = some b ∧ W.heap.size ≤ b) → wpList P ops Q rest (a.put o.dst v1) w1) :
    wpList P ops Q (o :: rest) a (W.alloc (.cells cs.toArray e)) := by
  have hsz : (W.alloc (.cells cs.toArray e)).heap.size = W.heap.size + 1 := by simp
  have hcl := d.len HR
  have hcell : ∀ j u, cs[j]? = some u → (W.alloc (.cells cs.toArray e)).cell? ((⟨W.heap.size, 0, none⟩ : Addr).add j) = some u := by
    intro j u hu
    rw [add_plain, cellAt (heap_alloc_new W _)]
    simpa using hu
  have hb1 : Bel W (W.alloc (.cells cs.toArray e)) := (Bel.refl W).alloc _
  obtain ⟨v1, w1, hr, h2, h3, h4, h5⟩ := run_appendC (P := P) d (w0 := w0) (W := W.alloc (.cells cs.toArray e)) o.type t e z bytes ht hinfo hz S v xs [y] ⟨W.heap.size, 0, none⟩ 1 cs (HO.to hb1) (by simpa using hcl) hcell (d.one HR)
    (by
      intro j x hj
      obtain ⟨rfl, rfl⟩ : j = 0 ∧ y = x := by
        cases j with
        | zero => exact ⟨rfl, by simpa using hj⟩
        | succ j => simp at hj
      rw [Nat.zero_mul, List.drop_zero, List.take_of_length_le (by omega)]
      exact d.rd_to HR hb1)
    (HB.alloc _) hl hl2
  refine wpList_plain hgd fun K hK => ?_
  unfold Oper.wp execOp
  simp only [List.length_singleton] at hr
  simp only [ho, resolve, invoke, builtin, Sem.run_bind, Sem.run_pure, Result.andThen_ok, List.map_toArray, List.map_cons, List.map_nil, hs, hx, hr]
  refine hK _ _ (h v1 w1 h2 h3 ⟨h4.os, h4.tape, h4.output, by have := h4.size; omega, fun k hk hne => (h4.block k (by omega) hne).trans (Below.heap_alloc W _ _ hk)⟩ ?_)
  rcases h5 with h5 | h5
  · exact .inl h5
  · exact .inr ⟨_, h5, by omega⟩
end
/-! ### rows of scalars: made, read, written -/
section
variable {α : Type} {enc : α → Value} {h1 : ∀ x, (enc x).oneCell' = true} {e : TypeId} {w : World} {base : Nat} {S : Nat → Prop} {v : Value} {xs : List α}
theorem scalar_chunk {inner : List Value} (hl : inner.length = xs.length * 1) (hr : ∀ j x, xs[j]? = some x → (inner.drop (j * 1)).take 1 = [enc x]) : inner = xs.map enc := by
  apply List.ext_getElem?
  intro j
  by_cases hj : j < xs.length
  · have := hr j _ (List.getElem?_eq_getElem hj)
    have h2 : ((inner.drop (j * 1)).take 1)[0]? = some (enc xs[j]) := by rw [this]; rfl
    rw [List.getElem?_take, if_pos (by omega), List.getElem?_drop] at h2
    rw [List.getElem?_map, List.getElem?_eq_getElem hj, Option.map_some, ← h2]
    congr 1
    omega
  · rw [List.getElem?_eq_none (by omega), List.getElem?_eq_none (by simp; omega)]
theorem Own.ofRow (h : w.ownsRow base e 1 v xs.length (xs.map enc)) : Own (scalar enc h1) e w base S v xs := by
  refine ⟨xs.map enc, h, fun j x hj => ?_⟩
  have hlt : j < xs.length := (List.getElem?_eq_some_iff.1 hj).1
  have hx : xs[j] = x := (List.getElem?_eq_some_iff.1 hj).2
  show ((xs.map enc).drop (j * 1)).take 1 = [enc x]
  rw [Nat.mul_one, ← List.map_drop, List.drop_eq_getElem_cons hlt]
  simp [hx]
theorem Own.row (h : Own (scalar enc h1) e w base S v xs) : w.ownsRow base e 1 v xs.length (xs.map enc) := by
  obtain ⟨inner, ho, hr⟩ := h
  have : inner = xs.map enc := scalar_chunk ho.1 (fun j x hj => hr j x hj)
  rw [← this]; exact ho
theorem Own.any {S' : Nat → Prop} (h : Own (scalar enc h1) e w base S v xs) : Own (scalar enc h1) e w base S' v xs := Own.ofRow h.row
theorem Own.where_ {β : Type} {d : Ty β} {ys : List β} (h : Own d e w base S v ys) (hp : 0 < ys.length) : ∃ g cap, v = .slice (some ⟨g, 0, none⟩) ys.length cap ∧ base ≤ g ∧ g < w.heap.size := by
  obtain ⟨inner, ⟨h1, h2⟩, hr⟩ := h
  rcases h2 with ⟨rfl, hn⟩ | ⟨g, cap, cur, rfl, hb, hg, _⟩
  · omega
  · exact ⟨g, cap, rfl, hb, blk_lt hg⟩
theorem Own.addr {β : Type} {d : Ty β} {ys : List β} {A : Option Addr} {n c : Nat} (h : Own d e w base S (.slice A n c) ys) (hp : 0 < ys.length) : ∃ g, A = some ⟨g, 0, none⟩ ∧ base ≤ g ∧ g < w.heap.size := by
  obtain ⟨g, cap, he, h1, h2⟩ := h.where_ hp
  injection he with he
  exact ⟨g, he, h1, h2⟩
variable {g n cap : Nat}
theorem Own.cell (h : Own (scalar enc h1) e w base S (.slice (some ⟨g, 0, none⟩) n cap) xs) {i : Nat} (hi : i < xs.length) : w.cell? ⟨g, i, none⟩ = some (enc xs[i]) ∧ w.frozen? ⟨g, i, none⟩ = false := by
  have hr := h.row
  have hn : n = xs.length := by
    rcases hr.2 with ⟨h', _⟩ | ⟨g', cap', cur, h', _⟩
    · cases h'
    · injection h'
  subst hn
  exact ⟨by rw [hr.cellAt i (by omega)]; simp [hi], hr.frozenAt i⟩
theorem Own.set (h : Own (scalar enc h1) e w base S (.slice (some ⟨g, 0, none⟩) n cap) xs) (i : Nat) (x : α) : Own (scalar enc h1) e (w.setCell ⟨g, i, none⟩ (enc x)) base S (.slice (some ⟨g, 0, none⟩) n cap) (xs.set i x) := by
  have hr := h.row
  have hn : n = xs.length := by
    rcases hr.2 with ⟨h', _⟩ | ⟨g', cap', cur, h', _⟩
    · cases h'
    · injection h'
  subst hn
  have h2 := (hr.stored i (enc x)).1
  have h3 : (xs.map enc).set i (enc x) = (xs.set i x).map enc := by rw [List.map_set]
  rw [h3] at h2
  refine Own.ofRow ?_
  rwa [List.length_set]
end
section
variable {P : Program} {ops : Array Oper} {rest : List Oper} {o : Oper} {a : Act} {Q : Exit → Act → World → Prop}
/-- make([]T, n), T of one cell. Ahead of it: 'at_make'. -/
theorem wp_make {α : Type} {enc : α → Value} (h1 : ∀ x, (enc x).oneCell' = true) (z0 : α) {w0 W : World} (t e : TypeId) (bytes : Nat) (hgd : o.guard = none) (l c : Operand)
    (ho : o.op = .makeSlice t l c) (ht : P.underlying t = some (.slice e)) (hinfo : (P.info? e).map (fun i => (i.zero, i.size, i.bytes)) = some (some (enc z0), 1, bytes)) (hz : (enc z0).cells = #[enc z0])
    (n : Nat) (L C : Int) (hl : a.eval l = .int .i64 L) (hc : a.eval c = .int .i64 C) (hL : L = (n : Int)) (hC : C = (n : Int)) (HB : Bel w0 W) (hb : bytes * n ≤ 281474976710656) (hn : n ≤ maxLen)
    (h : ∀ w1, Own (scalar enc h1) e w1 w0.heap.size All (.slice (some ⟨W.heap.size, 0, none⟩) n n) (List.replicate n z0) → Bel w0 w1 → Bel W w1 → w1.heap.size = W.heap.size + 1 → wpList P ops Q rest (a.put o.dst (.slice (some ⟨W.heap.size, 0, none⟩) n n)) w1) :
    wpList P ops Q (o :: rest) a W := by
  obtain ⟨i0, hi, hzz⟩ := Option.map_eq_some_iff.1 hinfo
  simp only [Prod.mk.injEq] at hzz
  obtain ⟨hz0, hz1, hz2⟩ := hzz
  subst hL hC
  have hrun := run_make_row' (P := P) t e (enc z0) bytes ht hinfo hz .i64 .i64 n hb hn W
  refine wpList_plain hgd fun K hK => ?_
  unfold Oper.wp execOp
  simp only [ho, hl, hc, Sem.run_bind, hrun, Sem.run_pure, Result.andThen_ok]
  refine hK _ _ (h _ ?_ (HB.alloc _) ((Bel.refl W).alloc _) (by simp))
  have h2 := World.ownsRow_lit (base := w0.heap.size) (e := e) (size := 1) W (madeCells #[enc z0] n) n HB.size hn (by simp [size_madeCells])
  rw [toList_madeCells_one] at h2
  refine Own.ofRow ?_
  rw [List.map_replicate, List.length_replicate]
  exact h2
end

/-! ### one block that changes; meters -/
/-- Block g alone may have changed. -/
structure Upd (g : Nat) (w w' : World) : Prop where
  os : w'.os = w.os
  tape : w'.tape = w.tape
  output : w'.output = w.output
  size : w'.heap.size = w.heap.size
  block : ∀ k, k ≠ g → w'.heap[k]? = w.heap[k]?
theorem Upd.refl (g : Nat) (w : World) : Upd g w w := ⟨rfl, rfl, rfl, rfl, fun _ _ => rfl⟩
theorem Upd.trans {g : Nat} {a b c : World} (h : Upd g a b) (k : Upd g b c) : Upd g a c := ⟨k.os.trans h.os, k.tape.trans h.tape, k.output.trans h.output, k.size.trans h.size, fun i hi => (k.block i hi).trans (h.block i hi)⟩
theorem Upd.drewN {g : Nat} {a b : World} (h : Upd g a b) (n : Nat) : Upd g a (b.drewN n) := ⟨h.os, h.tape, h.output, h.size, h.block⟩
theorem Upd.drew {g : Nat} {a b : World} (h : Upd g a b) : Upd g a b.drew := ⟨h.os, h.tape, h.output, h.size, h.block⟩
theorem Upd.set {g : Nat} {a b : World} (h : Upd g a b) {p : Addr} (hp : p.block = g) (u : Value) : Upd g a (b.setCell p u) :=
  ⟨h.os, h.tape, h.output, by simpa [World.setCell] using h.size, fun k hk => (Below.heap_setCell b p u k (by omega)).trans (h.block k hk)⟩
theorem Bel.upd {a w w' : World} {g : Nat} (h : Bel a w) (hu : Upd g w w') (hg : a.heap.size ≤ g) : Bel a w' :=
  h.heap hu.os hu.tape hu.output (by rw [hu.size]; exact Nat.le_refl _) (fun k hk => hu.block k (by omega))
theorem heap_drewN (w : World) (n : Nat) : (w.drewN n).heap = w.heap := rfl
theorem heap_drew (w : World) : w.drew.heap = w.heap := rfl

/-- At block g lies a meter: its budget, what was spent, whether it is out. -/
def Met (w : World) (t : TypeId) (g : Nat) (b s : Int) (o : Bool) : Prop := w.heap[g]? = some (.cells #[.int .i64 b, .int .i64 s, .bool o] t (0, 0))
theorem Met.cells {w : World} {t : TypeId} {g : Nat} {b s : Int} {o : Bool} (h : Met w t g b s o) :
    w.cell? ⟨g, 0, none⟩ = some (.int .i64 b) ∧ w.cell? ⟨g, 1, none⟩ = some (.int .i64 s) ∧ w.cell? ⟨g, 2, none⟩ = some (.bool o) ∧ (∀ i, w.frozen? ⟨g, i, none⟩ = false) :=
  ⟨cellAt h 0, cellAt h 1, cellAt h 2, frozenAt h⟩
theorem Met.lt {w : World} {t : TypeId} {g : Nat} {b s : Int} {o : Bool} (h : Met w t g b s o) : g < w.heap.size := blk_lt h
theorem Met.to {w w' : World} {t : TypeId} {g : Nat} {b s : Int} {o : Bool} (h : Met w t g b s o) (hb : Bel w w') : Met w' t g b s o := (hb.block h.lt).trans h
theorem Met.drewN {w : World} {t : TypeId} {g : Nat} {b s : Int} {o : Bool} (h : Met w t g b s o) (n : Nat) : Met (w.drewN n) t g b s o := h
theorem Met.other {w w' : World} {t : TypeId} {g g' : Nat} {b s : Int} {o : Bool} (h : Met w t g b s o) (hu : Upd g' w w') (hne : g ≠ g') : Met w' t g b s o := (hu.block g hne).trans h
theorem Met.setS {w : World} {t : TypeId} {g : Nat} {b s : Int} {o : Bool} (h : Met w t g b s o) (s' : Int) : Met (w.setCell ⟨g, 1, none⟩ (.int .i64 s')) t g b s' o := by
  unfold Met at *
  simp [World.setCell, Array.getElem?_modify, h]
theorem Met.setO {w : World} {t : TypeId} {g : Nat} {b s : Int} {o : Bool} (h : Met w t g b s o) (o' : Bool) : Met (w.setCell ⟨g, 2, none⟩ (.bool o')) t g b s o' := by
  unfold Met at *
  simp [World.setCell, Array.getElem?_modify, h]
end Go.Cb

/- The library, more. -/
namespace Go.Cb
open Go.RowKit
theorem Rd.ofBlock {α : Type} {enc : α → Value} {h1 : ∀ x, (enc x).oneCell' = true} {w : World} {g : Nat} {e : TypeId} {fr : Nat × Nat} (xs : List α) (c : Nat) (h : w.heap[g]? = some (.cells (xs.map enc).toArray e fr)) (hc : xs.length ≤ c) (hm : c ≤ maxLen) :
    Rd (scalar enc h1) w All (some ⟨g, 0, none⟩) c xs := by
  refine ⟨hc, hm, fun j x hj => ⟨⟨g, 0, none⟩, [enc x], rfl, trivial, rfl, fun i u hu => ?_⟩⟩
  cases i with
  | succ i => simp at hu
  | zero =>
    have hu2 : u = enc x := by simpa using hu.symm
    subst hu2
    rw [add_plain, cellAt h]
    simp [scalar, hj]
theorem Rd.lit {α : Type} {enc : α → Value} {h1 : ∀ x, (enc x).oneCell' = true} (W : World) (e : TypeId) (xs : List α) (hm : xs.length ≤ maxLen) :
    Rd (scalar enc h1) (W.alloc (.cells (xs.map enc).toArray e)) All (some ⟨W.heap.size, 0, none⟩) xs.length xs :=
  Rd.ofBlock xs xs.length (heap_alloc_new W _) (Nat.le_refl _) hm
/-- Nothing but draws lies between. -/
def Dr (w w' : World) : Prop := ∃ q, w' = w.drewN q
theorem Dr.refl (w : World) : Dr w w := ⟨0, rfl⟩
theorem Dr.drewN {w w' : World} (h : Dr w w') (n : Nat) : Dr w (w'.drewN n) := by obtain ⟨q, rfl⟩ := h; exact ⟨q + n, World.drewN_drewN _ _ _⟩
theorem Dr.trans {a b c : World} (h : Dr a b) (k : Dr b c) : Dr a c := by obtain ⟨q, rfl⟩ := k; exact h.drewN q
theorem Dr.bel {w w' : World} (h : Dr w w') : Bel w w' := by obtain ⟨q, rfl⟩ := h; exact (Bel.refl _).drewN q
/-- Two boxed parameters. -/
theorem twoBoxes (w : World) (a b : Array Value) (t : TypeId) :
    Bel w ((w.alloc (.cells a t)).alloc (.cells b t)) ∧ (∀ i, ((w.alloc (.cells a t)).alloc (.cells b t)).cell? ⟨w.heap.size, i, none⟩ = a[i]?) ∧
    (∀ i, ((w.alloc (.cells a t)).alloc (.cells b t)).cell? ⟨w.heap.size + 1, i, none⟩ = b[i]?) ∧ ((w.alloc (.cells a t)).alloc (.cells b t)).heap.size = w.heap.size + 2 := by
  refine ⟨((Bel.refl _).alloc _).alloc _, fun i => ?_, fun i => ?_, ?_⟩
  · exact (World.cell?_of_block (((Bel.refl (w.alloc (.cells a t))).alloc (.cells b t)).block (by simp))).trans (cellAt (heap_alloc_new w _) i)
  · rw [show w.heap.size + 1 = (w.alloc (.cells a t)).heap.size by simp]
    exact cellAt (heap_alloc_new _ _) i
  · simp
end Go.Cb

/- The library: slices of slices; pairs. -/
namespace Go.Cb
open Go.RowKit
def bagT : Ty (List Int) := sl intT
def bagsT : Ty (List (List Int)) := sl bagT
def linT : Ty (List Int × List (List Int)) := two bagT bagsT
theorem Rd.row {α : Type} {d : Ty α} {w : World} {S : Nat → Prop} {A : Option Addr} {c : Nat} {xs : List (List α)} (h : Rd (sl d) w S A c xs) {k : Nat} (hk : k < xs.length) :
    ∃ ad B cb, A = some ad ∧ w.cell? (ad.add k) = some (.slice B xs[k].length cb) ∧ Rd d w S B cb xs[k] := by
  obtain ⟨ad, cs, e, ⟨B, cb, he, hr⟩, hc⟩ := h.get (List.getElem?_eq_getElem hk)
  refine ⟨ad, B, cb, e, ?_, hr⟩
  have := hc 0 (.slice B xs[k].length cb) (by rw [he]; rfl)
  simpa [sl] using this
theorem lin_rd {w : World} {S : Nat → Prop} {l : List Int × List (List Int)} {cs : List Value} (h : linT.rd w S l cs) :
    ∃ A0 c0 A1 c1, cs = [.slice A0 l.1.length c0, .slice A1 l.2.length c1] ∧ Rd intT w S A0 c0 l.1 ∧ Rd bagT w S A1 c1 l.2 := by
  obtain ⟨x, y, rfl, ⟨A0, c0, rfl, h0⟩, ⟨A1, c1, rfl, h1⟩⟩ := h
  exact ⟨A0, c0, A1, c1, rfl, h0, h1⟩
theorem lin_mk {w : World} {S : Nat → Prop} {b : List Int} {ps : List (List Int)} {A0 A1 : Option Addr} {c0 c1 : Nat} (h0 : Rd intT w S A0 c0 b) (h1 : Rd bagT w S A1 c1 ps) :
    linT.rd w S (b, ps) [.slice A0 b.length c0, .slice A1 ps.length c1] :=
  ⟨[_], [_], rfl, ⟨A0, c0, rfl, h0⟩, ⟨A1, c1, rfl, h1⟩⟩
theorem Ty.rdNil {α : Type} (d : Ty α) {W : World} {S S' : Nat → Prop} (h : ∀ k, S' k → k < W.heap.size → S k) : ∀ x cs, d.rd W S' x cs → d.rd W (fun k => S k ∧ some k ≠ (Value.slice none 0 0).ownBlock) x cs :=
  d.rdS (fun k h1 h2 => ⟨h k h1 h2, fun e => absurd (show some k = none from e) (by simp)⟩)
theorem Rd.drop_nil {α : Type} (d : Ty α) (w : World) (S : Nat → Prop) (A : Option Addr) (c : Nat) (xs : List α) (hc : c ≤ maxLen) : Rd d w S A c (xs.drop xs.length) := by
  rw [List.drop_eq_nil_of_le (Nat.le_refl _)]
  exact Rd.nil d w S A c hc
/-- At block g lie two values. -/
def Box (w : World) (t : TypeId) (g : Nat) (a b : Value) : Prop := w.heap[g]? = some (.cells #[a, b] t (0, 0))
theorem Box.cells {w : World} {t : TypeId} {g : Nat} {a b : Value} (h : Box w t g a b) : w.cell? ⟨g, 0, none⟩ = some a ∧ w.cell? ⟨g, 1, none⟩ = some b ∧ w.frozen? ⟨g, 0, none⟩ = false ∧ w.frozen? ⟨g, 1, none⟩ = false :=
  ⟨cellAt h 0, cellAt h 1, frozenAt h 0, frozenAt h 1⟩
theorem Box.lt {w : World} {t : TypeId} {g : Nat} {a b : Value} (h : Box w t g a b) : g < w.heap.size := blk_lt h
theorem Box.to {w w' : World} {t : TypeId} {g : Nat} {a b : Value} (h : Box w t g a b) (hb : Bel w w') : Box w' t g a b := (hb.block h.lt).trans h
theorem Box.other {w w' : World} {t : TypeId} {g g' : Nat} {a b : Value} (h : Box w t g a b) (hu : Upd g' w w') (hne : g ≠ g') : Box w' t g a b := (hu.block g hne).trans h
theorem Box.set0 {w : World} {t : TypeId} {g : Nat} {a b : Value} (h : Box w t g a b) (v : Value) : Box (w.setCell ⟨g, 0, none⟩ v) t g v b := by
  unfold Box at *
  simp [World.setCell, Array.getElem?_modify, h]
theorem Box.set1 {w : World} {t : TypeId} {g : Nat} {a b : Value} (h : Box w t g a b) (v : Value) : Box (w.setCell ⟨g, 1, none⟩ v) t g a v := by
  unfold Box at *
  simp [World.setCell, Array.getElem?_modify, h]
theorem Box.new (w : World) (t : TypeId) (a b : Value) : Box (w.alloc (.cells #[a, b] t)) t w.heap.size a b := heap_alloc_new w _
theorem Rd.upd {α : Type} {d : Ty α} {w w' : World} {S : Nat → Prop} {A : Option Addr} {c g : Nat} {xs : List α} (h : Rd d w S A c xs) (hu : Upd g w w') (hg : ¬ S g) : Rd d w' S A c xs :=
  h.step' (fun k hk => hu.block k (fun e => hg (e ▸ hk)))
theorem Upd.one (w : World) (g i : Nat) (v : Value) : Upd g w (w.setCell ⟨g, i, none⟩ v) := (Upd.refl g w).set rfl v
theorem Own.rdOne {α : Type} {enc : α → Value} {h1 : ∀ x, (enc x).oneCell' = true} {e : TypeId} {w : World} {base : Nat} {S : Nat → Prop} {v : Value} {xs : List α} (h : Own (scalar enc h1) e w base S v xs) :
    ∃ A c, v = .slice A xs.length c ∧ Rd (scalar enc h1) w (fun k => base ≤ k ∧ k < w.heap.size) A c xs := by
  obtain ⟨A, c, e, hr⟩ := (h.any (S' := fun _ => False)).rd
  refine ⟨A, c, e, hr.mono (fun k hk => ?_)⟩
  rcases hk with hk | hk
  · exact hk.elim
  · exact ⟨h.ge hk.symm, h.lt hk.symm⟩
theorem results_cell1 {fn : Func} {p : Tmp} {ty : TypeId} (h : fn.results = #[.cell p ty]) (tmps : Array Value) (P : Program) (w : World) :
    (results fn tmps).run P w = ((asAddr (tmps.getD p undef)).run P w).andThen fun a w₁ => (loadVar ty a).run P w₁ := by
  simp only [results, h]
  simp [Sem.run_bind, Result.andThen]
end Go.Cb

/- The library: words that may be written to. -/
namespace Go.Cb
open Go.RowKit
/-- The cells of a slice of n elements (of one cell) may be written to. -/
def Wr (w : World) (A : Option Addr) (n : Nat) : Prop := ∀ i, i < n → ∃ g, A = some ⟨g, 0, none⟩ ∧ w.frozen? ⟨g, i, none⟩ = false
theorem Wr.step' {w w' : World} {S : Nat → Prop} {A : Option Addr} {c : Nat} {xs : List Int} (h : Wr w A xs.length) (hr : Rd intT w S A c xs) (hs : ∀ k, S k → w'.heap[k]? = w.heap[k]?) : Wr w' A xs.length := by
  intro i hi
  obtain ⟨g, rfl, hf⟩ := h i hi
  obtain ⟨ad, cs, e, hS, _, _⟩ := hr.2.2 i _ (List.getElem?_eq_getElem hi)
  injection e with e
  subst e
  exact ⟨g, rfl, (World.frozen?_of_block (w := w) (hs g hS)).trans hf⟩
/-- A slice of numbers that reads as xs and may be written to. -/
structure RdW (w : World) (S : Nat → Prop) (A : Option Addr) (c : Nat) (xs : List Int) : Prop where
  rd : Rd intT w S A c xs
  wr : Wr w A xs.length
section
variable {w w' : World} {S S' : Nat → Prop} {A : Option Addr} {c : Nat} {xs : List Int}
theorem RdW.mono (h : RdW w S A c xs) (hS : ∀ k, S k → S' k) : RdW w S' A c xs := ⟨h.rd.mono hS, h.wr⟩
theorem RdW.bound (h : RdW w S A c xs) : RdW w (fun k => S k ∧ k < w.heap.size) A c xs := ⟨h.rd.bound, h.wr⟩
theorem RdW.step' (h : RdW w S A c xs) (hs : ∀ k, S k → w'.heap[k]? = w.heap[k]?) : RdW w' S A c xs := ⟨h.rd.step' hs, h.wr.step' h.rd hs⟩
theorem RdW.to (h : RdW w S A c xs) (hb : Bel w w') : RdW w' S A c xs := ((h.bound.step' (fun _ hk => hb.block hk.2))).mono (fun _ hk => hk.1)
theorem RdW.upd {g : Nat} (h : RdW w S A c xs) (hu : Upd g w w') (hg : ¬ S g) : RdW w' S A c xs := h.step' (fun k hk => hu.block k (fun e => hg (e ▸ hk)))
theorem RdW.nil (w : World) (S : Nat → Prop) (A : Option Addr) (c : Nat) (hc : c ≤ maxLen) : RdW w S A c [] := ⟨Rd.nil _ _ _ _ _ hc, fun i hi => absurd hi (by simp)⟩
end
/-- A word that may be written to. -/
def wbT : Ty (List Int) where
  sz := 1
  pos := by omega
  rd := fun w S xs cs => ∃ A c, cs = [.slice A xs.length c] ∧ RdW w S A c xs
  len := by rintro w S x cs ⟨A, c, rfl, _⟩; rfl
  one := by
    rintro w S x cs ⟨A, c, rfl, _⟩ u hu
    rw [List.mem_singleton.1 hu]; rfl
  mono := by rintro w S S' x cs hS ⟨A, c, rfl, h⟩; exact ⟨A, c, rfl, h.mono hS⟩
  bound := by rintro w S x cs ⟨A, c, rfl, h⟩; exact ⟨A, c, rfl, h.bound⟩
  step := by rintro w w' S x cs hs ⟨A, c, rfl, h⟩; exact ⟨A, c, rfl, h.step' hs⟩
def wbsT : Ty (List (List Int)) := sl wbT
def wlinT : Ty (List Int × List (List Int)) := two wbT wbsT
theorem wb_bag {w : World} {S : Nat → Prop} {x : List Int} {cs : List Value} (h : wbT.rd w S x cs) : bagT.rd w S x cs := by
  obtain ⟨A, c, e, h⟩ := h
  exact ⟨A, c, e, h.rd⟩
theorem Rd.as {α : Type} {d d' : Ty α} {w : World} {S : Nat → Prop} {A : Option Addr} {c : Nat} {xs : List α} (h : Rd d w S A c xs) (hz : d'.sz = d.sz) (hd : ∀ S x cs, d.rd w S x cs → d'.rd w S x cs) : Rd d' w S A c xs :=
  ⟨h.1, h.2.1, fun j x hj => by
    obtain ⟨ad, cs, e, hS, hr, hc⟩ := h.2.2 j x hj
    exact ⟨ad, cs, e, hS, hd _ _ _ hr, fun i u hu => by rw [hz]; exact hc i u hu⟩⟩
theorem Rd.bags {w : World} {S : Nat → Prop} {A : Option Addr} {c : Nat} {xs : List (List Int)} (h : Rd wbT w S A c xs) : Rd bagT w S A c xs := h.as rfl (fun _ _ _ => wb_bag)
theorem Own.as {α : Type} {d d' : Ty α} {e : TypeId} {w : World} {base : Nat} {S : Nat → Prop} {v : Value} {xs : List α} (h : Own d e w base S v xs) (hz : d'.sz = d.sz) (hd : ∀ S x cs, d.rd w S x cs → d'.rd w S x cs) : Own d' e w base S v xs := by
  obtain ⟨inner, ho, hr⟩ := h
  exact ⟨inner, by rw [hz]; exact ho, fun j x hj => by rw [hz]; exact hd _ _ _ (hr j x hj)⟩
theorem Own.bags {e : TypeId} {w : World} {base : Nat} {S : Nat → Prop} {v : Value} {xs : List (List Int)} (h : Own wbT e w base S v xs) : Own bagT e w base S v xs := h.as rfl (fun _ _ _ => wb_bag)
/-- A row of numbers of the call's own may be written to. -/
theorem Own.wr {e : TypeId} {w : World} {base n c : Nat} {A : Option Addr} {S : Nat → Prop} {xs : List Int} (h : Own intT e w base S (.slice A n c) xs) : Wr w A xs.length := by
  intro i hi
  obtain ⟨g, rfl, _, _⟩ := h.addr (by omega)
  exact ⟨g, rfl, (h.cell hi).2⟩
theorem Own.rdW {e : TypeId} {w : World} {base : Nat} {S : Nat → Prop} {v : Value} {xs : List Int} (h : Own intT e w base S v xs) : ∃ A c, v = .slice A xs.length c ∧ RdW w (fun k => base ≤ k ∧ k < w.heap.size) A c xs := by
  obtain ⟨A, c, rfl, hr⟩ := h.rdOne
  exact ⟨A, c, rfl, hr, h.wr⟩
theorem wlin_lin {w : World} {S : Nat → Prop} {x : List Int × List (List Int)} {cs : List Value} (h : wlinT.rd w S x cs) : linT.rd w S x cs := by
  obtain ⟨c0, c1, rfl, h0, ⟨A, c, rfl, h1⟩⟩ := h
  exact ⟨c0, _, rfl, wb_bag h0, ⟨A, c, rfl, h1.bags⟩⟩
end Go.Cb

/- The library: regions that draw their order and whose calls may lay blocks. -/
namespace Go.Cb
open Go.RowKit Go.Sort
theorem bel_regrown (w : World) (d : Nat) (os : Array Obj) : Bel w (grow (redrawn w d) os) := ⟨below_regrown w d os⟩
/-- A call in such a region: its contract, in every world in which what was there is as it was. -/
theorem callsReg {P : Program} {f : FuncId} {args : Array Value} {w : World} {d : Nat} {os : Array Obj} {v : Value}
    (h : ∀ W, Bel w W → Calls P f args W fun e w' => e = .returned v ∧ Bel W w') : Calls P f args (grow (redrawn w d) os) fun e w'' => e = .returned v ∧ ∃ p : Regrown, w'' = grow (redrawn w p.d) p.os :=
  Calls.regrown_of ((h _ (bel_regrown w d os)).mono fun _ _ ⟨a, b⟩ => ⟨a, b.out⟩)
theorem cellReg {w : World} {a : Addr} {v : Value} (h : w.cell? a = some v) : ∀ (d : Nat) (os : Array Obj), (grow (redrawn w d) os).cell? a = some v := fun d os => cell_regrown h d os
end Go.Cb

/- The library: regions that draw their order, whose first operations only read or make memory of their own, and whose others follow one another: one walk an operation. -/
namespace Go.Cb
open Go

def cntU (listed : Array Bool) : Nat → Nat
  | 0 => 0
  | n + 1 => cntU listed n + (if listed.getD n false = true then 0 else 1)
theorem cntU_zero {listed : Array Bool} : ∀ {n : Nat}, cntU listed n = 0 → ∀ i, i < n → listed.getD i false = true
  | n + 1, h, i, hi => by
    unfold cntU at h
    by_cases e : i = n
    · subst e
      by_cases hh : listed.getD i false = true
      · exact hh
      · rw [if_neg hh] at h; omega
    · exact cntU_zero (n := n) (by omega) i (by omega)
theorem getD_set_neF {listed : Array Bool} {i j : Nat} (h : i ≠ j) : (listed.setIfInBounds i true).getD j false = listed.getD j false := by
  simp [Array.getElem?_setIfInBounds_ne h]
theorem getD_set_eq {listed : Array Bool} {i : Nat} (h : i < listed.size) : (listed.setIfInBounds i true).getD i false = true := by
  simp [h]
theorem cntU_other {listed : Array Bool} {i : Nat} : ∀ {n : Nat}, n ≤ i → cntU (listed.setIfInBounds i true) n = cntU listed n
  | 0, _ => rfl
  | n + 1, h => by
    unfold cntU
    rw [cntU_other (by omega), getD_set_neF (by omega)]
theorem cntU_set {listed : Array Bool} {i : Nat} (hs : i < listed.size) (hu : listed.getD i false = false) : ∀ {n : Nat}, i < n → cntU (listed.setIfInBounds i true) n + 1 = cntU listed n
  | n + 1, hi => by
    unfold cntU
    by_cases e : i = n
    · subst e
      rw [cntU_other (Nat.le_refl _), getD_set_eq hs, hu]
      simp
    · have := cntU_set hs hu (n := n) (by omega)
      rw [getD_set_neF e]
      omega
theorem cntU_none : ∀ (n m : Nat), cntU (Array.replicate m false) n = n
  | 0, _ => rfl
  | n + 1, m => by
    unfold cntU
    rw [cntU_none n m, getD_replicate_false]
    simp
/-- The least that is not yet carried out. -/
theorem least_un {listed : Array Bool} : ∀ (n : Nat), cntU listed n ≠ 0 → ∃ i, i < n ∧ listed.getD i false = false ∧ ∀ j, j < i → listed.getD j false = true
  | 0, h => absurd rfl h
  | n + 1, h => by
    by_cases h0 : cntU listed n = 0
    · refine ⟨n, by omega, ?_, fun j hj => cntU_zero h0 j hj⟩
      unfold cntU at h
      rw [h0] at h
      by_cases e : listed.getD n false = true
      · rw [if_pos e] at h; exact absurd rfl h
      · simpa using e
    · obtain ⟨i, hi, h1, h2⟩ := least_un n h0
      exact ⟨i, by omega, h1, h2⟩
/-- The first n are done. -/
def headDone (n m : Nat) : Array Bool := (List.replicate n true ++ List.replicate (m - n) false).toArray
theorem headDone_eq {listed : Array Bool} {n m : Nat} (hs : listed.size = m) (hn : n ≤ m) (h1 : ∀ i, i < n → listed.getD i false = true) (h2 : ∀ t, n ≤ t → t < m → listed.getD t true = false) : listed = headDone n m := by
  have : listed.toList = List.replicate n true ++ List.replicate (m - n) false := by
    apply List.ext_getElem
    · simp [hs]; omega
    · intro i hi hi2
      have hi' : i < listed.size := by simpa using hi
      by_cases e : i < n
      · have := h1 i e
        simp [hi'] at this
        rw [List.getElem_append_left (by simp; omega), List.getElem_replicate]
        simpa using this
      · have := h2 i (by omega) (by omega)
        simp [hi'] at this
        rw [List.getElem_append_right (by simp; omega), List.getElem_replicate]
        simpa using this
  unfold headDone
  rw [← this]

/-- May a region be walked so? The first n: each waits but for such as stand ahead of it; all that follows waits for them and goes one by one. -/
def growB (md : Region.Mode) (ops : Array Oper) (n : Nat) : Bool :=
  decide (n < ops.size) && Region.sinkB md ops n && Region.chainB md ops n &&
  ((List.range n).all fun i => ((ops[i]?).map fun o => o.after.all fun e => !Region.binds md e || decide (e.on < i)).getD true) &&
  Region.seqB md ops (ops.size - n) n (headDone n ops.size)

/-- What one of the first n leaves: its value, memory that it made. -/
def growQ (a : Act) (o : Oper) (w1 : World) (φ : Value → Nat → Nat → World → Prop) : Exit → Act → World → Prop :=
  fun ex a' w2 => ex = .normal ∧ ∃ v, a' = a.put o.dst v ∧ Bel w1 w2 ∧ φ v w1.heap.size w2.heap.size w2

section
variable {P : Program} {ops : Array Oper} {md : Region.Mode}
theorem wp_only {o : Oper} {a : Act} {w : World} {K K' : Act → World → Prop} {Q Q' : Exit → Act → World → Prop} (hQ : ∀ ex a w, Q ex a w → ex = .normal) (hK : ∀ a w, K a w → K' a w) (h : o.wp P a w K Q) : o.wp P a w K' Q' := by
  unfold Oper.wp at *
  generalize (execOp a.eval o).run P w = r at *
  cases r with
  | ok n w' =>
    cases n <;> simp only [Oper.upon] at h ⊢
    case enter f args =>
      refine h.mono fun e w'' he => ?_
      cases e with
      | returned v => exact hK _ _ he
      | panicked c => exact absurd (hQ _ _ _ he) (by simp)
      | outgrown => obtain ⟨x, y, hh⟩ := he; exact absurd (hQ _ _ _ hh) (by simp)
    case row r args => exact Rows.mono h (fun _ _ he => hK _ _ he)
    all_goals exact hK _ _ h
  | halt x w' =>
    cases x <;> simp only [Oper.upon] at h ⊢
    exact absurd (hQ _ _ _ h) (by simp)
theorem wpOp_only {i : Nat} {o : Oper} {a : Act} {w : World} {K : Act → World → Prop} {Q Q' : Exit → Act → World → Prop} (hi : ops[i]? = some o) (hQ : ∀ ex a w, Q ex a w → ex = .normal) (hK : ∀ a w, Q .normal a w → K a w) (h : wpList P ops Q [o] a w) : wpOp P ops Q' i K a w := by
  unfold wpList at h
  unfold wpOp
  simp only [hi]
  split at h
  · rename_i hw
    rw [if_pos hw]
    rcases h with h | ⟨_, x, y, hh⟩
    · exact .inl (wp_only hQ (fun a' w' h' => hK a' w' (by unfold wpList at h'; exact h')) h)
    · exact absurd (hQ _ _ _ hh) (by simp)
  · rename_i hw
    rw [if_neg hw]
    unfold wpList at h
    exact hK _ _ h
theorem waits_of {o : Oper} {i : Nat} (hi : ops[i]? = some o) {e : Edge} (he : e ∈ o.after) (hb : Region.binds md e = true) : Region.waitsFor md ops i e.on = true := by
  unfold Region.waitsFor
  rw [hi]
  simp only
  rw [Array.any_eq_true']
  exact ⟨e, he, by simp [hb]⟩

theorem wpAny_grow {n : Nat} {l : List Oper} {Q : Exit → Act → World → Prop} {w : World} (hl : ops = l.toArray) (hB : growB md ops n = true) (fr : (Nat → Value) → Act)
    (hfr : ∀ u i o v, l[i]? = some o → i < n → (fr u).put o.dst v = fr (fun k => if k = i then v else u k))
    (Φ : Nat → Value → Nat → Nat → World → Prop) (hst : ∀ i v lo hi w1 w2, Φ i v lo hi w1 → Bel w1 w2 → Φ i v lo hi w2)
    (hstep : ∀ i o, l[i]? = some o → i < n → ∀ (u : Nat → Value) (ρ : Nat → Nat × Nat) w1, Bel w w1 → (∀ k, Region.waitsFor md ops i k = true → Φ k (u k) (ρ k).1 (ρ k).2 w1) → wpList P ops (growQ (fr u) o w1 (Φ i)) [o] (fr u) w1)
    (htail : ∀ (u : Nat → Value) (ρ : Nat → Nat × Nat) w1, Bel w w1 → (∀ k, k < n → Φ k (u k) (ρ k).1 (ρ k).2 w1 ∧ w.heap.size ≤ (ρ k).1 ∧ (ρ k).1 ≤ (ρ k).2 ∧ (ρ k).2 ≤ w1.heap.size) →
      (∀ i j, i < n → j < n → i ≠ j → (ρ i).2 ≤ (ρ j).1 ∨ (ρ j).2 ≤ (ρ i).1) → wpList P ops Q (l.drop n) (fr u) w1) :
    ∀ (f : Nat) (listed : Array Bool) (u : Nat → Value) (ρ : Nat → Nat × Nat) (w1 : World), HeadInv md ops n listed → cntU listed n = f → Bel w w1 →
      (∀ k, k < n → listed.getD k false = true → Φ k (u k) (ρ k).1 (ρ k).2 w1 ∧ w.heap.size ≤ (ρ k).1 ∧ (ρ k).1 ≤ (ρ k).2 ∧ (ρ k).2 ≤ w1.heap.size) →
      (∀ i j, i < n → j < n → listed.getD i false = true → listed.getD j false = true → i ≠ j → (ρ i).2 ≤ (ρ j).1 ∨ (ρ j).2 ≤ (ρ i).1) →
      wpAny P md ops Q (f + (ops.size - n)) listed (fr u) w1 := by
  unfold growB at hB
  simp only [Bool.and_eq_true, decide_eq_true_eq] at hB
  obtain ⟨⟨⟨⟨hn, hs⟩, hc⟩, hd⟩, hseq⟩ := hB
  have hdep : ∀ i k, i < n → Region.waitsFor md ops i k = true → k < i := fun i k hi hw => by
    obtain ⟨o, ho, e, he, hb, hon⟩ := Region.waitsFor_spec hw
    have h1 := List.all_eq_true.1 hd i (List.mem_range.2 hi)
    rw [ho] at h1
    simp only [Option.map_some, Option.getD_some] at h1
    have h2 := Array.all_eq_true'.1 h1 e he
    simp only [Bool.or_eq_true, Bool.not_eq_true', decide_eq_true_eq] at h2
    rcases h2 with h2 | h2
    · rw [h2] at hb; cases hb
    · omega
  intro f
  induction f with
  | zero =>
    intro listed u ρ w1 inv hcnt hb hΦ hdj
    have hall := cntU_zero hcnt
    have hle := headDone_eq (m := ops.size) inv.size (by omega) hall inv.tail
    have hdl : (l.drop n).length = ops.size - n := by rw [hl]; simp
    have := wpAny_of_seq (P := P) (md := md) (ops := ops) (Q' := Q) (l.drop n) n listed (fr u) w1 (fun j => by rw [hl]; simp) (by rw [hdl, hle]; exact hseq)
      (htail u ρ w1 hb (fun k hk => hΦ k hk (hall k hk)) (fun i j hi hj hij => hdj i j hi hj (hall i hi) (hall j hj) hij))
    rw [hdl] at this
    rwa [Nat.zero_add]
  | succ f ih =>
    intro listed u ρ w1 inv hcnt hb hΦ hdj
    obtain ⟨i0, hi0, hu0, hl0⟩ := least_un n (by omega : cntU listed n ≠ 0)
    have hsz := inv.size
    rw [show f + 1 + (ops.size - n) = (f + (ops.size - n)) + 1 by omega]
    refine ⟨fun h => ?_, fun i hi => ?_⟩
    · exfalso
      have : i0 ∈ Region.ready md ops listed := by
        rw [mem_ready]
        have hlt : i0 < ops.size := by omega
        refine ⟨getD_in (by omega) hu0, ops[i0], Array.getElem?_eq_getElem hlt, fun e he hb => ?_⟩
        exact hl0 _ (hdep i0 e.on hi0 (waits_of (Array.getElem?_eq_getElem hlt) he hb))
      rw [h] at this
      cases this
    · have hin : i < n := by
        rcases Nat.lt_or_ge i n with h | h
        · exact h
        · exact absurd hi (tail_waits hs hc hn inv _ i0 rfl hi0 (getD_in (by omega) hu0) i h)
      obtain ⟨hun, o, ho, hall⟩ := mem_ready.1 hi
      have hlo : l[i]? = some o := by rw [hl] at ho; simpa using ho
      refine wpOp_only ho (fun _ _ _ h => h.1) ?_ (hstep i o hlo hin u ρ w1 hb (fun k hk => ?_))
      · rintro a' w2 ⟨_, v, rfl, hb2, hv⟩
        rw [hfr u i o v hlo hin]
        have hcs := cntU_set (listed := listed) (i := i) (by omega) (getD_both hun) hin
        refine ih _ _ (fun k => if k = i then (w1.heap.size, w2.heap.size) else ρ k) w2 (inv.set hi hin) (by omega) (hb.trans hb2) (fun k hk hlk => ?_) (fun p q hp hq hlp hlq hpq => ?_)
        · by_cases e : k = i
          · subst e
            simp only [if_true]
            exact ⟨hv, hb.size, hb2.size, Nat.le_refl _⟩
          · simp only [if_neg e]
            rw [getD_set_neF (Ne.symm e)] at hlk
            obtain ⟨h1, h2, h3, h4⟩ := hΦ k hk hlk
            exact ⟨hst _ _ _ _ _ _ h1 hb2, h2, h3, Nat.le_trans h4 hb2.size⟩
        · by_cases e1 : p = i
          · subst e1
            have e2 : q ≠ p := Ne.symm hpq
            simp only [if_true, if_neg e2]
            rw [getD_set_neF (Ne.symm e2)] at hlq
            exact .inr (hΦ q hq hlq).2.2.2
          · by_cases e2 : q = i
            · subst e2
              simp only [if_true, if_neg e1]
              rw [getD_set_neF (Ne.symm e1)] at hlp
              exact .inl (hΦ p hp hlp).2.2.2
            · simp only [if_neg e1, if_neg e2]
              rw [getD_set_neF (Ne.symm e1)] at hlp
              rw [getD_set_neF (Ne.symm e2)] at hlq
              exact hdj p q hp hq hlp hlq hpq
      · obtain ⟨o', ho', e, he, hb', hon⟩ := Region.waitsFor_spec hk
        have : o' = o := Option.some.inj (ho'.symm.trans ho)
        subst this
        have h1 := hall e he hb'
        rw [hon] at h1
        exact (hΦ k (by have := hdep i k hin hk; omega) h1).1
end

/-- **The region**: see the head of this text. -/
theorem wp_region_grow {P : Program} {id : Nat} {Q : Exit → Act → World → Prop} {a : Act} {w : World} {l : List Oper} (n : Nat) (hm : P.follows .mixedOrders = true) (hB : growB .any l.toArray n = true) (fr : (Nat → Value) → Act)
    (hfr : ∀ u i o v, l[i]? = some o → i < n → (fr u).put o.dst v = fr (fun k => if k = i then v else u k)) (u0 : Nat → Value) (h0 : a = fr u0)
    (Φ : Nat → Value → Nat → Nat → World → Prop) (hst : ∀ i v lo hi w1 w2, Φ i v lo hi w1 → Bel w1 w2 → Φ i v lo hi w2)
    (hstep : ∀ i o, l[i]? = some o → i < n → ∀ (u : Nat → Value) (ρ : Nat → Nat × Nat) w1, Bel w w1 → (∀ k, Region.waitsFor .any l.toArray i k = true → Φ k (u k) (ρ k).1 (ρ k).2 w1) → wpList P l.toArray (growQ (fr u) o w1 (Φ i)) [o] (fr u) w1)
    (htail : ∀ (u : Nat → Value) (ρ : Nat → Nat × Nat) w1, Bel w w1 → (∀ k, k < n → Φ k (u k) (ρ k).1 (ρ k).2 w1 ∧ w.heap.size ≤ (ρ k).1 ∧ (ρ k).1 ≤ (ρ k).2 ∧ (ρ k).2 ≤ w1.heap.size) →
      (∀ i j, i < n → j < n → i ≠ j → (ρ i).2 ≤ (ρ j).1 ∨ (ρ j).2 ≤ (ρ i).1) → wpList P l.toArray Q (l.drop n) (fr u) w1) :
    (Code.region id l.toArray true).wp P Q a w := by
  refine wp_region_any hm ?_
  subst h0
  have hn : n < l.toArray.size := by
    have := hB
    unfold growB at this
    simp only [Bool.and_eq_true, decide_eq_true_eq] at this
    exact this.1.1.1.1
  have inv0 : HeadInv .any l.toArray n (Array.replicate l.toArray.size false) :=
    ⟨by simp, fun j oj _ hl => (by rw [getD_replicate_false] at hl; cases hl), fun t _ ht => getD_in (by simpa using ht) (getD_replicate_false _ _)⟩
  have := wpAny_grow (P := P) (md := .any) (Q := Q) (w := w) rfl hB fr hfr Φ hst hstep htail n (Array.replicate l.toArray.size false) u0 (fun _ => (0, 0)) { w with drawn := w.drawn + 1 } inv0 (cntU_none _ _) (Bel.refl w).drew
    (fun k _ h => by rw [getD_replicate_false] at h; cases h) (fun i j _ _ h => by rw [getD_replicate_false] at h; cases h)
  rwa [show n + (l.toArray.size - n) = l.toArray.size by omega] at this

/-- What an operation leaves, that stays so while what there is stays as it is: its value, and the blocks that it made (from lo on, below hi). -/
structure SPred where
  φ : Value → Nat → Nat → World → Prop
  st : ∀ v lo hi w1 w2, φ v lo hi w1 → Bel w1 w2 → φ v lo hi w2
/-- This value. -/
def SPred.val (x : Value) : SPred := ⟨fun v _ _ _ => v = x, fun _ _ _ _ _ h _ => h⟩
/-- A slice that reads so, its blocks made by the region (which began when there were b). -/
def SPred.word (b : Nat) (xs : List Int) : SPred := ⟨fun v _ hi w => ∃ A c, v = .slice A xs.length c ∧ RdW w (fun k => b ≤ k ∧ k < hi) A c xs, fun _ _ _ _ _ ⟨A, c, e, h⟩ hb => ⟨A, c, e, h.to hb⟩⟩
/-- A row of one: a word whose blocks were made from b on. -/
def SPred.lit1 (b : Nat) (t : TypeId) (xs : List Int) : SPred :=
  ⟨fun v lo hi w => v = .slice (some ⟨lo, 0, none⟩) 1 1 ∧ b ≤ lo ∧ lo < hi ∧ ∃ A c, w.heap[lo]? = some (.cells #[.slice A xs.length c] t (0, 0)) ∧ RdW w (fun k => b ≤ k ∧ k < lo) A c xs,
    fun _ _ _ w1 w2 ⟨e, h1, h2, A, c, h3, h4⟩ hb => ⟨e, h1, h2, A, c, (hb.block (blk_lt h3)).trans h3, h4.to hb⟩⟩
/-- A linear set (or another pair of a word and words), read alone. -/
def SPred.lin (l : List Int × List (List Int)) : SPred :=
  ⟨fun v lo hi w => ∃ A0 c0 A1 c1, v = .agg #[.slice A0 l.1.length c0, .slice A1 l.2.length c1] ∧ Rd intT w (fun k => lo ≤ k ∧ k < hi) A0 c0 l.1 ∧ Rd bagT w (fun k => lo ≤ k ∧ k < hi) A1 c1 l.2,
    fun _ _ _ _ _ ⟨A0, c0, A1, c1, e, h0, h1⟩ hb => ⟨A0, c0, A1, c1, e, h0.to hb, h1.to hb⟩⟩
/-- A new variable of two cells. -/
def SPred.box (t : TypeId) (a b : Value) : SPred :=
  ⟨fun v lo hi w => v = .pointer (some ⟨lo, 0, none⟩) ∧ lo < hi ∧ Box w t lo a b, fun _ _ _ _ _ ⟨e, h0, h⟩ hb => ⟨e, h0, h.to hb⟩⟩
/-- Nothing is said. -/
def SPred.any : SPred := ⟨fun _ _ _ _ => True, fun _ _ _ _ _ _ _ => trivial⟩

/-- The first operations' slots, whatever they hold. -/
def growFr (l : List Oper) : Nat → Act → (Nat → Value) → Act
  | 0, a, _ => a
  | n + 1, a, u => (growFr l n a u).put ((l[n]?).bind (·.dst)) (u n)
def growSteps (P : Program) (l : List Oper) (n : Nat) (w : World) (a : Act) (Φ : List SPred) : List Oper → Nat → Prop
  | [], _ => True
  | o :: rest, i => (∀ (u : Nat → Value) (ρ : Nat → Nat × Nat) w1, Bel w w1 → (∀ k, Region.waitsFor .any l.toArray i k = true → (Φ.getD k SPred.any).φ (u k) (ρ k).1 (ρ k).2 w1) → wpList P l.toArray (growQ (growFr l n a u) o w1 (Φ.getD i SPred.any).φ) [o] (growFr l n a u) w1) ∧ growSteps P l n w a Φ rest (i + 1)
def growDsts (l : List Oper) (n : Nat) : Bool := (List.range n).all fun i => (List.range n).all fun j => decide (i = j) || ((l[i]?).bind (·.dst)) != ((l[j]?).bind (·.dst))
theorem put_put (a : Act) (d : Option Tmp) (x y : Value) : (a.put d x).put d y = a.put d y := by
  cases d with
  | none => rfl
  | some d => simp [Act.put]
theorem growFr_other {l : List Oper} : ∀ {n : Nat} {a : Act} {u : Nat → Value} {i : Nat} {v : Value}, n ≤ i → growFr l n a (fun k => if k = i then v else u k) = growFr l n a u
  | 0, _, _, _, _, _ => rfl
  | n + 1, a, u, i, v, h => by
    unfold growFr
    rw [growFr_other (by omega)]
    simp only [if_neg (show ¬ n = i by omega)]
theorem growFr_put {l : List Oper} : ∀ {n : Nat} {a : Act} {u : Nat → Value} {i : Nat} {v : Value}, (∀ p q, p < n → q < n → p ≠ q → ((l[p]?).bind (·.dst)) ≠ ((l[q]?).bind (·.dst))) → i < n → (growFr l n a u).put ((l[i]?).bind (·.dst)) v = growFr l n a (fun k => if k = i then v else u k)
  | n + 1, a, u, i, v, hd, hi => by
    unfold growFr
    by_cases e : i = n
    · subst e
      rw [put_put, growFr_other (Nat.le_refl _)]
      simp only [if_true]
    · rw [Act.put_comm _ _ _ (fun d h1 h2 => hd n i (by omega) hi (Ne.symm e) (h1.trans h2.symm)), growFr_put (fun p q hp hq => hd p q (by omega) (by omega)) (by omega)]
      simp only [if_neg (show ¬ n = i from fun h => e h.symm)]
theorem put_self (a : Act) (d : Option Tmp) : ∃ v, a.put d v = a := by
  cases d with
  | none => exact ⟨undef, rfl⟩
  | some d =>
    by_cases h : d < a.tmps.size
    · refine ⟨a.tmps[d], ?_⟩
      obtain ⟨t, ds⟩ := a
      simp only [Act.put, Act.mk.injEq, and_true]
      apply Array.ext_getElem?
      intro i
      rw [Array.getElem?_setIfInBounds]
      split
      · rename_i e
        subst e
        have h' : d < t.size := h
        first | (rw [Array.getElem?_eq_getElem h']) | (rw [if_pos h', Array.getElem?_eq_getElem h'])
      · rfl
    · refine ⟨undef, ?_⟩
      obtain ⟨t, ds⟩ := a
      simp only [Act.put, Act.mk.injEq, and_true]
      exact Array.setIfInBounds_eq_of_size_le (by simpa using h)
theorem growFr_self {l : List Oper} : ∀ (n : Nat) (a : Act), ∃ u, a = growFr l n a u
  | 0, a => ⟨fun _ => undef, rfl⟩
  | n + 1, a => by
    obtain ⟨u, hu⟩ := growFr_self (l := l) n a
    obtain ⟨v, hv⟩ := put_self a ((l[n]?).bind (·.dst))
    refine ⟨fun k => if k = n then v else u k, ?_⟩
    unfold growFr
    rw [growFr_other (Nat.le_refl _), ← hu]
    simp only [if_true]
    exact hv.symm
theorem growSteps_at {P : Program} {l : List Oper} {n : Nat} {w : World} {a : Act} {Φ : List SPred} : ∀ {r : List Oper} {j : Nat}, growSteps P l n w a Φ r j → ∀ i o, r[i]? = some o →
    ∀ (u : Nat → Value) (ρ : Nat → Nat × Nat) w1, Bel w w1 → (∀ k, Region.waitsFor .any l.toArray (j + i) k = true → (Φ.getD k SPred.any).φ (u k) (ρ k).1 (ρ k).2 w1) → wpList P l.toArray (growQ (growFr l n a u) o w1 (Φ.getD (j + i) SPred.any).φ) [o] (growFr l n a u) w1
  | [], _, _, i, o, h => by simp at h
  | x :: r, j, h, 0, o, ho => by
    obtain rfl : x = o := by simpa using ho
    exact h.1
  | x :: r, j, h, i + 1, o, ho => by
    have := growSteps_at h.2 i o (by simpa using ho)
    rw [show j + 1 + i = j + (i + 1) by omega] at this
    exact this
/-- The same, an operation at a time. -/
theorem wp_region_grow2 {P : Program} {id : Nat} {Q : Exit → Act → World → Prop} {a : Act} {w : World} {l : List Oper} (n : Nat) (hm : P.follows .mixedOrders = true) (hB : growB .any l.toArray n = true) (hD : growDsts l n = true) (Φ : List SPred)
    (hstep : growSteps P l n w a Φ (l.take n) 0)
    (htail : ∀ (u : Nat → Value) (ρ : Nat → Nat × Nat) w1, Bel w w1 → (∀ k, k < n → (Φ.getD k SPred.any).φ (u k) (ρ k).1 (ρ k).2 w1 ∧ w.heap.size ≤ (ρ k).1 ∧ (ρ k).1 ≤ (ρ k).2 ∧ (ρ k).2 ≤ w1.heap.size) →
      (∀ i j, i < n → j < n → i ≠ j → (ρ i).2 ≤ (ρ j).1 ∨ (ρ j).2 ≤ (ρ i).1) → wpList P l.toArray Q (l.drop n) (growFr l n a u) w1) :
    (Code.region id l.toArray true).wp P Q a w := by
  have hd : ∀ p q, p < n → q < n → p ≠ q → ((l[p]?).bind (·.dst)) ≠ ((l[q]?).bind (·.dst)) := fun p q hp hq hpq => by
    have h1 := List.all_eq_true.1 hD p (List.mem_range.2 hp)
    have h2 := List.all_eq_true.1 h1 q (List.mem_range.2 hq)
    simp only [Bool.or_eq_true, decide_eq_true_eq, bne_iff_ne] at h2
    rcases h2 with h2 | h2
    · exact absurd h2 hpq
    · exact h2
  obtain ⟨u0, hu0⟩ := growFr_self (l := l) n a
  refine wp_region_grow n hm hB (growFr l n a) (fun u i o v ho hi => ?_) u0 hu0 (fun k => (Φ.getD k SPred.any).φ) (fun i => (Φ.getD i SPred.any).st) (fun i o ho hi u ρ w1 hb hk => ?_) htail
  · have := growFr_put (a := a) (u := u) (v := v) hd hi
    rw [ho] at this
    exact this
  · have := growSteps_at hstep i o (by rw [List.getElem?_take, if_pos hi]; exact ho) u ρ w1 hb
    rw [Nat.zero_add] at this
    exact this hk
/-- The row of one that such a literal is. -/
theorem SPred.lit1_rd {b : Nat} {t : TypeId} {xs : List Int} {v : Value} {lo hi : Nat} {w : World} (h : (SPred.lit1 b t xs).φ v lo hi w) :
    v = .slice (some ⟨lo, 0, none⟩) 1 1 ∧ b ≤ lo ∧ lo < w.heap.size ∧ Rd wbT w (fun k => b ≤ k ∧ k < lo + 1) (some ⟨lo, 0, none⟩) 1 [xs] := by
  obtain ⟨e, h1, h2, A, c, h3, h4⟩ := h
  refine ⟨e, h1, blk_lt h3, by simp, by decide, fun j x hj => ?_⟩
  rcases j with _ | j
  · obtain rfl : xs = x := by simpa using hj
    refine ⟨_, [.slice A xs.length c], rfl, ⟨h1, Nat.lt_succ_self _⟩, ⟨A, c, rfl, h4.mono (fun k hk => ⟨hk.1, by omega⟩)⟩, fun i u hu => ?_⟩
    rcases i with _ | i
    · rw [add_plain, cellAt h3]; exact hu
    · simp at hu
  · simp at hj
end Go.Cb

/- Plain laws of words (bags), without Go: what the program's functions compute. -/
namespace Go.Cb

/-! ### numbers -/
def far : Int := 1152921504606846976
def okN (n : Int) : Bool := decide (0 ≤ n) && decide (n ≤ far)
def addN (a b : Int) : Int × Bool := if okN a = true ∧ okN b = true ∧ a + b ≤ far then (a + b, true) else (0, false)
def mulN (a b : Int) : Int × Bool := if okN a = true ∧ okN b = true ∧ a * b ≤ far then (a * b, true) else (0, false)
theorem okN_iff (n : Int) : okN n = true ↔ 0 ≤ n ∧ n ≤ far := by simp [okN]

/-! ### words -/
def rightB (b : List Int) : Bool := decide (b.length ≤ 12) && (b.getLast? != some 0) && b.all okN
def cutB (b : List Int) : List Int := (b.reverse.dropWhile (· == 0)).reverse
def normB (b : List Int) : List Int := if rightB (cutB b) then cutB b else []
def oneB (tag n : Int) : List Int := if 0 ≤ tag ∧ tag < 12 ∧ 1 ≤ n ∧ n ≤ far then List.replicate tag.toNat 0 ++ [n] else []

theorem all_snoc {α : Type} {p : α → Bool} {l : List α} {k : Nat} (hk : k < l.length) (h : ∀ x ∈ l.take k, p x = true) (hx : p l[k] = true) : ∀ x ∈ l.take (k + 1), p x = true := by
  intro x hm
  rw [List.take_succ_eq_append_getElem hk] at hm
  rcases List.mem_append.1 hm with hm | hm
  · exact h x hm
  · rw [List.mem_singleton.1 hm]; exact hx
theorem idx_no {α : Type} {p : α → Bool} {l : List α} {k : Nat} (hk : k < l.length) (hx : p l[k] = false) : decide (0 ≤ (k : Int)) = !l.all p := by
  have : l.all p = false := by
    rw [← Bool.not_eq_true, List.all_eq_true]
    intro h
    rw [h _ (List.getElem_mem hk)] at hx
    cases hx
  rw [this]; simp
theorem idx_yes {α : Type} {p : α → Bool} {l : List α} {k : Nat} (hk : l.length ≤ k) (h : ∀ x ∈ l.take k, p x = true) : decide (0 ≤ (-1 : Int)) = !l.all p := by
  rw [List.take_of_length_le hk] at h
  rw [List.all_eq_true.2 h]; rfl
theorem cut_snoc {l : List Int} {k : Nat} (h0 : 0 < k) (hk : k ≤ l.length) (hz : l[k - 1] = 0) (h : ∀ x ∈ l.drop k, x = 0) : ∀ x ∈ l.drop (k - 1), x = 0 := by
  intro x hx
  rw [List.drop_eq_getElem_cons (by omega)] at hx
  rcases List.mem_cons.1 hx with hx | hx
  · rw [hx]; exact hz
  · rw [show k - 1 + 1 = k from by omega] at hx
    exact h x hx
theorem cutB_eq {l : List Int} {k : Nat} (hk : k ≤ l.length) (h : ∀ x ∈ l.drop k, x = 0) (he : k = 0 ∨ ∃ h0 : 0 < k, l[k - 1] ≠ 0) : cutB l = l.take k := by
  have hsplit : l = l.take k ++ l.drop k := (List.take_append_drop k l).symm
  have hrev : l.reverse = (l.drop k).reverse ++ (l.take k).reverse := by
    conv => lhs; rw [hsplit]
    rw [List.reverse_append]
  unfold cutB
  rw [hrev, List.dropWhile_append_of_pos (by intro x hx; simpa using h x (List.mem_reverse.1 hx))]
  rcases he with rfl | ⟨h0, hne⟩
  · simp
  · have htk : l.take k = l.take (k - 1) ++ [l[k - 1]] := by
      have := List.take_succ_eq_append_getElem (l := l) (i := k - 1) (by omega)
      rwa [show k - 1 + 1 = k from by omega] at this
    rw [htk, List.reverse_append, List.reverse_singleton, List.singleton_append, List.dropWhile_cons_of_neg (by simpa using hne), List.reverse_cons, List.reverse_reverse]
theorem oneB_eq {t : Nat} {k : Int} (h1 : t < 12) (h2 : 1 ≤ k) (h3 : k ≤ 1152921504606846976) : oneB (t : Int) k = (List.replicate (t + 1) (0 : Int)).set t k := by
  unfold oneB far
  rw [if_pos (by omega), List.replicate_succ', List.set_append_right _ _ (by simp)]
  simp
theorem oneB_no {t k : Int} (h : ¬ (0 ≤ t ∧ t < 12 ∧ 1 ≤ k ∧ k ≤ 1152921504606846976)) : oneB t k = [] := by
  unfold oneB far
  rw [if_neg h]

/-! ### meters -/
def spendOk (b s : Int) (o : Bool) (n : Int) : Bool := !o && decide (max n 0 ≤ b - s)
def spendS (b s : Int) (o : Bool) (n : Int) : Int := if spendOk b s o n then s + max n 0 else s
def spendO (b s : Int) (o : Bool) (n : Int) : Bool := !spendOk b s o n
theorem spendS_range {b s : Int} (o : Bool) (n : Int) (h1 : s ≤ b) : s ≤ spendS b s o n ∧ spendS b s o n ≤ b := by
  unfold spendS
  split
  · rename_i h
    simp [spendOk] at h
    omega
  · omega
theorem none_snoc {α : Type} {p : α → Bool} {l : List α} {k : Nat} (hk : k < l.length) (h : ∀ x ∈ l.take k, p x = false) (hx : p l[k] = false) : ∀ x ∈ l.take (k + 1), p x = false := by
  intro x hm
  rw [List.take_succ_eq_append_getElem hk] at hm
  rcases List.mem_append.1 hm with hm | hm
  · exact h x hm
  · rw [List.mem_singleton.1 hm]; exact hx
theorem any_yes {α : Type} {p : α → Bool} {l : List α} {k : Nat} (hk : k < l.length) (hx : p l[k] = true) : decide (0 ≤ (k : Int)) = l.any p := by
  have : l.any p = true := List.any_eq_true.2 ⟨_, List.getElem_mem hk, hx⟩
  rw [this]; simp
theorem any_no {α : Type} {p : α → Bool} {l : List α} {k : Nat} (hk : l.length ≤ k) (h : ∀ x ∈ l.take k, p x = false) : decide (0 ≤ (-1 : Int)) = l.any p := by
  rw [List.take_of_length_le hk] at h
  have : l.any p = false := by
    rw [← Bool.not_eq_true, List.any_eq_true]
    rintro ⟨x, hx, h2⟩
    rw [h x hx] at h2; cases h2
  rw [this]; rfl
end Go.Cb

/- Plain laws of words: sums, differences, order. -/
namespace Go.Cb

def addP : List Int → List Int → List Int
  | [], b => b
  | a, [] => a
  | x :: a, y :: b => (x + y) :: addP a b
def subP : List Int → List Int → List Int
  | [], _ => []
  | a, [] => a
  | x :: a, y :: b => (x - y) :: subP a b
def leP : List Int → List Int → Bool
  | _, [] => true
  | [], _ :: _ => false
  | x :: a, y :: b => decide (y ≤ x) && leP a b
def addB (a b : List Int) : List Int × Bool := if rightB a = true ∧ rightB b = true ∧ (addP a b).all (fun n => decide (n ≤ far)) = true then (addP a b, true) else ([], false)
def subB (a b : List Int) : List Int × Bool := if rightB a = true ∧ rightB b = true ∧ leP a b = true then (cutB (subP a b), true) else ([], false)
def cmpI (a b : Int) : Int := if a < b then -1 else if b < a then 1 else 0
def cmpL : List Int → List Int → Int
  | [], [] => 0
  | [], _ :: _ => -1
  | _ :: _, [] => 1
  | x :: a, y :: b => if cmpI x y = 0 then cmpL a b else cmpI x y
def cmpB (a b : List Int) : Int := if rightB a = true ∧ rightB b = true then (if a.length = b.length then cmpL a b else cmpI a.length b.length) else 0
def totalB (b : List Int) : Int × Bool := if rightB b = true ∧ b.sum ≤ far then (b.sum, true) else (0, false)

theorem addP_nil (a : List Int) : addP a [] = a := by cases a <;> rfl
theorem addP_comm : ∀ a b : List Int, addP a b = addP b a
  | [], b => by rw [addP_nil]; rfl
  | a :: as, [] => rfl
  | x :: a, y :: b => by rw [addP, addP, addP_comm a b, Int.add_comm]
theorem addB_comm (a b : List Int) : addB a b = addB b a := by
  unfold addB
  rw [addP_comm a b]
  by_cases h : rightB a = true ∧ rightB b = true ∧ (addP b a).all (fun n => decide (n ≤ far)) = true
  · rw [if_pos h, if_pos ⟨h.2.1, h.1, h.2.2⟩]
  · rw [if_neg h, if_neg (fun h2 => h ⟨h2.2.1, h2.1, h2.2.2⟩)]
theorem addP_length : ∀ a b : List Int, (addP a b).length = max a.length b.length
  | [], b => by simp [addP]
  | x :: a, [] => by simp [addP]
  | x :: a, y :: b => by simp [addP, addP_length a b]
theorem addP_get : ∀ (a b : List Int) (i : Nat), (addP a b).getD i 0 = a.getD i 0 + b.getD i 0
  | [], b, i => by simp [addP]
  | x :: a, [], i => by simp [addP]
  | x :: a, y :: b, 0 => by simp [addP]
  | x :: a, y :: b, i + 1 => by simpa [addP] using addP_get a b i
theorem list_ext {a b : List Int} (hl : a.length = b.length) (h : ∀ i, i < a.length → a.getD i 0 = b.getD i 0) : a = b := by
  apply List.ext_getElem hl
  intro i h1 h2
  have := h i h1
  rw [List.getD_eq_getElem?_getD, List.getD_eq_getElem?_getD, List.getElem?_eq_getElem h1, List.getElem?_eq_getElem h2] at this
  exact this
theorem getD_of {l : List Int} {k : Nat} (h : k < l.length) : l.getD k 0 = l[k] := by rw [List.getD_eq_getElem?_getD, List.getElem?_eq_getElem h]; rfl
theorem getD_out {l : List Int} {k : Nat} (h : l.length ≤ k) : l.getD k 0 = 0 := by rw [List.getD_eq_getElem?_getD, List.getElem?_eq_none h]; rfl
theorem getD_take (l : List Int) (k i : Nat) : (l.take k).getD i 0 = if i < k then l.getD i 0 else 0 := by
  rw [List.getD_eq_getElem?_getD, List.getElem?_take]
  split
  · rw [List.getD_eq_getElem?_getD]
  · rfl
theorem getD_set (l : List Int) (k i : Nat) (x : Int) (hk : k < l.length) : (l.set k x).getD i 0 = if i = k then x else l.getD i 0 := by
  rw [List.getD_eq_getElem?_getD, List.getElem?_set, List.getD_eq_getElem?_getD]
  by_cases h : k = i
  · rw [if_pos h, if_pos h.symm, if_pos (by omega)]; rfl
  · rw [if_neg h, if_neg (fun e => h e.symm)]
theorem addP_step {a b : List Int} {k : Nat} (hk : k < b.length) (hl : b.length ≤ a.length) : addP a (b.take (k + 1)) = (addP a (b.take k)).set k (a[k] + b[k]) := by
  apply list_ext
  · rw [List.length_set, addP_length, addP_length, List.length_take, List.length_take]; omega
  · intro i hi
    rw [addP_length, List.length_take] at hi
    rw [getD_set _ _ _ _ (by rw [addP_length]; omega), addP_get, addP_get, getD_take, getD_take]
    by_cases h : i = k
    · subst h; rw [if_pos (by omega), if_pos rfl, getD_of (by omega), getD_of hk]
    · rw [if_neg h]
      by_cases h2 : i < k
      · rw [if_pos (by omega), if_pos h2]
      · rw [if_neg (by omega), if_neg h2]
theorem right_ok {b : List Int} (h : rightB b = true) : ∀ x ∈ b, 0 ≤ x ∧ x ≤ far := by
  unfold rightB at h
  simp only [Bool.and_eq_true, List.all_eq_true] at h
  exact fun x hx => (okN_iff _).1 (h.2 _ hx)
theorem right_len {b : List Int} (h : rightB b = true) : b.length ≤ 12 := by
  unfold rightB at h
  simp only [Bool.and_eq_true] at h
  exact of_decide_eq_true h.1.1
/-- What the loop of sums comes to. -/
theorem addB_yes {a b : List Int} (ha : rightB a = true) (hb : rightB b = true) (hl : b.length ≤ a.length) (h : ∀ i, i < b.length → a.getD i 0 + b.getD i 0 ≤ far) : addB a b = (addP a b, true) := by
  have hall : (addP a b).all (fun n => decide (n ≤ far)) = true := by
    rw [List.all_eq_true]
    intro x hx
    obtain ⟨i, hi, rfl⟩ := List.getElem_of_mem hx
    have hm : i < a.length := by rw [addP_length] at hi; omega
    have h2 : (addP a b)[i] = a.getD i 0 + b.getD i 0 := by rw [← addP_get, getD_of hi]
    rw [h2]
    apply decide_eq_true
    by_cases hib : i < b.length
    · exact h i hib
    · rw [getD_out (l := b) (by omega), Int.add_zero, getD_of hm]
      exact (right_ok ha _ (List.getElem_mem hm)).2
  unfold addB
  rw [if_pos ⟨ha, hb, hall⟩]
theorem addB_no {a b : List Int} {i : Nat} (h : far < a.getD i 0 + b.getD i 0) : addB a b = ([], false) := by
  unfold addB
  rw [if_neg]
  rintro ⟨_, _, h3⟩
  rw [List.all_eq_true] at h3
  have hi : i < (addP a b).length := by
    rw [addP_length]
    rcases Nat.lt_or_ge i (max a.length b.length) with h4 | h4
    · exact h4
    · rw [getD_out (by omega), getD_out (by omega)] at h
      simp [far] at h
  have := of_decide_eq_true (h3 _ (List.getElem_mem hi))
  rw [← getD_of hi, addP_get] at this
  omega

/-! ### order -/
theorem cmpI_self (a : Int) : cmpI a a = 0 := by unfold cmpI; simp
theorem cmpI_lt {a b : Int} (h : a < b) : cmpI a b = -1 := by unfold cmpI; rw [if_pos h]
theorem cmpI_gt {a b : Int} (h : b < a) : cmpI a b = 1 := by unfold cmpI; rw [if_neg (by omega), if_pos h]
theorem cmpI_zero {a b : Int} : cmpI a b = 0 ↔ a = b := by
  unfold cmpI
  split
  · omega
  · split <;> omega
theorem cmpL_drop : ∀ (k : Nat) (a b : List Int), k ≤ a.length → k ≤ b.length → (∀ i, i < k → a.getD i 0 = b.getD i 0) → cmpL a b = cmpL (a.drop k) (b.drop k)
  | 0, a, b, _, _, _ => by simp
  | k + 1, [], b, h, _, _ => by simp at h
  | k + 1, a :: as, [], _, h, _ => by simp at h
  | k + 1, x :: a, y :: b, h1, h2, h => by
    have h0 := h 0 (by omega)
    simp at h0
    subst h0
    rw [cmpL, cmpI_self, if_pos rfl]
    exact cmpL_drop k a b (by simpa using h1) (by simpa using h2) (fun i hi => by simpa using h (i + 1) (by omega))
theorem cmpL_at {a b : List Int} {k : Nat} (h1 : k < a.length) (h2 : k < b.length) (h : ∀ i, i < k → a.getD i 0 = b.getD i 0) (hne : a[k] ≠ b[k]) : cmpL a b = cmpI a[k] b[k] := by
  rw [cmpL_drop k a b (by omega) (by omega) h, List.drop_eq_getElem_cons h1, List.drop_eq_getElem_cons h2, cmpL, if_neg (fun e => hne (cmpI_zero.1 e))]
theorem cmpL_short {a b : List Int} (h1 : a.length < b.length) (h : ∀ i, i < a.length → a.getD i 0 = b.getD i 0) : cmpL a b = -1 := by
  rw [cmpL_drop a.length a b (by omega) (by omega) h, List.drop_length, List.drop_eq_getElem_cons h1]; rfl
theorem cmpL_long {a b : List Int} (h1 : b.length < a.length) (h : ∀ i, i < b.length → a.getD i 0 = b.getD i 0) : cmpL a b = 1 := by
  rw [cmpL_drop b.length a b (by omega) (by omega) h, List.drop_length, List.drop_eq_getElem_cons h1]; rfl
theorem cmpL_same {a b : List Int} (h1 : a.length = b.length) (h : ∀ i, i < a.length → a.getD i 0 = b.getD i 0) : cmpL a b = 0 := by
  rw [cmpL_drop a.length a b (by omega) (by omega) h, List.drop_length, h1, List.drop_length]; rfl
theorem agree_snoc {a b : List Int} {k : Nat} (h1 : k < a.length) (h2 : k < b.length) (h : ∀ i, i < k → a.getD i 0 = b.getD i 0) (he : a[k] = b[k]) : ∀ i, i < k + 1 → a.getD i 0 = b.getD i 0 := by
  intro i hi
  by_cases hik : i < k
  · exact h i hik
  · obtain rfl : i = k := by omega
    rw [getD_of h1, getD_of h2, he]

/-! ### totals -/
theorem sum_take {b : List Int} {k : Nat} (h : k < b.length) : (b.take (k + 1)).sum = (b.take k).sum + b[k] := by
  rw [List.take_succ_eq_append_getElem h, List.sum_append]; simp
theorem sum_nonneg : ∀ {b : List Int}, (∀ x ∈ b, 0 ≤ x) → 0 ≤ b.sum
  | [], _ => by simp
  | x :: b, h => by
    rw [List.sum_cons]
    have := h x List.mem_cons_self
    have := sum_nonneg (b := b) (fun y hy => h y (List.mem_cons_of_mem _ hy))
    omega
theorem sum_take_le {b : List Int} (h : ∀ x ∈ b, 0 ≤ x) (k : Nat) : (b.take k).sum ≤ b.sum := by
  have h1 : b.sum = (b.take k).sum + (b.drop k).sum := by rw [← List.sum_append, List.take_append_drop]
  have h2 := sum_nonneg (b := b.drop k) (fun x hx => h x (List.mem_of_mem_drop hx))
  omega

/-! ### differences -/
theorem subP_length : ∀ a b : List Int, b.length ≤ a.length → (subP a b).length = a.length
  | [], b, _ => by simp [subP]
  | x :: a, [], _ => by simp [subP]
  | x :: a, y :: b, h => by simp [subP, subP_length a b (by simpa using h)]
theorem subP_get : ∀ (a b : List Int), b.length ≤ a.length → ∀ i, (subP a b).getD i 0 = a.getD i 0 - b.getD i 0
  | [], b, h, i => by
    have : b = [] := List.eq_nil_of_length_eq_zero (by simpa using h)
    subst this; simp [subP]
  | x :: a, [], _, i => by simp [subP]
  | x :: a, y :: b, _, 0 => by simp [subP]
  | x :: a, y :: b, h, i + 1 => by simpa [subP] using subP_get a b (by simpa using h) i
theorem leP_iff : ∀ (a b : List Int), leP a b = true ↔ b.length ≤ a.length ∧ ∀ i, i < b.length → b.getD i 0 ≤ a.getD i 0
  | a, [] => by simp [leP]
  | [], y :: b => by simp [leP]
  | x :: a, y :: b => by
    simp only [leP, Bool.and_eq_true, decide_eq_true_eq, leP_iff a b, List.length_cons]
    constructor
    · rintro ⟨h1, h2, h3⟩
      refine ⟨by omega, fun i hi => ?_⟩
      cases i with
      | zero => simpa using h1
      | succ i => simpa using h3 i (by omega)
    · rintro ⟨h1, h2⟩
      exact ⟨by simpa using h2 0 (by omega), by omega, fun i hi => by simpa using h2 (i + 1) (by omega)⟩
theorem subP_nil (a : List Int) : subP a [] = a := by cases a <;> rfl
theorem subP_step {a b : List Int} {k : Nat} (hk : k < b.length) (hl : b.length ≤ a.length) : subP a (b.take (k + 1)) = (subP a (b.take k)).set k (a[k] - b[k]) := by
  have e1 : (b.take (k + 1)).length ≤ a.length := by rw [List.length_take]; omega
  have e2 : (b.take k).length ≤ a.length := by rw [List.length_take]; omega
  apply list_ext
  · rw [List.length_set, subP_length _ _ e1, subP_length _ _ e2]
  · intro i hi
    rw [getD_set _ _ _ _ (by rw [subP_length _ _ e2]; omega), subP_get _ _ e1, subP_get _ _ e2, getD_take, getD_take]
    by_cases h : i = k
    · subst h; rw [if_pos (by omega), if_pos rfl, getD_of (by omega), getD_of hk]
    · rw [if_neg h]
      by_cases h2 : i < k
      · rw [if_pos (by omega), if_pos h2]
      · rw [if_neg (by omega), if_neg h2]
theorem subP_at {a b : List Int} {k : Nat} (hk : k < a.length) (hb : k < b.length) (hl : b.length ≤ a.length) (h : k < (subP a (b.take k)).length) : (subP a (b.take k))[k] = a[k] := by
  have e2 : (b.take k).length ≤ a.length := by rw [List.length_take]; omega
  rw [← getD_of h, subP_get _ _ e2, getD_take, if_neg (by omega), getD_of hk]; omega
theorem subB_no {a b : List Int} (h : leP a b = false) : subB a b = ([], false) := by
  unfold subB; rw [if_neg (by simp [h])]
theorem subB_yes {a b : List Int} (ha : rightB a = true) (hb : rightB b = true) (h : leP a b = true) : subB a b = (cutB (subP a b), true) := by
  unfold subB; rw [if_pos ⟨ha, hb, h⟩]
/-- A word without its noughts is right, if its numbers are. -/
theorem cutB_sub (l : List Int) : ∃ k, k ≤ l.length ∧ cutB l = l.take k ∧ (k = 0 ∨ l.getD (k - 1) 0 ≠ 0) := by
  induction hn : l.length generalizing l with
  | zero =>
    have : l = [] := List.eq_nil_of_length_eq_zero hn
    subst this
    exact ⟨0, by simp, rfl, .inl rfl⟩
  | succ n ih =>
    by_cases hz : l[n]'(by omega) = 0
    · obtain ⟨k, hk, hc, he⟩ := ih (l.take n) (by rw [List.length_take]; omega)
      have hlt : l.take n ++ [0] = l := by
        have := List.take_succ_eq_append_getElem (l := l) (i := n) (by omega)
        rw [hz, List.take_of_length_le (by omega)] at this
        exact this.symm
      have hcut : cutB l = cutB (l.take n) := by
        conv => lhs; rw [← hlt]
        unfold cutB
        rw [List.reverse_append, List.reverse_singleton, List.singleton_append, List.dropWhile_cons_of_pos (by rfl)]
      refine ⟨k, by omega, ?_, ?_⟩
      · rw [hcut, hc, List.take_take]; congr 1; omega
      · rcases he with he | he
        · exact .inl he
        · rw [getD_take] at he
          split at he
          · exact .inr he
          · exact absurd rfl he
    · refine ⟨n + 1, by omega, ?_, .inr (by rw [show n + 1 - 1 = n from rfl, getD_of (by omega)]; exact hz)⟩
      exact cutB_eq (by omega) (by intro x hx; rw [List.drop_of_length_le (by omega)] at hx; cases hx) (.inr ⟨by omega, hz⟩)
theorem cutB_right {l : List Int} (hl : l.length ≤ 12) (h : ∀ x ∈ l, 0 ≤ x ∧ x ≤ far) : rightB (cutB l) = true := by
  obtain ⟨k, hk, hc, he⟩ := cutB_sub l
  rw [hc]
  unfold rightB
  simp only [Bool.and_eq_true, List.all_eq_true]
  refine ⟨⟨decide_eq_true (by rw [List.length_take]; omega), ?_⟩, fun x hx => (okN_iff x).2 (h x (List.mem_of_mem_take hx))⟩
  rcases he with rfl | h2
  · simp
  · by_cases hk0 : k = 0
    · subst hk0; simp
    · rw [getD_of (by omega)] at h2
      rw [List.getLast?_eq_getElem?, List.length_take, Nat.min_eq_left hk, List.getElem?_take, if_pos (by omega), List.getElem?_eq_getElem (by omega)]
      simpa using h2
theorem normB_eq {l : List Int} (hl : l.length ≤ 12) (h : ∀ x ∈ l, 0 ≤ x ∧ x ≤ far) : normB l = cutB l := by
  unfold normB; rw [if_pos (cutB_right hl h)]
theorem rightB_bad {l : List Int} {k : Nat} (hk : k < l.length) (hok : okN l[k] = false) : rightB l = false := by
  unfold rightB
  have : l.all okN = false := by
    rw [← Bool.not_eq_true, List.all_eq_true]
    intro h
    rw [h _ (List.getElem_mem hk)] at hok
    cases hok
  rw [this, Bool.and_false]
theorem totalB_yes {b : List Int} (h : rightB b = true) (hs : b.sum ≤ far) : totalB b = (b.sum, true) := by unfold totalB; rw [if_pos ⟨h, hs⟩]
theorem totalB_no {b : List Int} {k : Nat} (hr : rightB b = true) (hk : k < b.length) (hs : ¬ (b.take k).sum + b[k] ≤ far) : totalB b = (0, false) := by
  unfold totalB
  rw [if_neg]
  rintro ⟨_, h2⟩
  rw [← sum_take hk] at hs
  have := sum_take_le (b := b) (fun x hx => (right_ok hr x hx).1) (k + 1)
  omega

/-! ### what the statements' own helps make -/
def withinI (v n : Int) : Int := if n < 1 then 0 else v % n
theorem withinI_range {v n : Int} (h : 1 ≤ n) : 0 ≤ withinI v n ∧ withinI v n < n := by
  unfold withinI
  rw [if_neg (by omega)]
  exact ⟨Int.emod_nonneg _ (by omega), Int.emod_lt_of_pos _ (by omega)⟩
theorem tmod_neg {v n : Int} (hv : v < 0) : v.tmod n = -((-v) % n) := by
  have h1 : (-v).tmod n = (-v) % n := Int.tmod_eq_emod_of_nonneg (by omega)
  have h2 : (-v).tmod n = -(v.tmod n) := Int.neg_tmod v n
  omega
theorem emod_neg2 {v n : Int} (hn : 1 ≤ n) : ((-v) % n = 0 → v % n = 0) ∧ (0 < (-v) % n → v % n = n - (-v) % n) := by
  have h := Int.neg_emod (a := -v) (b := n)
  rw [Int.neg_neg] at h
  by_cases hd : n ∣ -v
  · rw [if_pos hd] at h
    have := Int.emod_eq_zero_of_dvd hd
    omega
  · rw [if_neg hd] at h
    have h3 : (n.natAbs : Int) = n := by omega
    constructor
    · intro h0; exact absurd (Int.dvd_of_emod_eq_zero h0) hd
    · intro _; omega
theorem withinI_neg {v n : Int} (hn : 1 ≤ n) (hv : v < 0) : v.tmod n ≤ 0 ∧ -n < v.tmod n ∧ (v.tmod n < 0 → v.tmod n + n = withinI v n) ∧ (¬ v.tmod n < 0 → v.tmod n = withinI v n) := by
  have e := tmod_neg (n := n) hv
  have h0 := Int.emod_nonneg (-v) (b := n) (by omega)
  have h1 := Int.emod_lt_of_pos (-v) (b := n) (by omega)
  have h2 := emod_neg2 (v := v) hn
  unfold withinI
  rw [if_neg (by omega), e]
  omega
def playN (n : Int) : Int := if 0 ≤ n ∧ n % 11 = 10 then withinI n 40 else withinI n 4
def playBag (l : List Int) : List Int := normB ((List.range 4).map fun i => playN (l.getD i 0))
theorem playN_range (n : Int) : 0 ≤ playN n ∧ playN n < 40 := by
  unfold playN
  split
  · exact withinI_range (by omega)
  · have := withinI_range (v := n) (n := 4) (by omega); omega
def playF (l : List Int) (k : Nat) : List Int := (List.range 4).map fun i => if i < k then playN (l.getD i 0) else 0
theorem playF_len (l : List Int) (k : Nat) : (playF l k).length = 4 := by simp [playF]
theorem playF_zero (l : List Int) : playF l 0 = List.replicate 4 0 := by simp [playF, List.range_succ]
theorem playF_four (l : List Int) : playF l 4 = (List.range 4).map fun i => playN (l.getD i 0) := by simp [playF, List.range_succ]
theorem playF_step (l : List Int) {k : Nat} (hk : k < 4) : (playF l k).set k (playN (l.getD k 0)) = playF l (k + 1) := by
  apply list_ext
  · rw [List.length_set, playF_len, playF_len]
  · intro i hi
    rw [List.length_set, playF_len] at hi
    rw [getD_set _ _ _ _ (by rw [playF_len]; exact hk)]
    have e : ∀ k, (playF l k).getD i 0 = if i < k then playN (l.getD i 0) else 0 := by
      intro k
      rw [getD_of (by rw [playF_len]; exact hi)]
      simp [playF]
    rw [e, e]
    by_cases h : i = k
    · subst h; rw [if_pos rfl, if_pos (by omega)]
    · rw [if_neg h]
      by_cases h2 : i < k
      · rw [if_pos h2, if_pos (by omega)]
      · rw [if_neg h2, if_neg (by omega)]
theorem normB_sub {a b : List Int} (ha : rightB a = true) (hb : rightB b = true) (hl : b.length ≤ a.length) (h : ∀ i, i < b.length → b.getD i 0 ≤ a.getD i 0) : normB (subP a b) = cutB (subP a b) := by
  apply normB_eq
  · rw [subP_length _ _ hl]; exact right_len ha
  · intro x hx
    obtain ⟨i, hi, rfl⟩ := List.getElem_of_mem hx
    have hia : i < a.length := by rw [subP_length _ _ hl] at hi; exact hi
    rw [← getD_of hi, subP_get _ _ hl]
    have h1 := right_ok ha _ (List.getElem_mem hia)
    rw [← getD_of hia] at h1
    by_cases hib : i < b.length
    · have h2 := right_ok hb _ (List.getElem_mem hib)
      rw [← getD_of hib] at h2
      have := h i hib
      omega
    · rw [getD_out (l := b) (by omega)]; omega
end Go.Cb

/- Plain laws of words: the document's sums, made place by place. -/
namespace Go.Cb
def addF (L : Nat) (a b : List Int) (k : Nat) : List Int := (List.range L).map fun i => if i < k then a.getD i 0 + b.getD i 0 else 0
theorem addF_len (L : Nat) (a b : List Int) (k : Nat) : (addF L a b k).length = L := by simp [addF]
theorem addF_get {L : Nat} (a b : List Int) (k : Nat) {i : Nat} (hi : i < L) : (addF L a b k).getD i 0 = if i < k then a.getD i 0 + b.getD i 0 else 0 := by
  rw [getD_of (by rw [addF_len]; exact hi)]
  simp [addF]
theorem addF_zero (L : Nat) (a b : List Int) : addF L a b 0 = List.replicate L 0 := by
  apply list_ext
  · rw [addF_len, List.length_replicate]
  · intro i hi
    rw [addF_len] at hi
    rw [addF_get a b 0 hi, getD_of (l := List.replicate L 0) (by rw [List.length_replicate]; exact hi)]
    simp
theorem addF_full (a b : List Int) {L : Nat} (hL : L = max a.length b.length) : addF L a b L = addP a b := by
  apply list_ext
  · rw [addF_len, addP_length, hL]
  · intro i hi
    rw [addF_len] at hi
    rw [addF_get a b L hi, addP_get, if_pos hi]
theorem addF_step {L : Nat} (a b : List Int) {k : Nat} (hk : k < L) : (addF L a b k).set k (a.getD k 0 + b.getD k 0) = addF L a b (k + 1) := by
  apply list_ext
  · rw [List.length_set, addF_len, addF_len]
  · intro i hi
    rw [List.length_set, addF_len] at hi
    rw [getD_set _ _ _ _ (by rw [addF_len]; exact hk), addF_get _ _ _ hi, addF_get _ _ _ hi]
    by_cases h : i = k
    · subst h; rw [if_pos rfl, if_pos (by omega)]
    · rw [if_neg h]
      by_cases h2 : i < k
      · rw [if_pos h2, if_pos (by omega)]
      · rw [if_neg h2, if_neg (by omega)]
theorem addB_all {a b : List Int} (ha : rightB a = true) (hb : rightB b = true) (h : ∀ i, i < max a.length b.length → a.getD i 0 + b.getD i 0 ≤ far) : addB a b = (addP a b, true) := by
  by_cases hl : b.length ≤ a.length
  · exact addB_yes ha hb hl (fun i hi => h i (by omega))
  · rw [addB_comm, addP_comm]
    exact addB_yes hb ha (by omega) (fun i hi => by rw [Int.add_comm]; exact h i (by omega))
theorem right_getD {b : List Int} (h : rightB b = true) (i : Nat) : 0 ≤ b.getD i 0 ∧ b.getD i 0 ≤ far := by
  by_cases hi : i < b.length
  · rw [getD_of hi]; exact right_ok h _ (List.getElem_mem hi)
  · rw [getD_out (by omega)]; simp [far]
end Go.Cb

/- Plain laws of words: their order; sums and differences belong together. -/
namespace Go.Cb

/-! ### order -/
theorem cmpI_neg (a b : Int) : cmpI b a = -cmpI a b := by
  unfold cmpI
  by_cases h1 : a < b
  · rw [if_pos h1, if_neg (by omega), if_pos h1]; rfl
  · by_cases h2 : b < a
    · rw [if_pos h2, if_neg h1, if_pos h2]
    · rw [if_neg h2, if_neg h1, if_neg h1, if_neg h2]; rfl
theorem cmpI_range (a b : Int) : -1 ≤ cmpI a b ∧ cmpI a b ≤ 1 := by
  unfold cmpI
  split
  · omega
  · split <;> omega
theorem cmpI_le {a b : Int} : cmpI a b ≤ 0 ↔ a ≤ b := by
  unfold cmpI
  split
  · omega
  · split <;> omega
theorem cmpI_neg1 {a b : Int} : cmpI a b = -1 ↔ a < b := by
  unfold cmpI
  split
  · omega
  · split <;> omega
theorem cmpL_neg : ∀ a b : List Int, cmpL b a = -cmpL a b
  | [], [] => rfl
  | [], _ :: _ => rfl
  | _ :: _, [] => rfl
  | x :: a, y :: b => by
    rw [cmpL, cmpL, cmpI_neg x y, cmpL_neg a b]
    by_cases h : cmpI x y = 0
    · rw [if_pos h, if_pos (by omega)]
    · rw [if_neg h, if_neg (by omega)]
theorem cmpL_range : ∀ a b : List Int, -1 ≤ cmpL a b ∧ cmpL a b ≤ 1
  | [], [] => by simp [cmpL]
  | [], _ :: _ => by simp [cmpL]
  | _ :: _, [] => by simp [cmpL]
  | x :: a, y :: b => by
    rw [cmpL]
    split
    · exact cmpL_range a b
    · exact cmpI_range x y
theorem cmpL_zero : ∀ {a b : List Int}, cmpL a b = 0 ↔ a = b
  | [], [] => by simp [cmpL]
  | [], _ :: _ => by simp [cmpL]
  | _ :: _, [] => by simp [cmpL]
  | x :: a, y :: b => by
    rw [cmpL]
    by_cases h : cmpI x y = 0
    · rw [if_pos h, cmpL_zero, cmpI_zero.1 h]; simp
    · rw [if_neg h]
      constructor
      · intro h2; exact absurd h2 h
      · intro h2; injection h2 with h2 _; exact absurd (cmpI_zero.2 h2) h
theorem cmpL_trans : ∀ {a b c : List Int}, cmpL a b ≤ 0 → cmpL b c ≤ 0 → cmpL a c ≤ 0
  | [], _, [] => by intros; simp [cmpL]
  | [], _, _ :: _ => by intros; simp [cmpL]
  | _ :: _, [], _ => by intro h; simp [cmpL] at h
  | _ :: _, _ :: _, [] => by intro _ h; simp [cmpL] at h
  | x :: a, y :: b, z :: c => by
    rw [cmpL, cmpL, cmpL]
    intro h1 h2
    by_cases hxy : cmpI x y = 0
    · rw [if_pos hxy] at h1
      obtain rfl := cmpI_zero.1 hxy
      by_cases hyz : cmpI x z = 0
      · rw [if_pos hyz] at h2 ⊢
        exact cmpL_trans h1 h2
      · rw [if_neg hyz] at h2 ⊢
        exact h2
    · rw [if_neg hxy] at h1
      have h3 := cmpI_le.1 h1
      have h4 : x ≠ y := fun e => hxy (cmpI_zero.2 e)
      by_cases hyz : cmpI y z = 0
      · obtain rfl := cmpI_zero.1 hyz
        rw [if_neg hxy]; exact h1
      · rw [if_neg hyz] at h2
        have h5 := cmpI_le.1 h2
        have h6 : y ≠ z := fun e => hyz (cmpI_zero.2 e)
        rw [if_neg (fun e => by have := cmpI_zero.1 e; omega)]
        exact cmpI_le.2 (by omega)
theorem cmpB_right {a b : List Int} (ha : rightB a = true) (hb : rightB b = true) : cmpB a b = if a.length = b.length then cmpL a b else cmpI a.length b.length := by
  unfold cmpB; rw [if_pos ⟨ha, hb⟩]
theorem cmpB_neg (a b : List Int) : cmpB b a = -cmpB a b := by
  unfold cmpB
  by_cases h : rightB a = true ∧ rightB b = true
  · rw [if_pos h, if_pos ⟨h.2, h.1⟩]
    by_cases hl : a.length = b.length
    · rw [if_pos hl, if_pos hl.symm, cmpL_neg]
    · rw [if_neg hl, if_neg (fun e => hl e.symm), cmpI_neg]
  · rw [if_neg h, if_neg (fun h2 => h ⟨h2.2, h2.1⟩)]; rfl
theorem cmpB_range (a b : List Int) : -1 ≤ cmpB a b ∧ cmpB a b ≤ 1 := by
  unfold cmpB
  split
  · split
    · exact cmpL_range a b
    · exact cmpI_range _ _
  · omega
theorem cmpB_zero {a b : List Int} (ha : rightB a = true) (hb : rightB b = true) : cmpB a b = 0 ↔ a = b := by
  rw [cmpB_right ha hb]
  by_cases hl : a.length = b.length
  · rw [if_pos hl]; exact cmpL_zero
  · rw [if_neg hl]
    constructor
    · intro h; have := cmpI_zero.1 h; omega
    · intro h; exact absurd (by rw [h]) hl
theorem cmpB_trans {a b c : List Int} (ha : rightB a = true) (hb : rightB b = true) (hc : rightB c = true) (h1 : cmpB a b ≤ 0) (h2 : cmpB b c ≤ 0) : cmpB a c ≤ 0 := by
  rw [cmpB_right ha hb] at h1
  rw [cmpB_right hb hc] at h2
  rw [cmpB_right ha hc]
  by_cases h3 : a.length = b.length
  · rw [if_pos h3] at h1
    by_cases h4 : b.length = c.length
    · rw [if_pos h4] at h2
      rw [if_pos (h3.trans h4)]
      exact cmpL_trans h1 h2
    · rw [if_neg h4] at h2
      rw [if_neg (by omega), h3]; exact h2
  · rw [if_neg h3] at h1
    have h5 := cmpI_le.1 h1
    by_cases h4 : b.length = c.length
    · rw [if_neg (by omega), ← h4]; exact h1
    · rw [if_neg h4] at h2
      have h6 := cmpI_le.1 h2
      rw [if_neg (by omega)]
      exact cmpI_le.2 (by omega)
theorem cmpB_len {a b : List Int} (ha : rightB a = true) (hb : rightB b = true) (hl : a.length ≠ b.length) : (cmpB a b < 0 ↔ a.length < b.length) := by
  rw [cmpB_right ha hb, if_neg hl]
  have h1 := cmpI_neg1 (a := (a.length : Int)) (b := b.length)
  have h2 := cmpI_range (a.length : Int) b.length
  constructor
  · intro h; have := h1.1 (by omega); omega
  · intro h; have := h1.2 (by omega); omega

/-! ### words that are made -/
theorem oneB_right (tag n : Int) : rightB (oneB tag n) = true := by
  unfold oneB
  split
  · rename_i h
    unfold rightB
    simp only [Bool.and_eq_true, List.all_eq_true]
    refine ⟨⟨decide_eq_true (by simp; omega), ?_⟩, ?_⟩
    · rw [List.getLast?_concat]
      have : n ≠ 0 := by omega
      simpa using this
    · intro x hx
      rcases List.mem_append.1 hx with hx | hx
      · rw [(List.mem_replicate.1 hx).2]; exact (okN_iff 0).2 (by simp [far])
      · rw [List.mem_singleton.1 hx]; exact (okN_iff n).2 ⟨by omega, h.2.2.2⟩
  · rfl
theorem normB_right (l : List Int) : rightB (normB l) = true := by
  unfold normB
  split
  · assumption
  · rfl
theorem playList_ok (l : List Int) : ∀ x ∈ (List.range 4).map (fun i => playN (l.getD i 0)), 0 ≤ x ∧ x < 40 := by
  intro x hx
  obtain ⟨i, _, rfl⟩ := List.mem_map.1 hx
  exact playN_range _
theorem playBag_right (l : List Int) : rightB (playBag l) = true := normB_right _
theorem playBag_eq (l : List Int) : playBag l = cutB ((List.range 4).map fun i => playN (l.getD i 0)) :=
  normB_eq (by simp) (fun x hx => by have := playList_ok l x hx; unfold far; omega)
theorem cutB_mem {l : List Int} {x : Int} (h : x ∈ cutB l) : x ∈ l := by
  obtain ⟨k, _, hc, _⟩ := cutB_sub l
  rw [hc] at h
  exact List.mem_of_mem_take h
theorem playBag_small (l : List Int) : ∀ x ∈ playBag l, 0 ≤ x ∧ x < 40 := by
  intro x hx
  rw [playBag_eq] at hx
  exact playList_ok l x (cutB_mem hx)
theorem cutB_length (l : List Int) : (cutB l).length ≤ l.length := by
  obtain ⟨k, hk, hc, _⟩ := cutB_sub l
  rw [hc, List.length_take]; omega
theorem playBag_len (l : List Int) : (playBag l).length ≤ 4 := by
  rw [playBag_eq]
  refine Nat.le_trans (cutB_length _) ?_
  simp

/-! ### what is cut of noughts is told by its places -/
theorem cutB_getD (l : List Int) (i : Nat) : (cutB l).getD i 0 = l.getD i 0 := by
  induction hn : l.length generalizing l with
  | zero =>
    have : l = [] := List.eq_nil_of_length_eq_zero hn
    subst this; rfl
  | succ n ih =>
    by_cases hz : l[n]'(by omega) = 0
    · have hlt : l.take n ++ [0] = l := by
        have := List.take_succ_eq_append_getElem (l := l) (i := n) (by omega)
        rw [hz, List.take_of_length_le (by omega)] at this
        exact this.symm
      have hcut : cutB l = cutB (l.take n) := by
        conv => lhs; rw [← hlt]
        unfold cutB
        rw [List.reverse_append, List.reverse_singleton, List.singleton_append, List.dropWhile_cons_of_pos (by rfl)]
      rw [hcut, ih (l.take n) (by rw [List.length_take]; omega), getD_take]
      split
      · rfl
      · by_cases h2 : i = n
        · subst h2; rw [getD_of (by omega), hz]
        · rw [getD_out (by omega)]
    · have : cutB l = l := by
        rw [cutB_eq (k := n + 1) (by omega) (by intro x hx; rw [List.drop_of_length_le (by omega)] at hx; cases hx) (.inr ⟨by omega, hz⟩), List.take_of_length_le (by omega)]
      rw [this]
/-- Two right words with the same numbers are one. -/
theorem right_ext {a b : List Int} (ha : rightB a = true) (hb : rightB b = true) (h : ∀ i, a.getD i 0 = b.getD i 0) : a = b := by
  have key : ∀ {a b : List Int}, rightB b = true → (∀ i, a.getD i 0 = b.getD i 0) → b.length ≤ a.length := by
    intro a b hb h
    rcases Nat.lt_or_ge a.length b.length with hl | hl
    · exfalso
      unfold rightB at hb
      simp only [Bool.and_eq_true] at hb
      have h2 := hb.1.2
      rw [List.getLast?_eq_getElem?, List.getElem?_eq_getElem (by omega)] at h2
      have h3 := h (b.length - 1)
      rw [getD_out (by omega), getD_of (by omega)] at h3
      rw [← h3] at h2
      simp at h2
    · exact hl
  have h1 := key hb h
  have h2 := key ha (fun i => (h i).symm)
  exact list_ext (by omega) (fun i _ => h i)
theorem addB_right {a b : List Int} (h : (addB a b).2 = true) : rightB (addB a b).1 = true := by
  unfold addB at *
  split at h
  · rename_i hc
    obtain ⟨ha, hb, hall⟩ := hc
    rw [if_pos ⟨ha, hb, hall⟩]
    show rightB (addP a b) = true
    unfold rightB
    simp only [Bool.and_eq_true, List.all_eq_true]
    have la := right_len ha
    have lb := right_len hb
    refine ⟨⟨decide_eq_true (by rw [addP_length]; omega), ?_⟩, fun x hx => ?_⟩
    · by_cases h0 : max a.length b.length = 0
      · have h1 : addP a b = [] := List.eq_nil_of_length_eq_zero (by rw [addP_length]; exact h0)
        rw [h1]; rfl
      · rw [List.getLast?_eq_getElem?, List.getElem?_eq_getElem (by rw [addP_length]; omega)]
        have hlt : (addP a b).length - 1 < (addP a b).length := by rw [addP_length]; omega
        have he : (addP a b)[(addP a b).length - 1] = a.getD ((addP a b).length - 1) 0 + b.getD ((addP a b).length - 1) 0 := by rw [← addP_get, getD_of hlt]
        rw [he]
        generalize hk : (addP a b).length - 1 = k
        have hkk : k = max a.length b.length - 1 := by rw [← hk, addP_length]
        have ra := right_getD ha k
        have rb := right_getD hb k
        have ne : ∀ {c : List Int}, rightB c = true → c.length ≠ 0 → k = c.length - 1 → c.getD k 0 ≠ 0 := by
          intro c hc h0 hk2
          unfold rightB at hc
          simp only [Bool.and_eq_true] at hc
          have h2 := hc.1.2
          rw [List.getLast?_eq_getElem?, List.getElem?_eq_getElem (by omega)] at h2
          subst hk2
          rw [getD_of (by omega)]
          simpa using h2
        have : a.getD k 0 + b.getD k 0 ≠ 0 := by
          by_cases hl : b.length ≤ a.length
          · have := ne ha (by omega) (by omega); omega
          · have := ne hb (by omega) (by omega); omega
        simpa using this
    · obtain ⟨i, hi, rfl⟩ := List.getElem_of_mem hx
      rw [List.all_eq_true] at hall
      have h1 := of_decide_eq_true (hall _ (List.getElem_mem hi))
      refine (okN_iff _).2 ⟨?_, h1⟩
      rw [← getD_of hi, addP_get]
      have := right_getD ha i
      have := right_getD hb i
      omega
  · cases h
theorem addB_getD {a b : List Int} (h : (addB a b).2 = true) (i : Nat) : (addB a b).1.getD i 0 = a.getD i 0 + b.getD i 0 := by
  unfold addB at *
  split at h
  · rename_i hc
    rw [if_pos hc]; exact addP_get a b i
  · cases h
/-- Small words have a sum. -/
theorem addB_small {a b : List Int} (ha : rightB a = true) (hb : rightB b = true) (h : ∀ i, a.getD i 0 + b.getD i 0 ≤ far) : (addB a b).2 = true := by
  rw [addB_all ha hb (fun i _ => h i)]
theorem subB_add {a b : List Int} (ha : rightB a = true) (hb : rightB b = true) (h : (addB a b).2 = true) : subB (addB a b).1 b = (a, true) := by
  have hr := addB_right h
  have hg := addB_getD h
  have hle : leP (addB a b).1 b = true := by
    rw [leP_iff]
    constructor
    · unfold addB at *
      split at h
      · rename_i hc
        rw [if_pos hc]; show b.length ≤ (addP a b).length; rw [addP_length]; omega
      · cases h
    · intro i _
      rw [hg]
      have := right_getD ha i
      omega
  rw [subB_yes hr hb hle]
  have hl := ((leP_iff _ _).1 hle).1
  have : cutB (subP (addB a b).1 b) = a := by
    apply right_ext _ ha
    · intro i
      rw [cutB_getD, subP_get _ _ hl, hg]; omega
    · apply cutB_right
      · rw [subP_length _ _ hl]; exact right_len hr
      · intro x hx
        obtain ⟨i, hi, rfl⟩ := List.getElem_of_mem hx
        rw [← getD_of hi, subP_get _ _ hl, hg]
        have := right_getD ha i
        omega
  rw [this]
theorem addB_sub {a b : List Int} (ha : rightB a = true) (hb : rightB b = true) (h : leP a b = true) : addB (subB a b).1 b = (a, true) := by
  have hl := ((leP_iff _ _).1 h)
  rw [subB_yes ha hb h]
  show addB (cutB (subP a b)) b = (a, true)
  have hr : rightB (cutB (subP a b)) = true := by
    apply cutB_right
    · rw [subP_length _ _ hl.1]; exact right_len ha
    · intro x hx
      obtain ⟨i, hi, rfl⟩ := List.getElem_of_mem hx
      rw [← getD_of hi, subP_get _ _ hl.1]
      have h1 := right_getD ha i
      have h2 := right_getD hb i
      have h3 : b.getD i 0 ≤ a.getD i 0 := by
        by_cases hib : i < b.length
        · exact hl.2 i hib
        · rw [getD_out (by omega)]; omega
      omega
  have hsum : ∀ i, (cutB (subP a b)).getD i 0 + b.getD i 0 = a.getD i 0 := by
    intro i; rw [cutB_getD, subP_get _ _ hl.1]; omega
  have h2 : (addB (cutB (subP a b)) b).2 = true := addB_small hr hb (fun i => by rw [hsum]; exact (right_getD ha i).2)
  have h3 : (addB (cutB (subP a b)) b).1 = a := right_ext (addB_right h2) ha (fun i => by rw [addB_getD h2, hsum])
  exact Prod.ext h3 h2
theorem addB_assoc {a b c : List Int} (h1 : (addB a b).2 = true) (h2 : (addB (addB a b).1 c).2 = true) (h3 : (addB b c).2 = true) (h4 : (addB a (addB b c).1).2 = true) : (addB (addB a b).1 c).1 = (addB a (addB b c).1).1 :=
  right_ext (addB_right h2) (addB_right h4) (fun i => by rw [addB_getD h2, addB_getD h1, addB_getD h4, addB_getD h3]; omega)
theorem sum_addP : ∀ a b : List Int, (addP a b).sum = a.sum + b.sum
  | [], b => by simp [addP]
  | x :: a, [] => by simp [addP]
  | x :: a, y :: b => by simp [addP, sum_addP a b]; omega
theorem addB_sum {a b : List Int} (h : (addB a b).2 = true) : (addB a b).1.sum = a.sum + b.sum := by
  unfold addB at *
  split at h
  · rename_i hc
    rw [if_pos hc]; exact sum_addP a b
  · cases h
theorem sum_small : ∀ {l : List Int} {m : Int}, (∀ x ∈ l, 0 ≤ x ∧ x < m) → 0 ≤ m → 0 ≤ l.sum ∧ l.sum ≤ m * l.length
  | [], m, _, hm => by simp
  | x :: l, m, h, hm => by
    have h1 := h x List.mem_cons_self
    have h2 := sum_small (l := l) (fun y hy => h y (List.mem_cons_of_mem _ hy)) hm
    rw [List.sum_cons, List.length_cons]
    have : m * ((l.length + 1 : Nat) : Int) = m * l.length + m := by rw [Int.natCast_add, Int.mul_add]; simp
    omega
end Go.Cb

/- Plain laws of linear sets. -/
namespace Go.Cb
abbrev Lin := List Int × List (List Int)
def okAt (ps : List (List Int)) (i : Nat) : Bool := !(ps.getD i []).isEmpty && rightB (ps.getD i []) && (i == 0 || decide (cmpB (ps.getD (i - 1) []) (ps.getD i []) < 0))
def okTo (ps : List (List Int)) (k : Nat) : Bool := (List.range k).all (okAt ps)
def rightL (l : Lin) : Bool := rightB l.1 && okTo l.2 l.2.length
theorem okTo_succ (ps : List (List Int)) (k : Nat) : okTo ps (k + 1) = (okTo ps k && okAt ps k) := by
  unfold okTo
  rw [List.range_succ, List.all_append]; simp
theorem okTo_bad {ps : List (List Int)} {k : Nat} (hk : k < ps.length) (h : okAt ps k = false) : okTo ps ps.length = false := by
  unfold okTo
  rw [← Bool.not_eq_true, List.all_eq_true]
  intro h2
  rw [h2 k (List.mem_range.2 hk)] at h
  cases h
theorem getDl_of {α : Type} {l : List (List α)} {k : Nat} (h : k < l.length) : l.getD k [] = l[k] := by rw [List.getD_eq_getElem?_getD, List.getElem?_eq_getElem h]; rfl
theorem getDl_out {α : Type} {l : List (List α)} {k : Nat} (h : l.length ≤ k) : l.getD k [] = [] := by rw [List.getD_eq_getElem?_getD, List.getElem?_eq_none h]; rfl
theorem rightL_no {l : Lin} (h : rightB l.1 = false) : rightL l = false := by unfold rightL; rw [h]; rfl
theorem rightL_bad {l : Lin} {k : Nat} (hk : k < l.2.length) (h : okAt l.2 k = false) : rightL l = false := by unfold rightL; rw [okTo_bad hk h, Bool.and_false]
theorem rightL_yes {l : Lin} (h : rightB l.1 = true) (h2 : okTo l.2 l.2.length = true) : rightL l = true := by unfold rightL; rw [h, h2]; rfl
/-- How a place is told right: by its own word, and the one ahead of it. -/
theorem okAt_zero {ps : List (List Int)} (h : 0 < ps.length) : okAt ps 0 = (!ps[0].isEmpty && rightB ps[0]) := by
  unfold okAt
  rw [getDl_of h]; simp
theorem okAt_succ {ps : List (List Int)} {k : Nat} (h : k + 1 < ps.length) : okAt ps (k + 1) = (!ps[k + 1].isEmpty && rightB ps[k + 1] && decide (cmpB ps[k] ps[k + 1] < 0)) := by
  unfold okAt
  rw [getDl_of h, show k + 1 - 1 = k from rfl, getDl_of (by omega)]; simp
theorem okAt_first {ps : List (List Int)} {k : Nat} (h : k < ps.length) (h0 : ¬ 0 < k) : okAt ps k = (!ps[k].isEmpty && rightB ps[k]) := by
  obtain rfl : k = 0 := by omega
  exact okAt_zero h
theorem okAt_next {ps : List (List Int)} {k : Nat} (h : k < ps.length) (h0 : 0 < k) : okAt ps k = (!ps[k].isEmpty && rightB ps[k] && decide (cmpB ps[k - 1] ps[k] < 0)) := by
  obtain ⟨j, rfl⟩ : ∃ j, k = j + 1 := ⟨k - 1, by omega⟩
  exact okAt_succ h
end Go.Cb

/- Plain laws: lists in order, one by one; the order of linear sets. -/
namespace Go.Cb
def cmpBy {α : Type} (f : α → α → Int) : List α → List α → Int
  | [], [] => 0
  | [], _ :: _ => -1
  | _ :: _, [] => 1
  | x :: a, y :: b => if f x y = 0 then cmpBy f a b else f x y
/-- The first k of both are alike. -/
def agreeTo {α : Type} (f : α → α → Int) (a b : List α) (k : Nat) : Prop := ∀ i, i < k → ∀ (h1 : i < a.length) (h2 : i < b.length), f a[i] b[i] = 0
theorem cmpBy_drop {α : Type} (f : α → α → Int) : ∀ (k : Nat) (a b : List α), k ≤ a.length → k ≤ b.length → agreeTo f a b k → cmpBy f a b = cmpBy f (a.drop k) (b.drop k)
  | 0, _, _, _, _, _ => rfl
  | k + 1, x :: a, y :: b, h1, h2, h => by
    have h0 : f x y = 0 := h 0 (by omega) (by simp) (by simp)
    rw [cmpBy, if_pos h0]
    exact cmpBy_drop f k a b (by simpa using h1) (by simpa using h2) (fun i hi g1 g2 => h (i + 1) (by omega) (by simpa using g1) (by simpa using g2))
  | k + 1, [], _, h1, _, _ => by simp at h1
  | k + 1, _ :: _, [], _, h2, _ => by simp at h2
theorem cmpBy_at {α : Type} {f : α → α → Int} {a b : List α} {k : Nat} (h1 : k < a.length) (h2 : k < b.length) (h : agreeTo f a b k) (hne : f a[k] b[k] ≠ 0) : cmpBy f a b = f a[k] b[k] := by
  rw [cmpBy_drop f k a b (by omega) (by omega) h, List.drop_eq_getElem_cons h1, List.drop_eq_getElem_cons h2, cmpBy, if_neg hne]
theorem cmpBy_short {α : Type} {f : α → α → Int} {a b : List α} (h1 : a.length < b.length) (h : agreeTo f a b a.length) : cmpBy f a b = -1 := by
  rw [cmpBy_drop f a.length a b (by omega) (by omega) h, List.drop_eq_nil_of_le (by omega), List.drop_eq_getElem_cons h1]; rfl
theorem cmpBy_long {α : Type} {f : α → α → Int} {a b : List α} (h1 : b.length < a.length) (h : agreeTo f a b b.length) : cmpBy f a b = 1 := by
  rw [cmpBy_drop f b.length a b (by omega) (by omega) h, List.drop_eq_nil_of_le (Nat.le_refl b.length), List.drop_eq_getElem_cons h1]; rfl
theorem cmpBy_same {α : Type} {f : α → α → Int} {a b : List α} (h1 : a.length = b.length) (h : agreeTo f a b a.length) : cmpBy f a b = 0 := by
  rw [cmpBy_drop f a.length a b (by omega) (by omega) h, List.drop_eq_nil_of_le (by omega), List.drop_eq_nil_of_le (by omega)]; rfl
theorem agreeTo_snoc {α : Type} {f : α → α → Int} {a b : List α} {k : Nat} (h : agreeTo f a b k) (h1 : k < a.length) (h2 : k < b.length) (he : f a[k] b[k] = 0) : agreeTo f a b (k + 1) := by
  intro i hi g1 g2
  by_cases e : i = k
  · subst e; exact he
  · exact h i (by omega) g1 g2
theorem agreeTo_zero {α : Type} (f : α → α → Int) (a b : List α) : agreeTo f a b 0 := fun i hi => absurd hi (by omega)
theorem agreeTo_le {α : Type} {f : α → α → Int} {a b : List α} {k j : Nat} (h : agreeTo f a b k) (hj : j ≤ k) : agreeTo f a b j := fun i hi => h i (by omega)
/-- The first that is not 0. -/
def orL : List Int → Int
  | [] => 0
  | x :: l => if x = 0 then orL l else x
theorem orL_at {l : List Int} {k : Nat} (hk : k < l.length) : orL (l.drop k) = if l[k] = 0 then orL (l.drop (k + 1)) else l[k] := by
  rw [List.drop_eq_getElem_cons hk, orL]
def or3 (a b c : Int) : Int := if a = 0 then (if b = 0 then c else b) else a
def cmpLin (x y : Lin) : Int := if rightL x = true ∧ rightL y = true then or3 (cmpB x.1 y.1) (cmpI x.2.length y.2.length) (cmpBy cmpB x.2 y.2) else 0
theorem cmpLin_no1 {x y : Lin} (h : rightL x = false) : cmpLin x y = 0 := by unfold cmpLin; rw [if_neg (by simp [h])]
theorem cmpLin_no2 {x y : Lin} (h : rightL y = false) : cmpLin x y = 0 := by unfold cmpLin; rw [if_neg (by simp [h])]
theorem cmpLin_yes {x y : Lin} (h : rightL x = true) (h2 : rightL y = true) : cmpLin x y = or3 (cmpB x.1 y.1) (cmpI x.2.length y.2.length) (cmpBy cmpB x.2 y.2) := by unfold cmpLin; rw [if_pos ⟨h, h2⟩]
theorem cmpBy_neg {α : Type} {f : α → α → Int} (hf : ∀ x y, f y x = -f x y) : ∀ a b : List α, cmpBy f b a = -cmpBy f a b
  | [], [] => rfl
  | [], _ :: _ => rfl
  | _ :: _, [] => rfl
  | x :: a, y :: b => by
    rw [cmpBy, cmpBy, hf x y, cmpBy_neg hf a b]
    by_cases h : f x y = 0
    · rw [if_pos h, if_pos (by omega)]
    · rw [if_neg h, if_neg (by omega)]
theorem cmpLin_neg (x y : Lin) : cmpLin y x = -cmpLin x y := by
  unfold cmpLin or3
  by_cases h : rightL x = true ∧ rightL y = true
  · rw [if_pos h, if_pos ⟨h.2, h.1⟩, cmpB_neg x.1 y.1, cmpI_neg x.2.length y.2.length, cmpBy_neg (fun p q => cmpB_neg p q) x.2 y.2]
    split <;> split <;> (try split) <;> (try split) <;> omega
  · rw [if_neg h, if_neg (fun k => h ⟨k.2, k.1⟩)]; rfl
theorem or3_list (a b c : Int) : orL [a, b, c] = or3 a b c := by
  unfold or3
  simp only [orL]
  by_cases h3 : c = 0
  · rw [if_pos h3, h3]
  · rw [if_neg h3]
theorem take_snoc {α : Type} {a b : List α} {k : Nat} (h : a.take k = b.take k) (h1 : k < a.length) (h2 : k < b.length) (he : a[k] = b[k]) : a.take (k + 1) = b.take (k + 1) := by
  rw [List.take_succ_eq_append_getElem h1, List.take_succ_eq_append_getElem h2, h, he]
theorem take_all {α : Type} {a b : List α} (h : a.take a.length = b.take a.length) (hl : a.length = b.length) : a = b := by
  rwa [List.take_of_length_le (Nat.le_refl _), List.take_of_length_le (by omega)] at h
end Go.Cb

/- Plain laws: words put into rising ones; the linear set of a base and periods. -/
namespace Go.Cb
def zeroB (b : List Int) : Bool := b.all (· == 0)
def putB : List (List Int) → List Int → List (List Int)
  | [], b => [b]
  | p :: ps, b => if cmpB p b < 0 then p :: putB ps b else if cmpB p b = 0 then p :: ps else b :: p :: ps
def allBelow (ps : List (List Int)) (b : List Int) (k : Nat) : Prop := ∀ i, i < k → ∀ h : i < ps.length, cmpB ps[i] b < 0
theorem allBelow_zero (ps : List (List Int)) (b : List Int) : allBelow ps b 0 := fun i hi => absurd hi (by omega)
theorem allBelow_snoc {ps : List (List Int)} {b : List Int} {k : Nat} (h : allBelow ps b k) (hk : k < ps.length) (hc : cmpB ps[k] b < 0) : allBelow ps b (k + 1) := by
  intro i hi hl
  by_cases e : i = k
  · subst e; exact hc
  · exact h i (by omega) hl
theorem putB_skip : ∀ (k : Nat) (ps : List (List Int)) (b : List Int), k ≤ ps.length → allBelow ps b k → putB ps b = ps.take k ++ putB (ps.drop k) b
  | 0, _, _, _, _ => rfl
  | k + 1, p :: ps, b, hk, h => by
    have h0 : cmpB p b < 0 := h 0 (by omega) (by simp)
    rw [putB, if_pos h0, putB_skip k ps b (by simpa using hk) (fun i hi hl => h (i + 1) (by omega) (by simpa using hl))]
    rfl
  | k + 1, [], _, hk, _ => by simp at hk
theorem putB_end {ps : List (List Int)} {b : List Int} (h : allBelow ps b ps.length) : putB ps b = ps.take ps.length ++ [b] ++ ps.drop ps.length := by
  rw [putB_skip ps.length ps b (Nat.le_refl _) h, List.drop_eq_nil_of_le (Nat.le_refl ps.length), putB]; simp
theorem putB_same {ps : List (List Int)} {b : List Int} {k : Nat} (hk : k < ps.length) (h : allBelow ps b k) (hc : cmpB ps[k] b = 0) : putB ps b = ps := by
  rw [putB_skip k ps b (by omega) h, List.drop_eq_getElem_cons hk, putB, if_neg (by omega), if_pos hc, ← List.drop_eq_getElem_cons hk, List.take_append_drop]
theorem putB_in {ps : List (List Int)} {b : List Int} {k : Nat} (hk : k < ps.length) (h : allBelow ps b k) (hc : 0 < cmpB ps[k] b) : putB ps b = ps.take k ++ [b] ++ ps.drop k := by
  rw [putB_skip k ps b (by omega) h, List.drop_eq_getElem_cons hk, putB, if_neg (by omega), if_neg (by omega)]; simp
theorem putB_length : ∀ (ps : List (List Int)) (b : List Int), (putB ps b).length ≤ ps.length + 1
  | [], b => by simp [putB]
  | p :: ps, b => by
    rw [putB]
    split
    · simp only [List.length_cons]; have := putB_length ps b; omega
    · split <;> simp
def badB (p : List Int) : Bool := (normB p).isEmpty && !zeroB p
def ofF : List (List Int) → List (List Int) → Option (List (List Int))
  | acc, [] => some acc
  | acc, p :: ps => if badB p = true then none else ofF (if (normB p).isEmpty = true then acc else putB acc (normB p)) ps
def ofLin (base : List Int) (ps : List (List Int)) : Lin × Bool :=
  if badB base = true then (([], []), false) else
    match ofF [] ps with
    | none => (([], []), false)
    | some q => ((normB base, q), true)
theorem ofLin_no {base : List Int} {ps : List (List Int)} (h : badB base = true) : ofLin base ps = (([], []), false) := by unfold ofLin; rw [if_pos h]
theorem ofLin_no2 {base : List Int} {ps : List (List Int)} (h : badB base = false) (h2 : ofF [] ps = none) : ofLin base ps = (([], []), false) := by unfold ofLin; rw [if_neg (by simp [h]), h2]
theorem ofLin_yes {base : List Int} {ps q : List (List Int)} (h : badB base = false) (h2 : ofF [] ps = some q) : ofLin base ps = ((normB base, q), true) := by unfold ofLin; rw [if_neg (by simp [h]), h2]
theorem ofF_at (acc : List (List Int)) {ps : List (List Int)} {k : Nat} (hk : k < ps.length) : ofF acc (ps.drop k) = if badB ps[k] = true then none else ofF (if (normB ps[k]).isEmpty = true then acc else putB acc (normB ps[k])) (ps.drop (k + 1)) := by
  rw [List.drop_eq_getElem_cons hk, ofF]
theorem normB_len (b : List Int) : (normB b).length ≤ 12 := by
  unfold normB
  split
  · rename_i h; exact right_len h
  · simp
def madeTo (l : List Int) (k : Nat) : List (List Int) := (List.range k).map fun i => playBag (l.drop (4 * i + 4))
def madeN (l : List Int) : Nat := if 12 < l.length then 3 else if 8 < l.length then 2 else if 4 < l.length then 1 else 0
def madeL (l : List Int) : Lin := (ofLin (playBag l) (madeTo l (madeN l))).1
theorem madeTo_succ (l : List Int) (k : Nat) : madeTo l (k + 1) = madeTo l k ++ [playBag (l.drop (4 * k + 4))] := by
  unfold madeTo
  rw [List.range_succ, List.map_append]; rfl
theorem madeTo_length (l : List Int) (k : Nat) : (madeTo l k).length = k := by simp [madeTo]
theorem madeN_at {l : List Int} {k : Nat} (hk : k ≤ 3) (h0 : k = 0 ∨ 4 * k < l.length) (h : k = 3 ∨ l.length ≤ 4 * k + 4) : madeN l = k := by
  unfold madeN
  split
  · omega
  · split
    · omega
    · split <;> omega
theorem madeTo_len (l : List Int) (k : Nat) : ∀ p ∈ madeTo l k, p.length ≤ 12 := by
  intro p hp
  unfold madeTo at hp
  obtain ⟨i, _, rfl⟩ := List.mem_map.1 hp
  exact right_len (playBag_right _)
end Go.Cb

/- Plain laws: words put into rising ones rise; linear sets that are made are right; their order. -/
namespace Go.Cb
theorem cmpB_ltt {a b c : List Int} (ha : rightB a = true) (hb : rightB b = true) (hc : rightB c = true) (h1 : cmpB a b < 0) (h2 : cmpB b c < 0) : cmpB a c < 0 := by
  have h3 := cmpB_trans ha hb hc (by omega) (by omega)
  rcases Int.lt_or_eq_of_le h3 with h | h
  · exact h
  · have := (cmpB_zero ha hc).1 h
    subst this
    have := cmpB_neg a b
    omega
/-- Rising words, none empty, all right. -/
structure Good (ps : List (List Int)) : Prop where
  each : ∀ p ∈ ps, p.isEmpty = false ∧ rightB p = true
  up : ps.Pairwise fun a b => cmpB a b < 0
theorem Good.nil : Good [] := ⟨fun _ h => by simp at h, .nil⟩
theorem Good.tail {p : List Int} {ps : List (List Int)} (h : Good (p :: ps)) : Good ps := ⟨fun q hq => h.each q (by simp [hq]), (List.pairwise_cons.1 h.up).2⟩
theorem Good.at {ps : List (List Int)} (h : Good ps) {k : Nat} (hk : k < ps.length) : okAt ps k = true := by
  have he := h.each ps[k] (List.getElem_mem hk)
  by_cases h0 : 0 < k
  · rw [okAt_next hk h0, he.1, he.2, decide_eq_true (List.pairwise_iff_getElem.1 h.up (k - 1) k (by omega) hk (by omega))]; rfl
  · rw [okAt_first hk h0, he.1, he.2]; rfl
theorem Good.ok {ps : List (List Int)} (h : Good ps) : okTo ps ps.length = true := by
  unfold okTo
  rw [List.all_eq_true]
  intro i hi
  exact h.at (List.mem_range.1 hi)
theorem okTo_at {ps : List (List Int)} (h : okTo ps ps.length = true) {k : Nat} (hk : k < ps.length) : okAt ps k = true := by
  unfold okTo at h
  rw [List.all_eq_true] at h
  exact h k (List.mem_range.2 hk)
theorem okTo_each {ps : List (List Int)} (h : okTo ps ps.length = true) : ∀ p ∈ ps, p.isEmpty = false ∧ rightB p = true := by
  intro p hp
  obtain ⟨k, hk, rfl⟩ := List.mem_iff_getElem.1 hp
  have := okTo_at h hk
  unfold okAt at this
  rw [getDl_of hk] at this
  simp only [Bool.and_eq_true, Bool.not_eq_true'] at this
  exact this.1
theorem Good.of {ps : List (List Int)} (h : okTo ps ps.length = true) : Good ps := by
  have he := okTo_each h
  refine ⟨he, List.pairwise_iff_getElem.2 ?_⟩
  intro i j hi hj hij
  induction j with
  | zero => omega
  | succ j ih =>
    have hs := okTo_at h hj
    rw [okAt_succ hj] at hs
    simp only [Bool.and_eq_true, decide_eq_true_eq] at hs
    by_cases e : i = j
    · subst e; exact hs.2
    · exact cmpB_ltt (he _ (List.getElem_mem _)).2 (he _ (List.getElem_mem _)).2 (he _ (List.getElem_mem _)).2 (ih (by omega) (by omega)) hs.2
theorem mem_putB : ∀ {ps : List (List Int)} {b x : List Int}, x ∈ putB ps b → x ∈ ps ∨ x = b
  | [], b, x, h => by simp [putB] at h; exact .inr h
  | p :: ps, b, x, h => by
    rw [putB] at h
    split at h
    · rcases List.mem_cons.1 h with rfl | h
      · exact .inl (by simp)
      · rcases mem_putB h with h | h
        · exact .inl (by simp [h])
        · exact .inr h
    · split at h
      · exact .inl h
      · rcases List.mem_cons.1 h with h | h
        · exact .inr h
        · exact .inl h
theorem Good.put : ∀ {ps : List (List Int)} {b : List Int}, Good ps → b.isEmpty = false → rightB b = true → Good (putB ps b)
  | [], b, _, h1, h2 => ⟨fun q hq => by simp [putB] at hq; subst hq; exact ⟨h1, h2⟩, by simp [putB]⟩
  | p :: ps, b, h, h1, h2 => by
    have hp := h.each p (by simp)
    have hup := List.pairwise_cons.1 h.up
    rw [putB]
    split
    · rename_i hlt
      have ih := Good.put h.tail h1 h2
      refine ⟨fun q hq => ?_, List.pairwise_cons.2 ⟨fun q hq => ?_, ih.up⟩⟩
      · rcases List.mem_cons.1 hq with rfl | hq
        · exact hp
        · exact ih.each q hq
      · rcases mem_putB hq with hq | rfl
        · exact hup.1 q hq
        · exact hlt
    · split
      · exact h
      · rename_i hn hz
        have hbp : cmpB b p < 0 := by have := cmpB_neg p b; omega
        refine ⟨fun q hq => ?_, List.pairwise_cons.2 ⟨fun q hq => ?_, h.up⟩⟩
        · rcases List.mem_cons.1 hq with rfl | hq
          · exact ⟨h1, h2⟩
          · exact h.each q hq
        · rcases List.mem_cons.1 hq with rfl | hq
          · exact hbp
          · exact cmpB_ltt h2 hp.2 (h.each q (by simp [hq])).2 hbp (hup.1 q hq)
theorem ofF_good : ∀ {ps acc q : List (List Int)}, Good acc → ofF acc ps = some q → Good q
  | [], acc, q, h, e => by rw [ofF] at e; injection e with e; subst e; exact h
  | p :: ps, acc, q, h, e => by
    rw [ofF] at e
    split at e
    · cases e
    · refine ofF_good (ps := ps) ?_ e
      split
      · exact h
      · rename_i hn
        exact h.put (by simpa using hn) (normB_right p)
theorem rightL_mk {b : List Int} {ps : List (List Int)} (h : rightB b = true) (h2 : Good ps) : rightL (b, ps) = true := by
  unfold rightL
  rw [h, h2.ok]; rfl
theorem ofLin_right (b : List Int) (ps : List (List Int)) : rightL (ofLin b ps).1 = true := by
  unfold ofLin
  split
  · decide
  · split
    · decide
    · rename_i q hq
      exact rightL_mk (normB_right b) (ofF_good Good.nil hq)
theorem madeL_right (l : List Int) : rightL (madeL l) = true := ofLin_right _ _
theorem rightL_iff {b : List Int} {ps : List (List Int)} : rightL (b, ps) = true ↔ rightB b = true ∧ Good ps := by
  constructor
  · intro h
    unfold rightL at h
    rw [Bool.and_eq_true] at h
    exact ⟨h.1, Good.of h.2⟩
  · rintro ⟨h1, h2⟩; exact rightL_mk h1 h2
/-- Orders of lists, one by one. -/
theorem cmpBy_zero {α : Type} {f : α → α → Int} {R : α → Prop} (hf : ∀ x y, R x → R y → (f x y = 0 ↔ x = y)) : ∀ {a b : List α}, (∀ x ∈ a, R x) → (∀ x ∈ b, R x) → (cmpBy f a b = 0 ↔ a = b)
  | [], [], _, _ => by simp [cmpBy]
  | [], _ :: _, _, _ => by simp [cmpBy]
  | _ :: _, [], _, _ => by simp [cmpBy]
  | x :: a, y :: b, ha, hb => by
    rw [cmpBy]
    by_cases h : f x y = 0
    · rw [if_pos h, cmpBy_zero hf (fun z hz => ha z (by simp [hz])) (fun z hz => hb z (by simp [hz])), (hf x y (ha x (by simp)) (hb y (by simp))).1 h]; simp
    · rw [if_neg h]
      constructor
      · intro h2; exact absurd h2 h
      · intro h2; injection h2 with h2 _; exact absurd ((hf x y (ha x (by simp)) (hb y (by simp))).2 h2) h
theorem cmpBy_trans {α : Type} {f : α → α → Int} {R : α → Prop} (hz : ∀ x y, R x → R y → (f x y = 0 ↔ x = y)) (hn : ∀ x y, f y x = -f x y) (ht : ∀ x y z, R x → R y → R z → f x y ≤ 0 → f y z ≤ 0 → f x z ≤ 0) :
    ∀ {a b c : List α}, (∀ x ∈ a, R x) → (∀ x ∈ b, R x) → (∀ x ∈ c, R x) → cmpBy f a b ≤ 0 → cmpBy f b c ≤ 0 → cmpBy f a c ≤ 0
  | [], _, [], _, _, _, _, _ => by simp [cmpBy]
  | [], _, _ :: _, _, _, _, _, _ => by simp [cmpBy]
  | _ :: _, [], _, _, _, _, h, _ => by simp [cmpBy] at h
  | _ :: _, _ :: _, [], _, _, _, _, h => by simp [cmpBy] at h
  | x :: a, y :: b, z :: c, ha, hb, hc, h1, h2 => by
    have rx := ha x (by simp)
    have ry := hb y (by simp)
    have rz := hc z (by simp)
    rw [cmpBy] at h1 h2 ⊢
    by_cases e1 : f x y = 0
    · rw [if_pos e1] at h1
      have exy := (hz x y rx ry).1 e1
      subst exy
      by_cases e2 : f x z = 0
      · rw [if_pos e2] at h2 ⊢
        exact cmpBy_trans hz hn ht (fun w hw => ha w (by simp [hw])) (fun w hw => hb w (by simp [hw])) (fun w hw => hc w (by simp [hw])) h1 h2
      · rw [if_neg e2] at h2 ⊢; exact h2
    · rw [if_neg e1] at h1
      by_cases e2 : f y z = 0
      · have eyz := (hz y z ry rz).1 e2
        subst eyz
        rw [if_neg e1]; exact h1
      · rw [if_neg e2] at h2
        have h3 := ht x y z rx ry rz h1 h2
        by_cases e3 : f x z = 0
        · have exz := (hz x z rx rz).1 e3
          subst exz
          have := hn x y
          omega
        · rw [if_neg e3]; exact h3
theorem cmpLin_zero {x y : Lin} (hx : rightL x = true) (hy : rightL y = true) : cmpLin x y = 0 ↔ x = y := by
  obtain ⟨a, ps⟩ := x
  obtain ⟨b, qs⟩ := y
  rw [cmpLin_yes hx hy]
  have rx := rightL_iff.1 hx
  have ry := rightL_iff.1 hy
  unfold or3
  by_cases h : cmpB a b = 0
  · rw [if_pos h]
    have e := (cmpB_zero rx.1 ry.1).1 h
    subst e
    by_cases h2 : cmpI (ps.length : Int) (qs.length : Int) = 0
    · rw [if_pos h2, cmpBy_zero (R := fun p => rightB p = true) (fun p q hp hq => cmpB_zero hp hq) (fun p hp => (rx.2.each p hp).2) (fun p hp => (ry.2.each p hp).2)]
      simp
    · rw [if_neg h2]
      constructor
      · intro h3; exact absurd h3 h2
      · intro h3; injection h3 with _ h3; subst h3; exact absurd (cmpI_self _) h2
  · rw [if_neg h]
    constructor
    · intro h3; exact absurd h3 h
    · intro h3; injection h3 with h3 _; subst h3; exact absurd ((cmpB_zero rx.1 rx.1).2 rfl) h
theorem or3_le {a b c : Int} : or3 a b c ≤ 0 ↔ a < 0 ∨ (a = 0 ∧ (b < 0 ∨ (b = 0 ∧ c ≤ 0))) := by
  unfold or3
  split
  · split <;> omega
  · omega
theorem cmpLin_trans {x y z : Lin} (hx : rightL x = true) (hy : rightL y = true) (hz : rightL z = true) (h1 : cmpLin x y ≤ 0) (h2 : cmpLin y z ≤ 0) : cmpLin x z ≤ 0 := by
  obtain ⟨a, ps⟩ := x
  obtain ⟨b, qs⟩ := y
  obtain ⟨c, rs⟩ := z
  rw [cmpLin_yes hx hy] at h1
  rw [cmpLin_yes hy hz] at h2
  rw [cmpLin_yes hx hz]
  have rx := rightL_iff.1 hx
  have ry := rightL_iff.1 hy
  have rz := rightL_iff.1 hz
  rw [or3_le] at *
  dsimp only at *
  have t1 := fun h h' => cmpB_ltt (a := a) (b := b) (c := c) rx.1 ry.1 rz.1 h h'
  have e1 := cmpB_zero rx.1 ry.1
  have e2 := cmpB_zero ry.1 rz.1
  rcases h1 with h1 | ⟨h1, h1'⟩
  · rcases h2 with h2 | ⟨h2, _⟩
    · exact .inl (t1 h1 h2)
    · have := e2.1 h2; subst this; exact .inl h1
  · have := e1.1 h1
    subst this
    rcases h2 with h2 | ⟨h2, h2'⟩
    · exact .inl h2
    · refine .inr ⟨h2, ?_⟩
      have c1 := cmpI_zero (a := (ps.length : Int)) (b := qs.length)
      have c2 := cmpI_zero (a := (qs.length : Int)) (b := rs.length)
      have d1 := cmpI_le (a := (ps.length : Int)) (b := qs.length)
      have d2 := cmpI_le (a := (qs.length : Int)) (b := rs.length)
      have d3 := cmpI_le (a := (ps.length : Int)) (b := rs.length)
      have c3 := cmpI_zero (a := (ps.length : Int)) (b := rs.length)
      rcases h1' with h3 | ⟨h3, h3'⟩
      · left; rcases h2' with h4 | ⟨h4, _⟩ <;> omega
      · rcases h2' with h4 | ⟨h4, h4'⟩
        · left; omega
        · right
          refine ⟨by omega, ?_⟩
          exact cmpBy_trans (R := fun p => rightB p = true) (fun p q hp hq => cmpB_zero hp hq) (fun p q => cmpB_neg p q) (fun p q r hp hq hr => cmpB_trans hp hq hr) (fun p hp => (rx.2.each p hp).2) (fun p hp => (ry.2.each p hp).2) (fun p hp => (rz.2.each p hp).2) h3' h4'
theorem cmpBy_range {α : Type} {f : α → α → Int} (hf : ∀ x y, -1 ≤ f x y ∧ f x y ≤ 1) : ∀ a b : List α, -1 ≤ cmpBy f a b ∧ cmpBy f a b ≤ 1
  | [], [] => by simp [cmpBy]
  | [], _ :: _ => by simp [cmpBy]
  | _ :: _, [] => by simp [cmpBy]
  | x :: a, y :: b => by
    rw [cmpBy]
    split
    · exact cmpBy_range hf a b
    · exact hf x y
theorem cmpLin_range (x y : Lin) : -1 ≤ cmpLin x y ∧ cmpLin x y ≤ 1 := by
  unfold cmpLin or3
  have h1 := cmpB_range x.1 y.1
  have h2 := cmpI_range (x.2.length : Int) y.2.length
  have h3 := cmpBy_range cmpB_range x.2 y.2
  split
  · split
    · split
      · exact h3
      · exact h2
    · exact h1
  · omega
end Go.Cb

/- Plain laws: sorted words without what comes twice are those that were put in one by one. -/
namespace Go.Cb
theorem ext_rise : ∀ {a b : List (List Int)}, (a.Pairwise fun x y => cmpB x y < 0) → (b.Pairwise fun x y => cmpB x y < 0) → (∀ x, x ∈ a ↔ x ∈ b) → a = b
  | [], [], _, _, _ => rfl
  | [], y :: b, _, _, h => by have := (h y).2 (by simp); simp at this
  | x :: a, [], _, _, h => by have := (h x).1 (by simp); simp at this
  | x :: a, y :: b, ha, hb, h => by
    have ha' := List.pairwise_cons.1 ha
    have hb' := List.pairwise_cons.1 hb
    have e : x = y := by
      rcases List.mem_cons.1 ((h x).1 (by simp)) with e | hx
      · exact e
      · rcases List.mem_cons.1 ((h y).2 (by simp)) with e | hy
        · exact e.symm
        · have h1 := hb'.1 x hx
          have h2 := ha'.1 y hy
          have := cmpB_neg x y
          omega
    subst e
    have hirr : ∀ z, ¬ cmpB z z < 0 := fun z => by have := cmpB_neg z z; omega
    rw [ext_rise ha'.2 hb'.2 (fun z => by
      constructor
      · intro hz
        rcases List.mem_cons.1 ((h z).1 (by simp [hz])) with e | hz2
        · subst e; exact absurd (ha'.1 z hz) (hirr z)
        · exact hz2
      · intro hz
        rcases List.mem_cons.1 ((h z).2 (by simp [hz])) with e | hz2
        · subst e; exact absurd (hb'.1 z hz) (hirr z)
        · exact hz2)]
theorem mem_putB_iff {ps : List (List Int)} {b x : List Int} (hp : ∀ p ∈ ps, rightB p = true) (hb : rightB b = true) : x ∈ putB ps b ↔ x ∈ ps ∨ x = b := by
  refine ⟨mem_putB, ?_⟩
  induction ps with
  | nil => rintro (h | rfl)
           · simp at h
           · simp [putB]
  | cons p ps ih =>
    have ih := ih (fun q hq => hp q (by simp [hq]))
    rw [putB]
    rintro h
    split
    · rcases h with h | h
      · rcases List.mem_cons.1 h with rfl | h
        · simp
        · exact List.mem_cons.2 (.inr (ih (.inl h)))
      · exact List.mem_cons.2 (.inr (ih (.inr h)))
    · split
      · rename_i h2
        have e := (cmpB_zero (hp p (by simp)) hb).1 h2
        rcases h with h | h
        · exact h
        · rw [h, ← e]; simp
      · rcases h with h | h
        · exact List.mem_cons.2 (.inr h)
        · rw [h]; simp
/-- The words that are, of some that may be none or no words. -/
def nzB (ps : List (List Int)) : List (List Int) := (ps.map normB).filter fun p => !p.isEmpty
theorem nzB_ok (ps : List (List Int)) : ∀ p ∈ nzB ps, p.isEmpty = false ∧ rightB p = true := by
  intro p hp
  obtain ⟨h1, h2⟩ := List.mem_filter.1 hp
  obtain ⟨q, _, rfl⟩ := List.mem_map.1 h1
  exact ⟨by simpa using h2, normB_right q⟩
theorem ofF_mems : ∀ {ps acc r : List (List Int)}, Good acc → ofF acc ps = some r → Good r ∧ ∀ x, x ∈ r ↔ x ∈ acc ∨ x ∈ nzB ps
  | [], acc, r, h, e => by
    simp only [ofF] at e
    injection e with e
    subst e
    exact ⟨h, fun x => by simp [nzB]⟩
  | p :: ps, acc, r, h, e => by
    rw [ofF] at e
    split at e
    · cases e
    · by_cases hz : (normB p).isEmpty = true
      · rw [if_pos hz] at e
        obtain ⟨g, m⟩ := ofF_mems h e
        refine ⟨g, fun x => ?_⟩
        rw [m x]
        have : nzB (p :: ps) = nzB ps := by simp [nzB, hz]
        rw [this]
      · rw [if_neg hz] at e
        have hz2 : (normB p).isEmpty = false := by simpa using hz
        obtain ⟨g, m⟩ := ofF_mems (h.put hz2 (normB_right p)) e
        refine ⟨g, fun x => ?_⟩
        rw [m x, mem_putB_iff (fun q hq => (h.each q hq).2) (normB_right p)]
        have : nzB (p :: ps) = normB p :: nzB ps := by simp [nzB, hz2]
        rw [this, List.mem_cons, or_assoc]
theorem ofF_none {ps acc : List (List Int)} : ofF acc ps = none ↔ ∃ p ∈ ps, badB p = true := by
  induction ps generalizing acc with
  | nil => simp [ofF]
  | cons p ps ih =>
    rw [ofF]
    by_cases h : badB p = true
    · rw [if_pos h]; simp [h]
    · rw [if_neg h, ih]; simp [h]
/-- What stands next to its like is left out. -/
def cmpct : List (List Int) → List (List Int)
  | [] => []
  | [x] => [x]
  | x :: y :: r => if x = y then cmpct (y :: r) else x :: cmpct (y :: r)
theorem cmpct_mem : ∀ {l : List (List Int)} {x : List Int}, x ∈ cmpct l ↔ x ∈ l
  | [], x => by simp [cmpct]
  | [y], x => by simp [cmpct]
  | y :: z :: r, x => by
    rw [cmpct]
    split
    · rename_i e
      rw [cmpct_mem (l := z :: r), e]
      simp
    · rw [List.mem_cons, cmpct_mem (l := z :: r), List.mem_cons (l := z :: r)]
theorem cmpct_rise : ∀ {l : List (List Int)}, (∀ p ∈ l, rightB p = true) → (l.Pairwise fun x y => ¬ cmpB y x < 0) → (cmpct l).Pairwise fun x y => cmpB x y < 0
  | [], _, _ => by simp [cmpct]
  | [x], _, _ => by simp [cmpct]
  | x :: y :: r, hr, h => by
    have h' := List.pairwise_cons.1 h
    have ih := cmpct_rise (l := y :: r) (fun p hp => hr p (by simp [hp])) h'.2
    rw [cmpct]
    split
    · exact ih
    · rename_i hne
      have hxy : cmpB x y < 0 := by
        have h1 := h'.1 y (by simp)
        have h2 := cmpB_neg x y
        rcases Int.lt_or_le (cmpB x y) 0 with h3 | h3
        · exact h3
        · exact absurd ((cmpB_zero (hr x (by simp)) (hr y (by simp))).1 (by omega)) hne
      refine List.pairwise_cons.2 ⟨fun z hz => ?_, ih⟩
      have hz' := cmpct_mem.1 hz
      rcases List.mem_cons.1 hz' with rfl | hz2
      · exact hxy
      · have h1 := (List.pairwise_cons.1 h'.2).1 z hz2
        have h2 := cmpB_neg y z
        rcases Int.lt_or_le (cmpB y z) 0 with h3 | h3
        · exact cmpB_ltt (hr x (by simp)) (hr y (by simp)) (hr z (by simp [hz2])) hxy h3
        · have e := (cmpB_zero (hr y (by simp)) (hr z (by simp [hz2]))).1 (by omega)
          rw [← e]; exact hxy
/-- Sorted, and what comes twice left out: just what the document's putting makes. -/
theorem ofF_sorted {ps q : List (List Int)} (hno : ∀ p ∈ ps, badB p = false) (hp : q.Perm (nzB ps)) (hs : q.Pairwise fun x y => ¬ cmpB y x < 0) : ofF [] ps = some (cmpct q) := by
  cases e : ofF [] ps with
  | none =>
    obtain ⟨p, h1, h2⟩ := ofF_none.1 e
    rw [hno p h1] at h2; cases h2
  | some r =>
    obtain ⟨g, m⟩ := ofF_mems Good.nil e
    have hr : ∀ p ∈ q, rightB p = true := fun p h => (nzB_ok ps p (hp.mem_iff.1 h)).2
    rw [ext_rise g.up (cmpct_rise hr hs) (fun x => by rw [m x, cmpct_mem, hp.mem_iff]; simp)]
theorem cmpct_snoc : ∀ (l : List (List Int)) (x : List Int), cmpct (l ++ [x]) = if l.getLast? = some x then cmpct l else cmpct l ++ [x]
  | [], x => by simp [cmpct]
  | [y], x => by
    show cmpct [y, x] = _
    by_cases e : y = x
    · subst e; simp [cmpct]
    · simp [cmpct, e]
  | y :: z :: r, x => by
    have ih := cmpct_snoc (z :: r) x
    have hl : (y :: z :: r).getLast? = (z :: r).getLast? := by simp [List.getLast?_cons_cons]
    rw [hl]
    show cmpct (y :: z :: (r ++ [x])) = _
    rw [cmpct, cmpct]
    rw [show z :: (r ++ [x]) = (z :: r) ++ [x] from rfl, ih]
    by_cases e : y = z
    · rw [if_pos e, if_pos e]
    · rw [if_neg e, if_neg e]
      split <;> simp
theorem cmpct_length : ∀ l : List (List Int), (cmpct l).length ≤ l.length
  | [] => by simp [cmpct]
  | [x] => by simp [cmpct]
  | x :: y :: r => by
    have := cmpct_length (y :: r)
    rw [cmpct]
    split <;> simp at this ⊢ <;> omega
theorem take_last {l : List (List Int)} {k : Nat} (h0 : 0 < k) (hk : k ≤ l.length) : (l.take k).getLast? = l[k - 1]? := by
  rw [List.getLast?_eq_getElem?, List.length_take, Nat.min_eq_left hk, List.getElem?_take, if_pos (by omega)]
theorem cmpct_take {l : List (List Int)} {k : Nat} {x y : List Int} (h0 : 0 < k) (hy : l[k - 1]? = some y) (hx : l[k]? = some x) : cmpct (l.take (k + 1)) = if y = x then cmpct (l.take k) else cmpct (l.take k) ++ [x] := by
  have hk := (List.getElem?_eq_some_iff.1 hx).1
  rw [List.take_add_one, hx]
  show cmpct (l.take k ++ [x]) = _
  rw [cmpct_snoc, take_last h0 (by omega), hy]
  by_cases e : y = x
  · rw [if_pos e, if_pos (by rw [e])]
  · rw [if_neg e, if_neg (fun h => e (Option.some.inj h))]
end Go.Cb

/- Plain laws: words with noughts behind them; the words of a set in any order. -/
namespace Go.Cb
theorem cutB_pad {b zs : List Int} (hb : rightB b = true) (hz : ∀ x ∈ zs, x = 0) : cutB (b ++ zs) = b := by
  have h := cutB_eq (l := b ++ zs) (k := b.length) (by rw [List.length_append]; omega) (by rw [List.drop_left]; exact hz) (by
    rcases Nat.eq_zero_or_pos b.length with h0 | h0
    · exact .inl h0
    · refine .inr ⟨h0, ?_⟩
      unfold rightB at hb
      simp only [Bool.and_eq_true] at hb
      have h3 := hb.1.2
      rw [List.getLast?_eq_getElem?, List.getElem?_eq_getElem (by omega)] at h3
      rw [List.getElem_append_left (by omega)]
      intro e
      rw [e] at h3
      simp at h3)
  rw [h, List.take_left]
theorem normB_pad {b zs : List Int} (hb : rightB b = true) (hz : ∀ x ∈ zs, x = 0) : normB (b ++ zs) = b := by
  unfold normB
  rw [cutB_pad hb hz, if_pos hb]
theorem badB_pad {b zs : List Int} (hb : rightB b = true) (hz : ∀ x ∈ zs, x = 0) : badB (b ++ zs) = false := by
  unfold badB
  rw [normB_pad hb hz]
  cases b with
  | cons x r => rfl
  | nil =>
    have : zeroB ([] ++ zs) = true := by
      unfold zeroB
      rw [List.all_eq_true]
      intro x hx
      rw [hz x (by simpa using hx)]; rfl
    rw [this]; rfl
theorem ofF_any {xps P : List (List Int)} (hg : Good xps) (h1 : ∀ q ∈ P, (∃ p ∈ xps, q = p ++ [0, 0]) ∨ q = [] ∨ q = [0]) (h2 : ∀ p ∈ xps, p ++ [0, 0] ∈ P) : ofF [] P = some xps := by
  have hz : ∀ x ∈ [(0 : Int), 0], x = 0 := fun x hx => by simp at hx; exact hx
  cases e : ofF [] P with
  | none =>
    obtain ⟨q, hq, hb⟩ := ofF_none.1 e
    rcases h1 q hq with ⟨p, hp, rfl⟩ | rfl | rfl
    · rw [badB_pad (hg.each p hp).2 hz] at hb; cases hb
    · exact absurd hb (by decide)
    · exact absurd hb (by decide)
  | some r =>
    obtain ⟨g, m⟩ := ofF_mems Good.nil e
    congr 1
    refine ext_rise g.up hg.up (fun x => ?_)
    rw [m x]
    constructor
    · rintro (h | h)
      · simp at h
      · obtain ⟨h3, h4⟩ := List.mem_filter.1 h
        obtain ⟨q, hq, rfl⟩ := List.mem_map.1 h3
        rcases h1 q hq with ⟨p, hp, rfl⟩ | rfl | rfl
        · rw [normB_pad (hg.each p hp).2 hz]; exact hp
        · exact absurd h4 (by decide)
        · exact absurd h4 (by decide)
    · intro hx
      refine .inr (List.mem_filter.2 ⟨List.mem_map.2 ⟨x ++ [0, 0], h2 x hx, normB_pad (hg.each x hx).2 hz⟩, ?_⟩)
      have := (hg.each x hx).1
      simp [this]
def padB (xps : List (List Int)) : List (List Int) := xps.map fun p => p ++ [0, 0]
theorem made_any {xb : List Int} {xps P : List (List Int)} (hb : rightB xb = true) (hg : Good xps) (h1 : ∀ q ∈ P, (∃ p ∈ xps, q = p ++ [0, 0]) ∨ q = [] ∨ q = [0]) (h2 : ∀ p ∈ xps, p ++ [0, 0] ∈ P) : ofLin (xb ++ [0]) P = ((xb, xps), true) := by
  have hz : ∀ x ∈ [(0 : Int)], x = 0 := fun x hx => by simpa using hx
  rw [ofLin_yes (badB_pad hb hz) (ofF_any hg h1 h2), normB_pad hb hz]
theorem pad_mem {xps : List (List Int)} {q : List Int} (h : q ∈ padB xps) : ∃ p ∈ xps, q = p ++ [0, 0] := by
  obtain ⟨p, hp, rfl⟩ := List.mem_map.1 h
  exact ⟨p, hp, rfl⟩
theorem turn_ok {xb : List Int} {xps : List (List Int)} (hb : rightB xb = true) (hg : Good xps) {k : Nat} {pk : List Int} (hk : (padB xps)[k]? = some pk) :
    ofLin (xb ++ [0]) ((padB xps).drop k ++ (padB xps).take k ++ [pk, [], [0]]) = ((xb, xps), true) := by
  refine made_any hb hg (fun q hq => ?_) (fun p hp => ?_)
  · rcases List.mem_append.1 hq with hq | hq
    · rcases List.mem_append.1 hq with hq | hq
      · exact .inl (pad_mem (List.mem_of_mem_drop hq))
      · exact .inl (pad_mem (List.mem_of_mem_take hq))
    · simp at hq
      rcases hq with rfl | rfl | rfl
      · exact .inl (pad_mem (List.mem_of_getElem? hk))
      · exact .inr (.inl rfl)
      · exact .inr (.inr rfl)
  · have hm : p ++ [0, 0] ∈ padB xps := List.mem_map.2 ⟨p, hp, rfl⟩
    rw [← List.take_append_drop k (padB xps)] at hm
    rcases List.mem_append.1 hm with hm | hm
    · exact List.mem_append.2 (.inl (List.mem_append.2 (.inr hm)))
    · exact List.mem_append.2 (.inl (List.mem_append.2 (.inl hm)))
theorem none_ok {xb : List Int} (hb : rightB xb = true) : ofLin (xb ++ [0]) [] = ((xb, []), true) := made_any hb Good.nil (fun q hq => by simp at hq) (fun p hp => by simp at hp)
end Go.Cb

/- Plain laws: two linear sets together. -/
namespace Go.Cb
theorem normB_id {b : List Int} (hb : rightB b = true) : normB b = b := by
  have := normB_pad (zs := []) hb (fun x hx => by simp at hx)
  rwa [List.append_nil] at this
theorem badB_id {b : List Int} (hb : rightB b = true) : badB b = false := by
  have := badB_pad (zs := []) hb (fun x hx => by simp at hx)
  rwa [List.append_nil] at this
/-- Each word of one with each of the other. -/
def catL (x y : Lin) : Lin × Bool := if rightL x = true ∧ rightL y = true ∧ (addB x.1 y.1).2 = true then ofLin (addB x.1 y.1).1 (x.2 ++ y.2) else (([], []), false)
theorem catL_no1 {x y : Lin} (h : rightL x = false) : catL x y = (([], []), false) := by unfold catL; rw [if_neg (by simp [h])]
theorem catL_no2 {x y : Lin} (h : rightL y = false) : catL x y = (([], []), false) := by unfold catL; rw [if_neg (by simp [h])]
theorem catL_no3 {x y : Lin} (h : (addB x.1 y.1).2 = false) : catL x y = (([], []), false) := by unfold catL; rw [if_neg (by simp [h])]
theorem catL_of {x y : Lin} (h1 : rightL x = true) (h2 : rightL y = true) (h : (addB x.1 y.1).2 = true) : catL x y = ofLin (addB x.1 y.1).1 (x.2 ++ y.2) := by unfold catL; rw [if_pos ⟨h1, h2, h⟩]
theorem ofF_put : ∀ {ps acc : List (List Int)}, (∀ p ∈ ps, p.isEmpty = false ∧ rightB p = true) → ofF acc ps = some (ps.foldl putB acc)
  | [], acc, _ => rfl
  | p :: ps, acc, h => by
    have hp := h p (by simp)
    rw [ofF, if_neg (by rw [badB_id hp.2]; simp), normB_id hp.2, if_neg (by rw [hp.1]; simp), ofF_put (fun q hq => h q (by simp [hq]))]
    rfl
theorem nzB_id {ps : List (List Int)} (h : ∀ p ∈ ps, p.isEmpty = false ∧ rightB p = true) : nzB ps = ps := by
  unfold nzB
  have h1 : ps.map normB = ps := by
    conv => rhs; rw [← List.map_id ps]
    exact List.map_congr_left (fun p hp => normB_id (h p hp).2)
  rw [h1, List.filter_eq_self]
  intro p hp
  simp [(h p hp).1]
theorem lin_each {x y : Lin} (h1 : rightL x = true) (h2 : rightL y = true) : ∀ p ∈ x.2 ++ y.2, p.isEmpty = false ∧ rightB p = true := by
  obtain ⟨b, ps⟩ := x
  obtain ⟨c, qs⟩ := y
  intro p hp
  rcases List.mem_append.1 hp with hp | hp
  · exact (rightL_iff.1 h1).2.each p hp
  · exact (rightL_iff.1 h2).2.each p hp
/-- What two right sets are, together. -/
theorem catL_put {x y : Lin} (h1 : rightL x = true) (h2 : rightL y = true) (h : (addB x.1 y.1).2 = true) : catL x y = (((addB x.1 y.1).1, (x.2 ++ y.2).foldl putB []), true) := by
  rw [catL_of h1 h2 h, ofLin_yes (badB_id (addB_right h)) (ofF_put (lin_each h1 h2)), normB_id (addB_right h)]
theorem foldl_put {ps : List (List Int)} (h : ∀ p ∈ ps, p.isEmpty = false ∧ rightB p = true) : Good (ps.foldl putB []) ∧ (∀ x, x ∈ ps.foldl putB [] ↔ x ∈ ps) := by
  obtain ⟨g, m⟩ := ofF_mems Good.nil (ofF_put (acc := []) h)
  refine ⟨g, fun x => ?_⟩
  rw [m x, nzB_id h]
  simp
theorem foldl_put_len : ∀ (ps acc : List (List Int)), (ps.foldl putB acc).length ≤ acc.length + ps.length
  | [], acc => by simp
  | p :: ps, acc => by
    have := foldl_put_len ps (putB acc p)
    have h2 := putB_length acc p
    simp only [List.foldl_cons, List.length_cons]
    omega
theorem catL_right (x y : Lin) : rightL (catL x y).1 = true := by
  unfold catL
  split
  · exact ofLin_right _ _
  · decide
theorem catL_comm (x y : Lin) : catL x y = catL y x := by
  by_cases h : rightL x = true ∧ rightL y = true ∧ (addB x.1 y.1).2 = true
  · rw [catL_put h.1 h.2.1 h.2.2, catL_put h.2.1 h.1 (by rw [addB_comm]; exact h.2.2), addB_comm y.1 x.1]
    have e : (x.2 ++ y.2).foldl putB [] = (y.2 ++ x.2).foldl putB [] := by
      obtain ⟨g1, m1⟩ := foldl_put (lin_each h.1 h.2.1)
      obtain ⟨g2, m2⟩ := foldl_put (lin_each h.2.1 h.1)
      refine ext_rise g1.up g2.up (fun z => ?_)
      rw [m1, m2, List.mem_append, List.mem_append, or_comm]
    rw [e]
  · have h2 : ¬ (rightL y = true ∧ rightL x = true ∧ (addB y.1 x.1).2 = true) := fun k => h ⟨k.2.1, k.1, by rw [addB_comm]; exact k.2.2⟩
    unfold catL
    rw [if_neg h, if_neg h2]
theorem catL_assoc {x y z : Lin} (hx : rightL x = true) (hy : rightL y = true) (hz : rightL z = true) (h1 : (addB x.1 y.1).2 = true) (h2 : (addB (addB x.1 y.1).1 z.1).2 = true) (h3 : (addB y.1 z.1).2 = true) (h4 : (addB x.1 (addB y.1 z.1).1).2 = true) :
    catL (catL x y).1 z = catL x (catL y z).1 := by
  have r1 := catL_right x y
  have r2 := catL_right y z
  obtain ⟨g1, m1⟩ := foldl_put (lin_each hx hy)
  obtain ⟨g2, m2⟩ := foldl_put (lin_each hy hz)
  rw [catL_put hx hy h1] at r1 ⊢
  rw [catL_put hy hz h3] at r2 ⊢
  dsimp only at r1 r2 ⊢
  rw [catL_put r1 hz h2, catL_put hx r2 h4, addB_assoc h1 h2 h3 h4]
  obtain ⟨g3, m3⟩ := foldl_put (lin_each r1 hz)
  obtain ⟨g4, m4⟩ := foldl_put (lin_each hx r2)
  have e : ((x.2 ++ y.2).foldl putB [] ++ z.2).foldl putB [] = (x.2 ++ (y.2 ++ z.2).foldl putB []).foldl putB [] := by
    refine ext_rise g3.up g4.up (fun u => ?_)
    rw [m3, m4]
    dsimp only
    rw [List.mem_append, List.mem_append, m1, m2, List.mem_append, List.mem_append, or_assoc]
  dsimp only
  rw [e]
theorem catL_len (x y : Lin) : (catL x y).1.2.length ≤ x.2.length + y.2.length := by
  by_cases h : rightL x = true ∧ rightL y = true ∧ (addB x.1 y.1).2 = true
  · rw [catL_put h.1 h.2.1 h.2.2]
    have := foldl_put_len (x.2 ++ y.2) []
    simpa using this
  · unfold catL
    rw [if_neg h]
    simp
theorem catL_point {x y : Lin} (h1 : rightL x = true) (h2 : rightL y = true) (h : (addB x.1 y.1).2 = true) : (catL x y).1.2.isEmpty = (x.2.isEmpty && y.2.isEmpty) := by
  rw [catL_put h1 h2 h]
  obtain ⟨g, m⟩ := foldl_put (lin_each h1 h2)
  dsimp only
  rw [Bool.eq_iff_iff]
  simp only [Bool.and_eq_true, List.isEmpty_iff]
  constructor
  · intro e
    have : ∀ z, ¬ z ∈ x.2 ++ y.2 := fun z hz => by
      have := (m z).2 hz
      rw [e] at this; simp at this
    have h3 : x.2 ++ y.2 = [] := List.eq_nil_iff_forall_not_mem.2 this
    exact List.append_eq_nil_iff.1 h3
  · rintro ⟨e1, e2⟩
    rw [e1, e2]; rfl
theorem madeL_base (l : List Int) : ∀ i, (madeL l).1.getD i 0 < 40 := by
  intro i
  have h : (madeL l).1 = [] ∨ (madeL l).1 = playBag l := by
    unfold madeL ofLin
    split
    · exact .inl rfl
    · split
      · exact .inl rfl
      · exact .inr (normB_id (playBag_right l))
  rcases h with h | h <;> rw [h]
  · simp
  · by_cases hi : i < (playBag l).length
    · rw [getD_of hi]; exact (playBag_small l _ (List.getElem_mem hi)).2
    · rw [getD_out (by omega)]; omega
theorem ofF_len2 (ps acc q : List (List Int)) (h : ofF acc ps = some q) : q.length ≤ acc.length + ps.length := by
  induction ps generalizing acc with
  | nil => unfold ofF at h; injection h with h; subst h; simp
  | cons p ps ih =>
    unfold ofF at h
    split at h
    · exact nomatch h
    · have := ih _ h
      have hp := putB_length acc (normB p)
      split at this <;> simp only [List.length_cons] <;> omega
theorem ofLin_len (b : List Int) (ps : List (List Int)) : (ofLin b ps).1.2.length ≤ ps.length := by
  unfold ofLin
  split
  · simp
  · split
    · simp
    · rename_i q h
      have := ofF_len2 _ _ _ h
      simpa using this
theorem madeL_len3 (l : List Int) : (madeL l).2.length ≤ 3 := by
  unfold madeL
  have := ofLin_len (playBag l) (madeTo l (madeN l))
  rw [madeTo_length] at this
  have h3 : madeN l ≤ 3 := by unfold madeN; (split; · omega); (split; · omega); (split; · omega); omega
  omega
theorem small_add {x y : Lin} (hx : rightL x = true) (hy : rightL y = true) {m n : Int} (h1 : ∀ i, x.1.getD i 0 < m) (h2 : ∀ i, y.1.getD i 0 < n) (h : m + n ≤ 1000) : (addB x.1 y.1).2 = true := by
  obtain ⟨b, ps⟩ := x
  obtain ⟨c, qs⟩ := y
  refine addB_small (rightL_iff.1 hx).1 (rightL_iff.1 hy).1 (fun i => ?_)
  have := h1 i
  have := h2 i
  unfold far
  dsimp only at *
  omega
theorem cat_fst {x y : Lin} (hx : rightL x = true) (hy : rightL y = true) (h : (addB x.1 y.1).2 = true) : (catL x y).1.1 = (addB x.1 y.1).1 ∧ (catL x y).2 = true := by
  rw [catL_put hx hy h]; exact ⟨rfl, rfl⟩
theorem cat_small {x y : Lin} (hx : rightL x = true) (hy : rightL y = true) {m n : Int} (h1 : ∀ i, x.1.getD i 0 < m) (h2 : ∀ i, y.1.getD i 0 < n) (h : m + n ≤ 1000) : ∀ i, (catL x y).1.1.getD i 0 < m + n := fun i => by
  have hs := small_add hx hy h1 h2 h
  rw [(cat_fst hx hy hs).1, addB_getD hs]
  have := h1 i
  have := h2 i
  omega
theorem cat_law {x y z : Lin} (hx : rightL x = true) (hy : rightL y = true) (hz : rightL z = true) (bx : ∀ i, x.1.getD i 0 < 40) (by_ : ∀ i, y.1.getD i 0 < 40) (bz : ∀ i, z.1.getD i 0 < 40) (lx : x.2.length ≤ 3) (ly : y.2.length ≤ 3) (lz : z.2.length ≤ 3) :
    ∃ p l yz : Lin, catL x y = (p, true) ∧ catL y x = (p, true) ∧ catL p z = (l, true) ∧ catL y z = (yz, true) ∧ catL x yz = (l, true) ∧ addB x.1 y.1 = (p.1, true) ∧ rightL p = true ∧ p.2.length ≤ x.2.length + y.2.length ∧
      p.2.isEmpty = (x.2.isEmpty && y.2.isEmpty) ∧ yz.2.length ≤ 6 := by
  have s1 := small_add hx hy bx by_ (by omega)
  have s3 := small_add hy hz by_ bz (by omega)
  have r1 := catL_right x y
  have r3 := catL_right y z
  have s2 := small_add r1 hz (cat_small hx hy bx by_ (by omega)) bz (by omega)
  have s4 := small_add hx r3 bx (cat_small hy hz by_ bz (by omega)) (by omega)
  rw [(cat_fst hx hy s1).1] at s2
  rw [(cat_fst hy hz s3).1] at s4
  have e1 : catL x y = ((catL x y).1, true) := by rw [← (cat_fst hx hy s1).2]
  have e3 : catL y z = ((catL y z).1, true) := by rw [← (cat_fst hy hz s3).2]
  have e2 : catL (catL x y).1 z = ((catL (catL x y).1 z).1, true) := by
    have := (cat_fst r1 hz (by rw [(cat_fst hx hy s1).1]; exact s2)).2
    rw [← this]
  refine ⟨(catL x y).1, (catL (catL x y).1 z).1, (catL y z).1, e1, by rw [catL_comm y x]; exact e1, e2, e3, ?_, ?_, r1, catL_len x y, catL_point hx hy s1, by have := catL_len y z; omega⟩
  · rw [← catL_assoc hx hy hz s1 s2 s3 s4]; exact e2
  · rw [(cat_fst hx hy s1).1, ← s1]
end Go.Cb

/- Plain laws of tables: lists of keys and values, the keys rising. -/
namespace Go.Cb
/-- What a comparison of keys is. -/
structure KOrd {κ : Type} (cf : κ → κ → Int) : Prop where
  zero : ∀ a b, cf a b = 0 ↔ a = b
  neg : ∀ a b, cf a b < 0 ↔ 0 < cf b a
  trans : ∀ a b c, cf a b < 0 → cf b c < 0 → cf a c < 0
section
variable {κ β : Type} (cf : κ → κ → Int)
def tabOk (xs : List (κ × β)) : Prop := xs.Pairwise fun a b => cf a.1 b.1 < 0
/-- p is where k stands, or would. -/
def AtT (xs : List (κ × β)) (k : κ) (p : Nat) : Prop := p ≤ xs.length ∧ (∀ i x, i < p → xs[i]? = some x → cf x.1 k < 0) ∧ ∀ i x, p ≤ i → xs[i]? = some x → 0 ≤ cf x.1 k
def posT (xs : List (κ × β)) (k : κ) : Nat := xs.countP fun x => decide (cf x.1 k < 0)
def hasT (xs : List (κ × β)) (k : κ) : Bool := (xs[posT cf xs k]?).any fun x => cf x.1 k == 0
def putT (xs : List (κ × β)) (k : κ) (v : β) : List (κ × β) := if hasT cf xs k then xs.set (posT cf xs k) (k, v) else xs.take (posT cf xs k) ++ (k, v) :: xs.drop (posT cf xs k)
def dropT (xs : List (κ × β)) (k : κ) : List (κ × β) := if hasT cf xs k then xs.take (posT cf xs k) ++ xs.drop (posT cf xs k + 1) else xs
def getT (xs : List (κ × β)) (k : κ) : Option β := if hasT cf xs k then (xs[posT cf xs k]?).map (·.2) else none
variable {cf}
theorem countP_at {α : Type} (p : α → Bool) : ∀ (xs : List α) (n : Nat), n ≤ xs.length → (∀ i x, i < n → xs[i]? = some x → p x = true) → (∀ i x, n ≤ i → xs[i]? = some x → p x = false) → xs.countP p = n
  | [], n, hn, _, _ => by simp at hn; simp [hn]
  | x :: xs, 0, _, _, h2 => by
    rw [List.countP_cons_of_neg (by have := h2 0 x (Nat.le_refl _) rfl; simp [this])]
    exact countP_at p xs 0 (Nat.zero_le _) (fun i _ h => absurd h (by omega)) (fun i y _ hy => h2 (i + 1) y (Nat.zero_le _) hy)
  | x :: xs, n + 1, hn, h1, h2 => by
    rw [List.countP_cons_of_pos (h1 0 x (by omega) rfl), countP_at p xs n (by simpa using hn) (fun i y hi hy => h1 (i + 1) y (by omega) hy) (fun i y hi hy => h2 (i + 1) y (by omega) hy)]
theorem AtT.pos {xs : List (κ × β)} {k : κ} {p : Nat} (h : AtT cf xs k p) : posT cf xs k = p :=
  countP_at _ xs p h.1 (fun i x hi hx => decide_eq_true (h.2.1 i x hi hx)) (fun i x hi hx => decide_eq_false (by have := h.2.2 i x hi hx; omega))
theorem pair_lt {xs : List (κ × β)} (hs : tabOk cf xs) {i j : Nat} {x y : κ × β} (h : i < j) (hx : xs[i]? = some x) (hy : xs[j]? = some y) : cf x.1 y.1 < 0 := by
  obtain ⟨h1, rfl⟩ := List.getElem?_eq_some_iff.1 hx
  obtain ⟨h2, rfl⟩ := List.getElem?_eq_some_iff.1 hy
  exact List.pairwise_iff_getElem.1 hs i j h1 h2 h
theorem atT {xs : List (κ × β)} (O : KOrd cf) (hs : tabOk cf xs) (k : κ) : AtT cf xs k (posT cf xs k) := by
  suffices h : ∃ p, AtT cf xs k p by
    obtain ⟨p, h⟩ := h
    rw [h.pos]; exact h
  induction xs with
  | nil => exact ⟨0, Nat.zero_le _, fun i x _ hx => by simp at hx, fun i x _ hx => by simp at hx⟩
  | cons x xs ih =>
    have hs2 : tabOk cf xs := (List.pairwise_cons.1 hs).2
    obtain ⟨p, h0, h1, h2⟩ := ih hs2
    by_cases hc : cf x.1 k < 0
    · refine ⟨p + 1, by simpa using h0, fun i y hi hy => ?_, fun i y hi hy => ?_⟩
      · cases i with
        | zero => simp at hy; rw [← hy]; exact hc
        | succ i => exact h1 i y (by omega) (by simpa using hy)
      · cases i with
        | zero => omega
        | succ i => exact h2 i y (by omega) (by simpa using hy)
    · refine ⟨0, Nat.zero_le _, fun i y hi _ => absurd hi (by omega), fun i y _ hy => ?_⟩
      cases i with
      | zero => simp at hy; rw [← hy]; omega
      | succ i =>
        have hy' : xs[i]? = some y := by simpa using hy
        have hl : cf x.1 y.1 < 0 := pair_lt hs (i := 0) (j := i + 1) (by omega) rfl hy
        by_cases e : cf y.1 k < 0
        · exact absurd (O.trans _ _ _ hl e) hc
        · omega
theorem posT_le (xs : List (κ × β)) (k : κ) : posT cf xs k ≤ xs.length := List.countP_le_length
theorem hasT_iff {xs : List (κ × β)} (O : KOrd cf) {k : κ} : hasT cf xs k = true ↔ ∃ v, xs[posT cf xs k]? = some (k, v) := by
  unfold hasT
  cases h : xs[posT cf xs k]? with
  | none => simp
  | some x =>
    obtain ⟨a, v⟩ := x
    simp [O.zero]
theorem hasT_lt {xs : List (κ × β)} {k : κ} (h : hasT cf xs k = true) : posT cf xs k < xs.length := by
  unfold hasT at h
  cases hx : xs[posT cf xs k]? with
  | none => rw [hx] at h; simp at h
  | some x => exact (List.getElem?_eq_some_iff.1 hx).1
theorem tabOk_nil : tabOk cf ([] : List (κ × β)) := List.Pairwise.nil
theorem take_lt {xs : List (κ × β)} {k : κ} {p : Nat} (h : AtT cf xs k p) : ∀ x ∈ xs.take p, cf x.1 k < 0 := by
  intro x hx
  obtain ⟨i, hi, rfl⟩ := List.getElem_of_mem hx
  have hi' := hi
  rw [List.length_take] at hi'
  rw [List.getElem_take]
  exact h.2.1 i _ (by omega) (List.getElem?_eq_getElem (by omega))
theorem drop_gt {xs : List (κ × β)} {k : κ} {p : Nat} (O : KOrd cf) (hs : tabOk cf xs) (h : AtT cf xs k p) (hn : ∀ v, xs[p]? ≠ some (k, v)) : ∀ x ∈ xs.drop p, 0 < cf x.1 k := by
  intro x hx
  obtain ⟨i, hi, rfl⟩ := List.getElem_of_mem hx
  have hi' := hi
  rw [List.length_drop] at hi'
  rw [List.getElem_drop]
  have h1 := h.2.2 (p + i) _ (by omega) (List.getElem?_eq_getElem (by omega))
  rcases Int.lt_or_eq_of_le h1 with h1 | h1
  · exact h1
  · have hk : xs[p + i].1 = k := (O.zero _ _).1 h1.symm
    exfalso
    cases i with
    | zero => exact hn xs[p].2 (by rw [List.getElem?_eq_getElem (by omega)]; simp at hk ⊢; exact Prod.ext hk rfl)
    | succ i =>
      have h2 := pair_lt hs (i := p) (j := p + (i + 1)) (by omega) (List.getElem?_eq_getElem (by omega)) (List.getElem?_eq_getElem (by omega))
      have h3 := h.2.2 p _ (Nat.le_refl _) (List.getElem?_eq_getElem (by omega))
      rw [hk] at h2
      omega
theorem putT_ok {xs : List (κ × β)} (O : KOrd cf) (hs : tabOk cf xs) (k : κ) (v : β) : tabOk cf (putT cf xs k v) := by
  have ha := atT O hs k
  unfold putT
  by_cases h : hasT cf xs k = true
  · rw [if_pos h]
    obtain ⟨u, hu⟩ := (hasT_iff O).1 h
    unfold tabOk at *
    rw [List.pairwise_iff_getElem] at hs ⊢
    intro i j hi hj hij
    rw [List.length_set] at hi hj
    have hp := hasT_lt h
    have e : xs[posT cf xs k].1 = k := by
      have := (List.getElem?_eq_some_iff.1 hu).2
      rw [this]
    have hg := hs i j hi hj hij
    rw [List.getElem_set, List.getElem_set]
    split <;> split
    · omega
    · rename_i h1 h2; subst h1; rw [e] at hg; exact hg
    · rename_i h1 h2; subst h2; rw [e] at hg; exact hg
    · exact hg
  · rw [if_neg h]
    have hn : ∀ v, xs[posT cf xs k]? ≠ some (k, v) := fun v hv => h ((hasT_iff O).2 ⟨v, hv⟩)
    have hd := drop_gt O hs ha hn
    have ht := take_lt ha
    have hs2 : (xs.take (posT cf xs k) ++ xs.drop (posT cf xs k)).Pairwise fun a b => cf a.1 b.1 < 0 := by rw [List.take_append_drop]; exact hs
    obtain ⟨p1, p2, p3⟩ := List.pairwise_append.1 hs2
    refine List.pairwise_append.2 ⟨p1, List.pairwise_cons.2 ⟨fun b hb => (O.neg _ _).2 (hd b hb), p2⟩, fun a ha b hb => ?_⟩
    rcases List.mem_cons.1 hb with rfl | hb
    · exact ht a ha
    · exact p3 a ha b hb
theorem dropT_ok {xs : List (κ × β)} (hs : tabOk cf xs) (k : κ) : tabOk cf (dropT cf xs k) := by
  unfold dropT
  split
  · rw [← List.eraseIdx_eq_take_drop_succ]
    exact List.Pairwise.sublist (List.eraseIdx_sublist _ _) hs
  · exact hs
theorem getT_iff {xs : List (κ × β)} (O : KOrd cf) (hs : tabOk cf xs) {k : κ} {v : β} : getT cf xs k = some v ↔ (k, v) ∈ xs := by
  have ha := atT O hs k
  unfold getT
  constructor
  · intro h
    by_cases hh : hasT cf xs k = true
    · rw [if_pos hh] at h
      obtain ⟨u, hu⟩ := (hasT_iff O).1 hh
      rw [hu] at h
      simp at h
      subst h
      exact List.mem_of_getElem? hu
    · rw [if_neg hh] at h; cases h
  · intro h
    obtain ⟨i, hi, he⟩ := List.getElem_of_mem h
    have hx : xs[i]? = some (k, v) := by rw [List.getElem?_eq_getElem hi, he]
    have hp : posT cf xs k = i := by
      refine AtT.pos ⟨by omega, fun j x hj hx2 => ?_, fun j x hj hx2 => ?_⟩
      · exact pair_lt hs hj hx2 hx
      · rcases Nat.lt_or_eq_of_le hj with hj | rfl
        · have h1 : cf k x.1 < 0 := pair_lt hs hj hx hx2
          have h2 := (O.neg _ _).1 h1
          omega
        · rw [hx] at hx2
          injection hx2 with e
          rw [← e, (O.zero _ _).2 rfl]
          exact Int.le_refl 0
    have hh : hasT cf xs k = true := (hasT_iff O).2 ⟨v, by rw [hp]; exact hx⟩
    rw [if_pos hh, hp, hx]
    rfl
theorem getT_none {xs : List (κ × β)} {k : κ} : getT cf xs k = none ↔ hasT cf xs k = false := by
  unfold getT
  cases h : hasT cf xs k with
  | false => simp
  | true =>
    have := hasT_lt h
    simp
    omega
theorem putT_mem {xs : List (κ × β)} (O : KOrd cf) (hs : tabOk cf xs) (k : κ) (v : β) (x : κ × β) : x ∈ putT cf xs k v ↔ x = (k, v) ∨ (x ∈ xs ∧ x.1 ≠ k) := by
  have ha := atT O hs k
  unfold putT
  by_cases h : hasT cf xs k = true
  · rw [if_pos h]
    obtain ⟨u, hu⟩ := (hasT_iff O).1 h
    have hp := hasT_lt h
    constructor
    · intro hx
      obtain ⟨i, hi, he⟩ := List.getElem_of_mem hx
      rw [List.length_set] at hi
      rw [List.getElem_set] at he
      split at he
      · exact .inl he.symm
      · rename_i hne
        refine .inr ⟨he ▸ List.getElem_mem hi, fun e => hne ?_⟩
        have h1 : xs[i]? = some x := by rw [List.getElem?_eq_getElem hi, he]
        rcases Nat.lt_trichotomy i (posT cf xs k) with hl | hl | hl
        · have := ha.2.1 i x hl h1
          rw [e, (O.zero _ _).2 rfl] at this; omega
        · exact hl.symm
        · have := pair_lt hs hl hu h1
          rw [e, (O.zero _ _).2 rfl] at this; omega
    · rintro (rfl | ⟨hx, hne⟩)
      · exact List.mem_of_getElem? (i := posT cf xs k) (by rw [List.getElem?_set_self hp])
      · obtain ⟨i, hi, he⟩ := List.getElem_of_mem hx
        refine List.mem_of_getElem? (i := i) ?_
        rw [List.getElem?_set_ne, List.getElem?_eq_getElem hi, he]
        rintro rfl
        rw [List.getElem?_eq_getElem hi, he] at hu
        injection hu with hu
        exact hne (by rw [hu])
  · rw [if_neg h]
    have hn : ∀ v, xs[posT cf xs k]? ≠ some (k, v) := fun v hv => h ((hasT_iff O).2 ⟨v, hv⟩)
    have hd := drop_gt O hs ha hn
    have ht := take_lt ha
    have hm : ∀ y, y ∈ xs ↔ y ∈ xs.take (posT cf xs k) ∨ y ∈ xs.drop (posT cf xs k) := fun y => by rw [← List.mem_append, List.take_append_drop]
    rw [List.mem_append, List.mem_cons, hm]
    constructor
    · rintro (hx | rfl | hx)
      · exact .inr ⟨.inl hx, fun e => by have := ht x hx; rw [e, (O.zero _ _).2 rfl] at this; omega⟩
      · exact .inl rfl
      · exact .inr ⟨.inr hx, fun e => by have := hd x hx; rw [e, (O.zero _ _).2 rfl] at this; omega⟩
    · rintro (rfl | ⟨hx | hx, _⟩)
      · exact .inr (.inl rfl)
      · exact .inl hx
      · exact .inr (.inr hx)
theorem putT_length (xs : List (κ × β)) (k : κ) (v : β) : (putT cf xs k v).length = if hasT cf xs k then xs.length else xs.length + 1 := by
  have := posT_le (cf := cf) xs k
  unfold putT
  split
  · rw [List.length_set]
  · simp only [List.length_append, List.length_cons, List.length_take, List.length_drop]
    omega
end
theorem cmpI_ord : KOrd cmpI where
  zero := fun a b => cmpI_zero
  neg := fun a b => by rw [cmpI_neg a b]; omega
  trans := fun a b c h1 h2 => by
    have := cmpI_range a b
    have := cmpI_range b c
    have e1 := cmpI_neg1.1 (show cmpI a b = -1 by omega)
    have e2 := cmpI_neg1.1 (show cmpI b c = -1 by omega)
    rw [cmpI_lt (show a < c by omega)]; omega
end Go.Cb

/- The library: rows of pairs, two cells each; copies within and between rows. -/
namespace Go.Cb
open Go.RowKit
theorem run_copy_k {P : Program} (w : World) (dT sT ty elem : TypeId) (b o dLen dCap : Nat) (a : Addr) (sLen sCap m k : Nat) (cs : List Value)
    (hu : P.underlying dT = some (.slice elem)) (hs : (P.info? elem).map (·.size) = some k) (hm : m = Nat.min sLen dLen) (hn : cs.length = m * k)
    (hsrc : ∀ j v, cs[j]? = some v → w.cell? (a.add j) = some v) (hc : ∀ j, j < cs.length → (w.cell? ⟨b, o + j, none⟩).isSome = true) (hf : ∀ j, j < cs.length → w.frozen? ⟨b, o + j, none⟩ = false) (h1 : ∀ v ∈ cs, v.oneCell' = true) :
    (Builtin.copy_ #[dT, sT] ty #[.slice (some ⟨b, o, none⟩) dLen dCap, .slice (some a) sLen sCap]).run P w = .ok (goInt m) (w.setCells b o cs) := by
  have hl := run_loadCells_list (P := P) w a cs hsrc
  have hst := run_storeCells_cells (P := P) b o cs 0 w (by simpa using hc) (by simpa using hf) h1
  cases hq : P.info? elem with
  | none => simp [hq] at hs
  | some i =>
    have hi : i.size = k := by simpa [hq] using hs
    simp [Builtin.copy_, run_underlying hu, Builtin.lenOf, Builtin.firstCells, sizeOf, typeInfo, hq, hi, ← hm, ← hn, hl, hst]
section
variable {κ β : Type} (eK : κ → Value) (eV : β → Value)
def flat2 (xs : List (κ × β)) : List Value := xs.flatMap fun x => [eK x.1, eV x.2]
variable {eK eV}
theorem flat2_nil : flat2 eK eV [] = [] := rfl
theorem flat2_cons (x : κ × β) (xs : List (κ × β)) : flat2 eK eV (x :: xs) = eK x.1 :: eV x.2 :: flat2 eK eV xs := rfl
theorem flat2_append (xs ys : List (κ × β)) : flat2 eK eV (xs ++ ys) = flat2 eK eV xs ++ flat2 eK eV ys := by simp [flat2]
theorem flat2_length (xs : List (κ × β)) : (flat2 eK eV xs).length = xs.length * 2 := by
  induction xs with
  | nil => rfl
  | cons x xs ih => rw [flat2_cons, List.length_cons, List.length_cons, List.length_cons, ih]; omega
theorem flat2_take : ∀ (xs : List (κ × β)) (n : Nat), (flat2 eK eV xs).take (n * 2) = flat2 eK eV (xs.take n)
  | [], n => by simp [flat2]
  | x :: xs, 0 => by simp [flat2]
  | x :: xs, n + 1 => by
    rw [show (n + 1) * 2 = n * 2 + 1 + 1 by omega, flat2_cons, List.take_succ_cons, List.take_succ_cons, flat2_take xs n, List.take_succ_cons, flat2_cons]
theorem flat2_drop : ∀ (xs : List (κ × β)) (n : Nat), (flat2 eK eV xs).drop (n * 2) = flat2 eK eV (xs.drop n)
  | [], n => by simp [flat2]
  | x :: xs, 0 => by simp [flat2]
  | x :: xs, n + 1 => by
    rw [show (n + 1) * 2 = n * 2 + 1 + 1 by omega, flat2_cons, List.drop_succ_cons, List.drop_succ_cons, flat2_drop xs n, List.drop_succ_cons]
theorem flat2_get {xs : List (κ × β)} {j : Nat} {x : κ × β} (h : xs[j]? = some x) : (flat2 eK eV xs)[j * 2]? = some (eK x.1) ∧ (flat2 eK eV xs)[j * 2 + 1]? = some (eV x.2) := by
  have hlt := (List.getElem?_eq_some_iff.1 h).1
  have e : xs.drop j = x :: xs.drop (j + 1) := by
    rw [List.drop_eq_getElem_cons hlt]
    congr 1
    exact (List.getElem?_eq_some_iff.1 h).2
  have h1 := flat2_drop (eK := eK) (eV := eV) xs j
  rw [e, flat2_cons] at h1
  constructor
  · have := List.getElem?_drop (xs := flat2 eK eV xs) (i := j * 2) (j := 0)
    rw [h1] at this
    simpa using this.symm
  · have := List.getElem?_drop (xs := flat2 eK eV xs) (i := j * 2) (j := 1)
    rw [h1] at this
    simpa using this.symm
theorem flat2_one (hK : ∀ x, (eK x).oneCell' = true) (hV : ∀ x, (eV x).oneCell' = true) (xs : List (κ × β)) : ∀ u ∈ flat2 eK eV xs, u.oneCell' = true := by
  intro u hu
  obtain ⟨x, _, hx⟩ := List.mem_flatMap.1 hu
  simp at hx
  rcases hx with rfl | rfl
  · exact hK _
  · exact hV _
theorem flat2_set {xs : List (κ × β)} {j : Nat} {x : κ × β} (h : xs[j]? = some x) (u : β) : (flat2 eK eV xs).set (j * 2 + 1) (eV u) = flat2 eK eV (xs.set j (x.1, u)) := by
  induction xs generalizing j with
  | nil => simp at h
  | cons y ys ih =>
    cases j with
    | zero =>
      simp at h
      subst h
      rfl
    | succ j =>
      rw [show (j + 1) * 2 + 1 = j * 2 + 1 + 1 + 1 by omega, flat2_cons, List.set_cons_succ, List.set_cons_succ, ih (by simpa using h), List.set_cons_succ, flat2_cons]
end

theorem cells_one {v : Value} (h : v.oneCell' = true) : v.cells = #[v] := by
  cases v <;> first | rfl | (simp [Value.oneCell'] at h)
/-! ### cells in a row -/
def setL : List Value → Nat → List Value → List Value
  | xs, _, [] => xs
  | xs, o, c :: cs => setL (xs.set o c) (o + 1) cs
theorem setL_eq : ∀ (cs xs : List Value) (o : Nat), o + cs.length ≤ xs.length → setL xs o cs = xs.take o ++ cs ++ xs.drop (o + cs.length)
  | [], xs, o, h => by simp [setL]
  | c :: cs, xs, o, h => by
    simp only [List.length_cons] at h
    rw [setL, setL_eq cs _ _ (by rw [List.length_set]; omega)]
    rw [show (xs.set o c).take (o + 1) = xs.take o ++ [c] from by
      rw [List.take_add_one, List.getElem?_set_self (by omega), List.take_set_of_le (Nat.le_refl _)]; rfl]
    rw [List.drop_set_of_lt (by omega), List.length_cons, show o + 1 + cs.length = o + (cs.length + 1) by omega]
    simp
theorem ownsRow_setCells {base : Nat} {e : TypeId} {size g n cap : Nat} : ∀ (cs : List Value) (o : Nat) (w : World) (xs : List Value), w.ownsRow base e size (.slice (some ⟨g, 0, none⟩) n cap) n xs →
    (w.setCells g o cs).ownsRow base e size (.slice (some ⟨g, 0, none⟩) n cap) n (setL xs o cs) ∧ w.grownBy (w.setCells g o cs) (some g) ∧ (w.setCells g o cs).heap.size = w.heap.size
  | [], o, w, xs, h => ⟨h, ⟨rfl, rfl, rfl, Nat.le_refl _, fun _ _ _ => rfl⟩, rfl⟩
  | c :: cs, o, w, xs, h => by
    rw [World.setCells, setL]
    obtain ⟨h1, h2⟩ := h.stored o c
    obtain ⟨h3, h4, h5⟩ := ownsRow_setCells cs (o + 1) _ _ h1
    have hs : (w.setCell ⟨g, o, none⟩ c).heap.size = w.heap.size := by simp [World.setCell]
    refine ⟨h3, ⟨h4.os.trans h2.os, h4.tape.trans h2.tape, h4.output.trans h2.output, Nat.le_trans h2.size h4.size, fun k hk hne => (h4.block k (by omega) hne).trans (h2.block k hk hne)⟩, by omega⟩
theorem ownsRow_extend {w : World} {base : Nat} {e : TypeId} {size g n cap : Nat} {xs : List Value} (h : w.ownsRow base e size (.slice (some ⟨g, 0, none⟩) n cap) n xs) (hc : n + 1 ≤ cap) :
    ∃ junk, junk.length = size ∧ w.ownsRow base e size (.slice (some ⟨g, 0, none⟩) (n + 1) cap) (n + 1) (xs ++ junk) := by
  obtain ⟨hl, h2⟩ := h
  rcases h2 with ⟨h2, _⟩ | ⟨g', cap', cur, he, hb, hg, hn, hm, hs, ht⟩
  · simp at h2
  · injection he with he1 _ he2
    injection he1 with he1
    injection he1 with he1
    subst he1 he2
    have hle : (n + 1) * size ≤ cap * size := Nat.mul_le_mul_right _ hc
    have e1 : (n + 1) * size = n * size + size := Nat.succ_mul _ _
    have hj : ((cur.toList.drop (n * size)).take size).length = size := by
      rw [List.length_take, List.length_drop, Array.length_toList]
      omega
    refine ⟨(cur.toList.drop (n * size)).take size, hj, ?_, .inr ⟨g, cap, cur, rfl, hb, hg, hc, hm, hs, ?_⟩⟩
    · rw [List.length_append, hj, hl, e1]
    · rw [e1, List.take_add, ht]
theorem ownsRow_prefix {w : World} {base : Nat} {e : TypeId} {size g n cap : Nat} {xs : List Value} (h : w.ownsRow base e size (.slice (some ⟨g, 0, none⟩) n cap) n xs) {i : Nat} (hi : i ≤ n) :
    w.ownsRow base e size (.slice (some ⟨g, 0, none⟩) i cap) i (xs.take (i * size)) := by
  obtain ⟨hl, h2⟩ := h
  rcases h2 with ⟨h2, _⟩ | ⟨g', cap', cur, he, hb, hg, hn, hm, hs, ht⟩
  · simp at h2
  · injection he with he1 _ he2
    injection he1 with he1
    injection he1 with he1
    subst he1 he2
    have hle : i * size ≤ n * size := Nat.mul_le_mul_right _ hi
    refine ⟨by rw [List.length_take]; omega, .inr ⟨g, cap, cur, rfl, hb, hg, by omega, hm, hs, ?_⟩⟩
    rw [← ht, List.take_take, Nat.min_eq_left hle]
theorem insert_list {F junk : List Value} {i n : Nat} (p : List Value) (hF : F.length = n * 2) (hj : junk.length = 2) (hp : p.length = 2) (hi : i ≤ n) :
    setL (setL (F ++ junk) ((i + 1) * 2) (F.drop (i * 2))) (i * 2) p = F.take (i * 2) ++ p ++ F.drop (i * 2) := by
  have h1 : setL (F ++ junk) ((i + 1) * 2) (F.drop (i * 2)) = (F ++ junk).take ((i + 1) * 2) ++ F.drop (i * 2) := by
    rw [setL_eq _ _ _ (by rw [List.length_drop, List.length_append]; omega), List.drop_eq_nil_of_le (as := F ++ junk) (by rw [List.length_drop, List.length_append]; omega), List.append_nil]
  have hl : ((F ++ junk).take ((i + 1) * 2)).length = (i + 1) * 2 := by rw [List.length_take, List.length_append]; omega
  rw [h1, setL_eq _ _ _ (by rw [List.length_append, List.length_drop]; omega)]
  rw [List.take_append_of_le_length (by omega), List.take_take, Nat.min_eq_left (by omega), List.take_append_of_le_length (by omega)]
  rw [List.drop_append, List.drop_eq_nil_of_le (by omega), List.nil_append, hl, show i * 2 + p.length - (i + 1) * 2 = 0 by omega, List.drop_zero]

/-! ### rows of pairs; tables -/
section
variable {κ β : Type} {eK : κ → Value} {eV : β → Value}
/-- v is a row of the call's own that reads as the pairs xs. -/
def RowP (eK : κ → Value) (eV : β → Value) (e : TypeId) (w : World) (base : Nat) (v : Value) (xs : List (κ × β)) : Prop := w.ownsRow base e 2 v xs.length (flat2 eK eV xs)
theorem RowP.step {e : TypeId} {w w' : World} {base : Nat} {v : Value} {xs : List (κ × β)} (h : RowP eK eV e w base v xs) (hm : ∀ k, v.ownBlock = some k → w'.heap[k]? = w.heap[k]?) : RowP eK eV e w' base v xs := ownsRow_step h hm
theorem RowP.nil (e : TypeId) (w : World) (base : Nat) : RowP eK eV e w base (.slice none 0 0) [] := World.ownsRow_nil _ _ _ _
theorem RowP.form {e : TypeId} {w : World} {base : Nat} {v : Value} {xs : List (κ × β)} (h : RowP eK eV e w base v xs) : (v = .slice none 0 0 ∧ xs = []) ∨ ∃ g c, v = .slice (some ⟨g, 0, none⟩) xs.length c ∧ base ≤ g ∧ g < w.heap.size ∧ xs.length ≤ c ∧ c ≤ maxLen := by
  rcases h.2 with ⟨h1, h2⟩ | ⟨g, c, cur, h1, h2, h3, h4, h5, _⟩
  · exact .inl ⟨h1, List.eq_nil_of_length_eq_zero h2⟩
  · exact .inr ⟨g, c, h1, h2, blk_lt h3, h4, h5⟩
theorem RowP.cells {e : TypeId} {w : World} {base g c n : Nat} {xs : List (κ × β)} (h : RowP eK eV e w base (.slice (some ⟨g, 0, none⟩) n c) xs) {j : Nat} {x : κ × β} (hj : xs[j]? = some x) :
    w.cell? ⟨g, j * 2, none⟩ = some (eK x.1) ∧ w.cell? ⟨g, j * 2 + 1, none⟩ = some (eV x.2) := by
  have h1 := flat2_get (eK := eK) (eV := eV) hj
  have h2 := World.ownsRow.cells h (g := g) rfl
  have a1 := h2 _ _ h1.1
  have a2 := h2 _ _ h1.2
  rw [add_plain] at a1 a2
  exact ⟨a1, a2⟩
theorem RowP.frozen {e : TypeId} {w : World} {base g c n : Nat} {xs : List (κ × β)} (h : RowP eK eV e w base (.slice (some ⟨g, 0, none⟩) n c) xs) (i : Nat) : w.frozen? ⟨g, i, none⟩ = false := by
  rcases h.2 with ⟨h1, h2⟩ | ⟨g', c', cur, h1, h2, h3, _⟩
  · simp at h1
  · injection h1 with h1
    injection h1 with h1
    injection h1 with h1
    subst h1
    exact frozenAt h3 i
theorem RowP.at {e : TypeId} {w : World} {base n c : Nat} {A : Option Addr} {xs : List (κ × β)} (h : RowP eK eV e w base (.slice A n c) xs) {m : Nat} (hm : m < xs.length) :
    ∃ g x, A = some ⟨g, 0, none⟩ ∧ n = xs.length ∧ xs[m]? = some x ∧ g < w.heap.size ∧ w.cell? ⟨g, m * 2, none⟩ = some (eK x.1) ∧ w.cell? ⟨g, m * 2 + 1, none⟩ = some (eV x.2) := by
  rcases h.form with ⟨_, h2⟩ | ⟨g, c', h1, h2, h3, h4, h5⟩
  · rw [h2] at hm; simp at hm
  · injection h1 with e1 e2 e3
    subst e1 e2 e3
    have hx := List.getElem?_eq_getElem hm
    obtain ⟨c1, c2⟩ := h.cells hx
    exact ⟨g, _, rfl, rfl, hx, h3, c1, c2⟩
theorem RowP.set {e : TypeId} {w : World} {base g c n : Nat} {xs : List (κ × β)} (h : RowP eK eV e w base (.slice (some ⟨g, 0, none⟩) n c) xs) (hn : n = xs.length) {j : Nat} {x : κ × β} (hj : xs[j]? = some x) (u : β) :
    RowP eK eV e (w.setCell ⟨g, j * 2 + 1, none⟩ (eV u)) base (.slice (some ⟨g, 0, none⟩) n c) (xs.set j (x.1, u)) := by
  subst hn
  unfold RowP at *
  have h1 := (World.ownsRow.stored h (j * 2 + 1) (eV u)).1
  rw [flat2_set hj u] at h1
  rw [List.length_set]
  exact h1
theorem RowP.heap {e : TypeId} {w w' : World} {base : Nat} {v : Value} {xs : List (κ × β)} (h : RowP eK eV e w base v xs) (hh : w'.heap = w.heap) : RowP eK eV e w' base v xs := h.step (fun _ _ => by rw [hh])
section
variable {P : Program}
/-- append of one pair that lies in a block. -/
theorem run_appendP {w : World} {base : Nat} {v : Value} {xs : List (κ × β)} (t ty e : TypeId) (z : Value) (bytes : Nat) (ht : P.underlying t = some (.slice e))
    (hinfo : (P.info? e).map (fun i => (i.zero, i.size, i.bytes)) = some (some z, 2, bytes)) (hz : z.cells.size = 2) (h : RowP eK eV e w base v xs) (k : κ) (u : β) (vb : Nat)
    (hvb : w.heap[vb]? = some (.cells #[eK k, eV u] e (0, 0))) (hK : ∀ x, (eK x).oneCell' = true) (hV : ∀ x, (eV x).oneCell' = true) (hbig : (xs.length + 1) * bytes ≤ 140737488355328) (hl : xs.length + 1 ≤ maxLen) (hb : base ≤ w.heap.size) :
    ∃ v' w', (Builtin.append_ #[t, t] ty #[v, .slice (some ⟨vb, 0, none⟩) 1 1]).run P w = .ok v' w' ∧ RowP eK eV e w' base v' (xs ++ [(k, u)]) ∧ w.grownBy w' v.ownBlock ∧ (v'.ownBlock = v.ownBlock ∨ v'.ownBlock = some w.heap.size) := by
  obtain ⟨i0, hi, hzz⟩ := Option.map_eq_some_iff.1 hinfo
  simp only [Prod.mk.injEq] at hzz
  obtain ⟨hz0, hz1, hz2⟩ := hzz
  obtain ⟨v', w', hr, h2, h3, _, h5⟩ := run_append_own_at (P := P) w base t ty e i0 z 2 bytes ht hi hz0 hz1 hz2 hz (by omega) v xs.length (flat2 eK eV xs) h ⟨vb, 0, none⟩ 1 1 [eK k, eV u] rfl
    (fun j y hj => by
      rw [add_plain, cellAt hvb]
      rcases j with _ | _ | j
      · exact hj
      · exact hj
      · simp at hj)
    (by
      intro y hy
      simp at hy
      rcases hy with rfl | rfl
      · exact hK _
      · exact hV _) hl hbig hb
  refine ⟨v', w', hr, ?_, h3, h5⟩
  unfold RowP
  rw [flat2_append, List.length_append]
  exact h2
/-- append(s[:p], make(n + 1 - p)...) where there is no room. -/
theorem run_growP {w : World} {base g n c : Nat} {xs : List (κ × β)} (t tn ty e : TypeId) (z : Value) (bytes : Nat) (ht : P.underlying t = some (.slice e)) (htn : P.underlying tn = some (.int .i64))
    (hinfo : (P.info? e).map (fun i => (i.zero, i.size, i.bytes)) = some (some z, 2, bytes)) (hz : z.cells.size = 2) (h : RowP eK eV e w base (.slice (some ⟨g, 0, none⟩) n c) xs) (hn : n = xs.length) {p : Nat} (hp : p < n) (hc : c < n + 1) (hnc : n ≤ c)
    (hbig : (n + 1) * bytes ≤ 140737488355328) (hl : n + 1 ≤ maxLen) (hb : base ≤ w.heap.size) :
    ∃ W1 G zs, (Builtin.append_ #[t, tn] ty #[.slice (some ⟨g, 0, none⟩) p c, .int .i64 ((n + 1 - p : Nat) : Int)]).run P w = .ok (.slice (some ⟨w.heap.size, 0, none⟩) (n + 1) G) W1 ∧
      W1.ownsRow base e 2 (.slice (some ⟨w.heap.size, 0, none⟩) (n + 1) G) (n + 1) ((flat2 eK eV xs).take (p * 2) ++ zs) ∧ zs.length = (n + 1 - p) * 2 ∧ Bel w W1 ∧ W1.heap.size = w.heap.size + 1 ∧ n + 1 ≤ G ∧ G ≤ maxLen := by
  obtain ⟨i0, hi, hzz⟩ := Option.map_eq_some_iff.1 hinfo
  simp only [Prod.mk.injEq] at hzz
  obtain ⟨hz0, hz1, hz2⟩ := hzz
  have hfl := flat2_length (eK := eK) (eV := eV) xs
  have htl : ((flat2 eK eV xs).take (p * 2)).length = p * 2 := by rw [List.length_take]; omega
  have hold : (Builtin.firstCells i0.size p (.slice (some ⟨g, 0, none⟩) p c)).run P w.drew = .ok ((flat2 eK eV xs).take (p * 2)).toArray w.drew := by
    rw [hz1]
    exact run_firstCells_some w.drew 2 p ⟨g, 0, none⟩ p c ((flat2 eK eV xs).take (p * 2)) htl (fun j u hj => by
      rw [List.getElem?_take] at hj
      split at hj
      · exact World.ownsRow.cells h (g := g) rfl j u hj
      · cases hj)
  have hm : n + 1 ≤ 9223372036854775807 := by unfold maxLen at hl; omega
  have hr := Lib.run_append_grow_zeros w t tn ty e i0 z .i64 .i64 ht htn hi hz0 (some ⟨g, 0, none⟩) p c ((flat2 eK eV xs).take (p * 2)) hold (n + 1 - p) (by omega) (by omega) (by omega) (by omega)
    (by rw [hz2]; exact Nat.le_trans (Nat.mul_le_mul_right _ (by omega)) (Nat.le_trans hbig (by omega)))
    (by rw [show p + (n + 1 - p) = n + 1 by omega, hz2]; exact growslice_fits (by omega) hbig)
  rw [show p + (n + 1 - p) = n + 1 by omega] at hr
  have hG1 := grownCap_ge w (n + 1) c e
  have hG2 := grownCap_le_maxLen w (n + 1) c e hl
  refine ⟨_, _, (Builtin.zeroCells z.cells (n + 1 - p)).toList, hr, ⟨?_, .inr ⟨w.heap.size, _, _, rfl, hb, heap_alloc_new w.drew _, hG1, hG2, ?_, ?_⟩⟩, ?_, (Bel.refl w).drew.alloc _, Array.size_push _, hG1, hG2⟩
  · rw [List.length_append, htl, Array.length_toList, size_zeroCells, hz]; omega
  · simp only [Array.size_append, List.size_toArray, size_zeroCells, hz, htl]; omega
  · simp only [Array.toList_append]
    rw [List.take_append_of_le_length (by rw [List.length_append, htl, Array.length_toList, size_zeroCells, hz]; omega), List.take_of_length_le (by rw [List.length_append, htl, Array.length_toList, size_zeroCells, hz]; omega)]
  · rw [Array.length_toList, size_zeroCells, hz]
end
theorem grow_list {F zs : List Value} {p n : Nat} (q : List Value) (hF : F.length = n * 2) (hp : p < n) (hz : zs.length = (n + 1 - p) * 2) (hq : q.length = 2) :
    setL (setL (F.take (p * 2) ++ zs) (p * 2) q) ((p + 1) * 2) (F.drop (p * 2)) = F.take (p * 2) ++ q ++ F.drop (p * 2) := by
  have htl : (F.take (p * 2)).length = p * 2 := by rw [List.length_take]; omega
  have h1 : setL (F.take (p * 2) ++ zs) (p * 2) q = F.take (p * 2) ++ q ++ zs.drop 2 := by
    rw [setL_eq _ _ _ (by rw [List.length_append]; omega), List.take_append_of_le_length (by omega), List.take_take, Nat.min_self, List.drop_append, List.drop_eq_nil_of_le (by omega), List.nil_append, htl, hq, show p * 2 + 2 - p * 2 = 2 by omega]
  have hl2 : (F.take (p * 2) ++ q).length = (p + 1) * 2 := by rw [List.length_append]; omega
  rw [h1, setL_eq _ _ _ (by rw [List.length_append, List.length_drop, List.length_drop]; omega), List.take_append_of_le_length (by omega), List.take_of_length_le (by omega),
    List.drop_eq_nil_of_le (as := F.take (p * 2) ++ q ++ zs.drop 2) (by rw [List.length_append, List.length_drop, List.length_drop]; omega), List.append_nil]
/-- At block g lies a table's row v, that reads as xs. -/
structure Tab (eK : κ → Value) (eV : β → Value) (T e : TypeId) (w : World) (base g : Nat) (v : Value) (xs : List (κ × β)) : Prop where
  box : w.heap[g]? = some (.cells #[v] T (0, 0))
  low : base ≤ g
  row : RowP eK eV e w base v xs
  ne : v.ownBlock ≠ some g
/-- What one step of a table turns: its block, its row. -/
structure Step (g : Nat) (v v' : Value) (w w' : World) : Prop where
  os : w'.os = w.os
  tape : w'.tape = w.tape
  output : w'.output = w.output
  size : w.heap.size ≤ w'.heap.size
  block : ∀ k, k < w.heap.size → k ≠ g → v.ownBlock ≠ some k → w'.heap[k]? = w.heap[k]?
  fresh : ∀ k, v'.ownBlock = some k → v.ownBlock = some k ∨ w.heap.size ≤ k
theorem Step.refl (g : Nat) (v : Value) (w : World) : Step g v v w w := ⟨rfl, rfl, rfl, Nat.le_refl _, fun _ _ _ _ => rfl, fun _ h => .inl h⟩
theorem Step.trans {g : Nat} {v1 v2 v3 : Value} {w1 w2 w3 : World} (h : Step g v1 v2 w1 w2) (k : Step g v2 v3 w2 w3) : Step g v1 v3 w1 w3 where
  os := k.os.trans h.os
  tape := k.tape.trans h.tape
  output := k.output.trans h.output
  size := Nat.le_trans h.size k.size
  block := fun i hi hg hv => (k.block i (Nat.lt_of_lt_of_le hi h.size) hg (fun e => by
    rcases h.fresh i e with e | e
    · exact hv e
    · omega)).trans (h.block i hi hg hv)
  fresh := fun i hi => by
    rcases k.fresh i hi with e | e
    · exact h.fresh i e
    · exact .inr (Nat.le_trans h.size e)
theorem Step.ofBel {w w' : World} (h : Bel w w') (g : Nat) (v : Value) : Step g v v w w' :=
  ⟨h.out.os, h.out.tape, h.out.output, h.size, fun _ hk _ _ => h.block hk, fun _ h => .inl h⟩
theorem Step.bel {g : Nat} {v v' : Value} {a w w' : World} (h : Step g v v' w w') (hb : Bel a w) (hg : a.heap.size ≤ g) (hv : ∀ k, v.ownBlock = some k → a.heap.size ≤ k) : Bel a w' :=
  hb.heap h.os h.tape h.output h.size (fun k hk => h.block k (Nat.lt_of_lt_of_le hk hb.size) (by omega) (fun e => by have := hv k e; omega))
theorem Step.rd {α : Type} {d : Ty α} {g : Nat} {v v' : Value} {w w' : World} {S : Nat → Prop} {A : Option Addr} {c : Nat} {xs : List α} (h : Step g v v' w w') (hr : Rd d w S A c xs) (hS : ∀ k, S k → k ≠ g ∧ v.ownBlock ≠ some k) : Rd d w' S A c xs :=
  hr.step (fun k hk hlt => h.block k hlt (hS k hk).1 (hS k hk).2)
theorem Tab.to {T e : TypeId} {w w' : World} {base g : Nat} {v : Value} {xs : List (κ × β)} (h : Tab eK eV T e w base g v xs) (hb : Bel w w') : Tab eK eV T e w' base g v xs :=
  ⟨(hb.block (blk_lt h.box)).trans h.box, h.low, h.row.step (fun k hk => hb.block (World.ownsRow.lt h.row k hk).2), h.ne⟩
theorem Tab.ge {T e : TypeId} {w : World} {base g : Nat} {v : Value} {xs : List (κ × β)} (h : Tab eK eV T e w base g v xs) : ∀ k, v.ownBlock = some k → base ≤ k := fun k hk => (World.ownsRow.lt h.row k hk).1
theorem Tab.lt {T e : TypeId} {w : World} {base g : Nat} {v : Value} {xs : List (κ × β)} (h : Tab eK eV T e w base g v xs) : g < w.heap.size := blk_lt h.box
/-- Another table's step leaves a table as it is. -/
theorem Tab.other {T e : TypeId} {w w' : World} {base g g' : Nat} {v v1 v2 : Value} {xs : List (κ × β)} (h : Tab eK eV T e w base g v xs) (hs : Step g' v1 v2 w w') (h1 : g ≠ g') (h2 : v1.ownBlock ≠ some g) (h3 : ∀ k, v.ownBlock = some k → k ≠ g' ∧ v1.ownBlock ≠ some k) : Tab eK eV T e w' base g v xs :=
  ⟨(hs.block g h.lt h1 h2).trans h.box, h.low, h.row.step (fun k hk => hs.block k (World.ownsRow.lt h.row k hk).2 (h3 k hk).1 (h3 k hk).2), h.ne⟩
end
end Go.Cb
