/- The library of this place's proofs: kinds of data, what reads as what in a world, rows of the call's own. -/
import Derived.WalkKit
import Derived.WalkSpells
import Derived.WalkLawsBesides
import Derived.BigQuiet
import Derived.Deep.QuietTactic
import Derived.Deep.LoopGhost
import Derived.LaidEqlPtr
import Derived.Maps.AppendAt
import Derived.Deep.OwnRows
import Derived.Below
import Derived.KernelRfl
import Derived.Lib.Hide
set_option linter.unusedVariables false
set_option linter.unusedSimpArgs false
set_option linter.all false
namespace Go.Cb
open Go.RowKit

/-! ### worlds -/
/-- What was there in w is in w' as it was. -/
structure Bel (w w' : World) : Prop where mk :: (out : Below w.heap.size w w')
theorem Bel.refl (w : World) : Bel w w := ⟨Below.refl _ _⟩
theorem Bel.size {a b : World} (h : Bel a b) : a.heap.size ≤ b.heap.size := h.out.size
theorem Bel.block {a b : World} (h : Bel a b) {k : Nat} (hk : k < a.heap.size) : b.heap[k]? = a.heap[k]? := h.out.block k hk
theorem Bel.trans {a b c : World} (h : Bel a b) (k : Bel b c) : Bel a c := ⟨h.out.trans (k.out.mono h.size)⟩
theorem Bel.alloc {a w : World} (h : Bel a w) (o : Obj) : Bel a (w.alloc o) := ⟨h.out.alloc h.size o⟩
theorem Bel.drew {a w : World} (h : Bel a w) : Bel a w.drew := ⟨h.out.drew⟩
theorem Bel.drewN {a w : World} (h : Bel a w) (n : Nat) : Bel a (w.drewN n) := ⟨⟨h.out.os, h.out.tape, h.out.output, h.out.size, h.out.block⟩⟩
theorem Bel.set {a w : World} (h : Bel a w) {p : Addr} (hp : a.heap.size ≤ p.block) (u : Value) : Bel a (w.setCell p u) := ⟨h.out.setCell hp u⟩
theorem Bel.grown {a w w' : World} {row : Option Nat} (h : Bel a w) (hg : w.grownBy w' row) (hr : ∀ k, row = some k → a.heap.size ≤ k) : Bel a w' := ⟨h.out.grown hg h.size hr⟩
theorem Bel.below {a b : World} (h : Bel a b) : Below a.heap.size a b := h.out
theorem Bel.heap {a w w' : World} (h : Bel a w) (ho : w'.os = w.os) (ht : w'.tape = w.tape) (hu : w'.output = w.output) (hs : w.heap.size ≤ w'.heap.size) (hb : ∀ k, k < a.heap.size → w'.heap[k]? = w.heap[k]?) : Bel a w' :=
  ⟨⟨ho.trans h.out.os, ht.trans h.out.tape, hu.trans h.out.output, Nat.le_trans h.out.size hs, fun k hk => (hb k hk).trans (h.out.block k hk)⟩⟩

theorem cell_keep {w w' : World} {a : Addr} {v : Value} (h : w.cell? a = some v) (hb : w'.heap[a.block]? = w.heap[a.block]?) : w'.cell? a = some v := (World.cell?_of_block hb).trans h
theorem cellAt {w : World} {g : Nat} {cs : Array Value} {t : TypeId} {fr : Nat × Nat} (h : w.heap[g]? = some (.cells cs t fr)) (i : Nat) : w.cell? ⟨g, i, none⟩ = cs[i]? := by
  simp [World.cell?, h]
theorem frozenAt {w : World} {g : Nat} {cs : Array Value} {t : TypeId} (h : w.heap[g]? = some (.cells cs t (0,0))) (i : Nat) : w.frozen? ⟨g, i, none⟩ = false := by
  simp [World.frozen?, h]
theorem blk_lt {w : World} {g : Nat} {o : Obj} (h : w.heap[g]? = some o) : g < w.heap.size := (Array.getElem?_eq_some_iff.1 h).1
theorem add_plain (g j : Nat) : (⟨g, 0, none⟩ : Addr).add j = ⟨g, j, none⟩ := by unfold Addr.add; split <;> simp_all
theorem add_add (a : Addr) (i j : Nat) : (a.add i).add j = a.add (i + j) := by
  unfold Addr.add
  by_cases h1 : i = 0 <;> by_cases h2 : j = 0 <;> simp [h1, h2, Nat.add_assoc]
theorem add_block (a : Addr) (i : Nat) : (a.add i).block = a.block := by unfold Addr.add; split <;> rfl

/-! ### kinds -/
/-- A kind of data: how many cells an element has; when cells read as x in w, all that they lead to lying in blocks of S. -/
structure Ty (α : Type) where
  sz : Nat
  pos : 0 < sz
  rd : World → (Nat → Prop) → α → List Value → Prop
  len : ∀ {w S x cs}, rd w S x cs → cs.length = sz
  one : ∀ {w S x cs}, rd w S x cs → ∀ u ∈ cs, u.oneCell' = true
  mono : ∀ {w : World} {S S' : Nat → Prop} {x cs}, (∀ k, S k → S' k) → rd w S x cs → rd w S' x cs
  bound : ∀ {w : World} {S x cs}, rd w S x cs → rd w (fun k => S k ∧ k < w.heap.size) x cs
  step : ∀ {w w' : World} {S x cs}, (∀ k, S k → w'.heap[k]? = w.heap[k]?) → rd w S x cs → rd w' S x cs

/-- One value, as it stands. -/
def scalar {α : Type} (enc : α → Value) (h1 : ∀ x, (enc x).oneCell' = true) : Ty α where
  sz := 1
  pos := by omega
  rd := fun _ _ x cs => cs = [enc x]
  len := fun h => by rw [h]; rfl
  one := fun h u hu => by rw [h] at hu; rw [List.mem_singleton.1 hu]; exact h1 _
  mono := fun _ h => h
  bound := fun h => h
  step := fun _ h => h
def intT : Ty Int := scalar (Value.int .i64) (fun _ => rfl)
def uintT : Ty Int := scalar (Value.int .u64) (fun _ => rfl)
def byteT : Ty Int := scalar (Value.int .u8) (fun _ => rfl)
def boolT : Ty Bool := scalar Value.bool (fun _ => rfl)
def strT : Ty ByteArray := scalar Value.string (fun _ => rfl)

/-- A slice (A: where, c: its capacity) reads as xs. -/
def Rd {α : Type} (d : Ty α) (w : World) (S : Nat → Prop) (A : Option Addr) (c : Nat) (xs : List α) : Prop :=
  xs.length ≤ c ∧ c ≤ maxLen ∧ ∀ j x, xs[j]? = some x → ∃ ad cs, A = some ad ∧ S ad.block ∧ d.rd w S x cs ∧ ∀ i u, cs[i]? = some u → w.cell? (ad.add (j * d.sz + i)) = some u
def All : Nat → Prop := fun _ => True
def Ge (b : Nat) : Nat → Prop := fun k => b ≤ k

section
variable {α : Type} {d : Ty α} {w w' : World} {S S' : Nat → Prop} {A : Option Addr} {c : Nat} {xs : List α}
theorem Rd.mono (h : Rd d w S A c xs) (hS : ∀ k, S k → S' k) : Rd d w S' A c xs :=
  ⟨h.1, h.2.1, fun j x hj => let ⟨ad, cs, e, hs, hr, hc⟩ := h.2.2 j x hj; ⟨ad, cs, e, hS _ hs, d.mono hS hr, hc⟩⟩
theorem Rd.all (h : Rd d w S A c xs) : Rd d w All A c xs := h.mono (fun _ _ => trivial)
theorem Rd.bound (h : Rd d w S A c xs) : Rd d w (fun k => S k ∧ k < w.heap.size) A c xs :=
  ⟨h.1, h.2.1, fun j x hj => by
    obtain ⟨ad, cs, e, hs, hr, hc⟩ := h.2.2 j x hj
    refine ⟨ad, cs, e, ⟨hs, ?_⟩, d.bound hr, hc⟩
    have hl := d.len hr
    have hp := d.pos
    have := hc 0 cs[0] (List.getElem?_eq_getElem (by omega))
    have := World.block_lt_of_cell? w _ this
    rwa [add_block] at this⟩
theorem Rd.step' (h : Rd d w S A c xs) (hs : ∀ k, S k → w'.heap[k]? = w.heap[k]?) : Rd d w' S A c xs :=
  ⟨h.1, h.2.1, fun j x hj => by
    obtain ⟨ad, cs, e, hS, hr, hc⟩ := h.2.2 j x hj
    exact ⟨ad, cs, e, hS, d.step hs hr, fun i u hu => cell_keep (hc i u hu) (by rw [add_block]; exact hs _ hS)⟩⟩
theorem Rd.step (h : Rd d w S A c xs) (hs : ∀ k, S k → k < w.heap.size → w'.heap[k]? = w.heap[k]?) : Rd d w' S A c xs :=
  (h.bound.step' (fun k hk => hs k hk.1 hk.2)).mono (fun _ hk => hk.1)
theorem Rd.to (h : Rd d w S A c xs) (hb : Bel w w') : Rd d w' S A c xs := h.step (fun _ _ hk => hb.block hk)
theorem Ty.rd_step {x : α} {cs : List Value} (h : d.rd w S x cs) (hs : ∀ k, S k → k < w.heap.size → w'.heap[k]? = w.heap[k]?) : d.rd w' S x cs :=
  d.mono (fun _ hk => hk.1) (d.step (fun k hk => hs k hk.1 hk.2) (d.bound h))
theorem Ty.rd_to {x : α} {cs : List Value} (h : d.rd w S x cs) (hb : Bel w w') : d.rd w' S x cs := d.rd_step h (fun _ _ hk => hb.block hk)
theorem Rd.nil (d : Ty α) (w : World) (S : Nat → Prop) (A : Option Addr) (c : Nat) (hc : c ≤ maxLen) : Rd d w S A c [] := ⟨Nat.zero_le _, hc, fun j x hj => by simp at hj⟩
theorem Rd.cap (h : Rd d w S A c xs) : xs.length ≤ c := h.1
theorem Rd.capMax (h : Rd d w S A c xs) : c ≤ maxLen := h.2.1
theorem Rd.lenMax (h : Rd d w S A c xs) : xs.length ≤ 9223372036854775807 := by have := h.1; have := h.2.1; unfold maxLen at this; omega
theorem Rd.get (h : Rd d w S A c xs) {j : Nat} {x : α} (hj : xs[j]? = some x) : ∃ ad cs, A = some ad ∧ d.rd w S x cs ∧ ∀ i u, cs[i]? = some u → w.cell? (ad.add (j * d.sz + i)) = some u :=
  let ⟨ad, cs, e, _, hr, hc⟩ := h.2.2 j x hj; ⟨ad, cs, e, hr, hc⟩
theorem Rd.take (h : Rd d w S A c xs) (n : Nat) : Rd d w S A c (xs.take n) :=
  ⟨by have := h.1; have := List.length_take_le n xs; have := List.length_take_le' n xs; omega, h.2.1, fun j x hj => by
    rw [List.getElem?_take] at hj
    split at hj
    · exact h.2.2 j x hj
    · cases hj⟩
theorem Rd.drop (h : Rd d w S A c xs) (n : Nat) (hn : n ≤ xs.length) : Rd d w S (if c = n then A else A.map (·.add (n * d.sz))) (c - n) (xs.drop n) := by
  have h1 := h.1
  refine ⟨by rw [List.length_drop]; omega, by have := h.2.1; omega, fun j x hj => ?_⟩
  have hj2 : xs[n + j]? = some x := by rw [List.getElem?_drop] at hj; exact hj
  obtain ⟨ad, cs, e, hS, hr, hc⟩ := h.2.2 _ _ hj2
  have hlt : n + j < xs.length := (List.getElem?_eq_some_iff.1 hj2).1
  rw [if_neg (by omega), e]
  refine ⟨ad.add (n * d.sz), cs, rfl, by rw [add_block]; exact hS, hr, fun i u hu => ?_⟩
  rw [add_add, ← hc i u hu, Nat.add_mul]
  congr 1
  congr 1
  omega
end

/-- A slice of such. -/
def sl {α : Type} (d : Ty α) : Ty (List α) where
  sz := 1
  pos := by omega
  rd := fun w S xs cs => ∃ A c, cs = [.slice A xs.length c] ∧ Rd d w S A c xs
  len := by rintro w S x cs ⟨A, c, rfl, _⟩; rfl
  one := by
    rintro w S x cs ⟨A, c, rfl, _⟩ u hu
    rw [List.mem_singleton.1 hu]; rfl
  mono := by rintro w S S' x cs hS ⟨A, c, rfl, h⟩; exact ⟨A, c, rfl, h.mono hS⟩
  bound := by rintro w S x cs ⟨A, c, rfl, h⟩; exact ⟨A, c, rfl, h.bound⟩
  step := by rintro w w' S x cs hs ⟨A, c, rfl, h⟩; exact ⟨A, c, rfl, h.step' hs⟩
/-- Two, one behind the other. -/
def two {α β : Type} (a : Ty α) (b : Ty β) : Ty (α × β) where
  sz := a.sz + b.sz
  pos := by have := a.pos; omega
  rd := fun w S x cs => ∃ c0 c1, cs = c0 ++ c1 ∧ a.rd w S x.1 c0 ∧ b.rd w S x.2 c1
  len := by rintro w S x cs ⟨c0, c1, rfl, h0, h1⟩; rw [List.length_append, a.len h0, b.len h1]
  one := by
    rintro w S x cs ⟨c0, c1, rfl, h0, h1⟩ u hu
    rcases List.mem_append.1 hu with hu | hu
    · exact a.one h0 u hu
    · exact b.one h1 u hu
  mono := by rintro w S S' x cs hS ⟨c0, c1, rfl, h0, h1⟩; exact ⟨c0, c1, rfl, a.mono hS h0, b.mono hS h1⟩
  bound := by rintro w S x cs ⟨c0, c1, rfl, h0, h1⟩; exact ⟨c0, c1, rfl, a.bound h0, b.bound h1⟩
  step := by rintro w w' S x cs hs ⟨c0, c1, rfl, h0, h1⟩; exact ⟨c0, c1, rfl, a.step hs h0, b.step hs h1⟩
/-- A Lean structure by its fields. -/
def iso {α β : Type} (d : Ty α) (f : β → α) : Ty β where
  sz := d.sz
  pos := d.pos
  rd := fun w S x cs => d.rd w S (f x) cs
  len := d.len
  one := d.one
  mono := d.mono
  bound := d.bound
  step := d.step

/-! ### a row of the call's own -/
/-- v is a row of elements of type e, of the call's own (from block base on), that reads as xs; its elements lead to blocks of S, none of which is the row's own. -/
def Own {α : Type} (d : Ty α) (e : TypeId) (w : World) (base : Nat) (S : Nat → Prop) (v : Value) (xs : List α) : Prop :=
  ∃ inner, w.ownsRow base e d.sz v xs.length inner ∧ ∀ j x, xs[j]? = some x → d.rd w (fun k => S k ∧ some k ≠ v.ownBlock) x ((inner.drop (j * d.sz)).take d.sz)

theorem ownsRow_step {w w' : World} {base : Nat} {e : TypeId} {size n : Nat} {v : Value} {xs : List Value} (h : w.ownsRow base e size v n xs) (hm : ∀ k, v.ownBlock = some k → w'.heap[k]? = w.heap[k]?) : w'.ownsRow base e size v n xs := by
  obtain ⟨h1, h2⟩ := h
  refine ⟨h1, ?_⟩
  rcases h2 with h2 | ⟨g, cap, cur, rfl, hg, hh, r⟩
  · exact .inl h2
  · exact .inr ⟨g, cap, cur, rfl, hg, (hm g (by simp [Value.ownBlock])).trans hh, r⟩

section
variable {α : Type} {d : Ty α} {e : TypeId} {w w' : World} {base : Nat} {S S' : Nat → Prop} {v : Value} {xs : List α}
theorem Own.nil (d : Ty α) (e : TypeId) (w : World) (base : Nat) (S : Nat → Prop) : Own d e w base S (.slice none 0 0) [] := ⟨[], ⟨by simp, .inl ⟨rfl, rfl⟩⟩, fun j x hj => by simp at hj⟩
theorem Own.lt (h : Own d e w base S v xs) {k : Nat} (hk : v.ownBlock = some k) : k < w.heap.size := by obtain ⟨inner, ho, _⟩ := h; exact (ho.lt k hk).2
theorem Own.ge (h : Own d e w base S v xs) {k : Nat} (hk : v.ownBlock = some k) : base ≤ k := by obtain ⟨inner, ho, _⟩ := h; exact (ho.lt k hk).1
theorem Own.mono (h : Own d e w base S v xs) (hS : ∀ k, S k → S' k) : Own d e w base S' v xs :=
  let ⟨inner, ho, hr⟩ := h; ⟨inner, ho, fun j x hj => d.mono (fun k hk => ⟨hS k hk.1, hk.2⟩) (hr j x hj)⟩
theorem Own.lower {base' : Nat} (h : Own d e w base S v xs) (hb : base' ≤ base) : Own d e w base' S v xs := by
  obtain ⟨inner, ⟨h1, h2⟩, hr⟩ := h
  refine ⟨inner, ⟨h1, ?_⟩, hr⟩
  rcases h2 with h2 | ⟨g, cap, cur, rfl, hg, r⟩
  · exact .inl h2
  · exact .inr ⟨g, cap, cur, rfl, Nat.le_trans hb hg, r⟩
theorem Own.raise {base' : Nat} (h : Own d e w base S v xs) (hb : ∀ k, v.ownBlock = some k → base' ≤ k) : Own d e w base' S v xs := by
  obtain ⟨inner, ⟨h1, h2⟩, hr⟩ := h
  refine ⟨inner, ⟨h1, ?_⟩, hr⟩
  rcases h2 with h2 | ⟨g, cap, cur, rfl, hg, r⟩
  · exact .inl h2
  · exact .inr ⟨g, cap, cur, rfl, hb g (by simp [Value.ownBlock]), r⟩
theorem Own.bound (h : Own d e w base S v xs) : Own d e w base (fun k => S k ∧ k < w.heap.size) v xs :=
  let ⟨inner, ho, hr⟩ := h; ⟨inner, ho, fun j x hj => d.mono (fun _ hk => ⟨⟨hk.1.1, hk.2⟩, hk.1.2⟩) (d.bound (hr j x hj))⟩
theorem Own.step (h : Own d e w base S v xs) (hm : ∀ k, v.ownBlock = some k → w'.heap[k]? = w.heap[k]?) (hs : ∀ k, S k → k < w.heap.size → some k ≠ v.ownBlock → w'.heap[k]? = w.heap[k]?) : Own d e w' base S v xs := by
  obtain ⟨inner, ho, hr⟩ := h
  exact ⟨inner, ownsRow_step ho hm, fun j x hj => d.rd_step (hr j x hj) (fun k hk hlt => hs k hk.1 hlt hk.2)⟩
theorem Own.to (h : Own d e w base S v xs) (hb : Bel w w') : Own d e w' base S v xs := h.step (fun _ hk => hb.block (h.lt hk)) (fun _ _ hk _ => hb.block hk)
theorem Own.form (h : Own d e w base S v xs) : ∃ A c, v = .slice A xs.length c := by
  obtain ⟨inner, ⟨h1, h2⟩, hr⟩ := h
  rcases h2 with ⟨rfl, hn⟩ | ⟨g, cap, cur, rfl, _⟩
  · exact ⟨none, 0, by rw [hn]⟩
  · exact ⟨_, cap, rfl⟩
theorem Own.rd (h : Own d e w base S v xs) : ∃ A c, v = .slice A xs.length c ∧ Rd d w (fun k => S k ∨ some k = v.ownBlock) A c xs := by
  obtain ⟨inner, ho, hr⟩ := h
  have h2 := ho.2
  rcases h2 with ⟨rfl, hn⟩ | ⟨g, cap, cur, rfl, hb, hg, hc, hm, hcs, ht⟩
  · have : xs = [] := List.eq_nil_of_length_eq_zero hn
    subst this
    exact ⟨none, 0, rfl, Rd.nil _ _ _ _ _ (by simp [maxLen])⟩
  · refine ⟨_, cap, rfl, hc, hm, fun j x hj => ?_⟩
    have hlt : j < xs.length := (List.getElem?_eq_some_iff.1 hj).1
    refine ⟨_, _, rfl, .inr rfl, d.mono (fun k hk => .inl hk.1) (hr j x hj), fun i u hu => ?_⟩
    have hi : i < d.sz := by
      have := (List.getElem?_eq_some_iff.1 hu).1
      simp at this; omega
    have hu2 : inner[j * d.sz + i]? = some u := by
      rw [List.getElem?_take, if_pos hi, List.getElem?_drop] at hu
      exact hu
    exact ho.cells (g := g) rfl _ _ hu2
theorem Own.rdAll (h : Own d e w base S v xs) : ∃ A c, v = .slice A xs.length c ∧ Rd d w All A c xs := let ⟨A, c, e, hr⟩ := h.rd; ⟨A, c, e, hr.all⟩
theorem Own.rdGe (h : Own d e w base (Ge base) v xs) : ∃ A c, v = .slice A xs.length c ∧ Rd d w (Ge base) A c xs :=
  let ⟨A, c, e, hr⟩ := h.rd; ⟨A, c, e, hr.mono (fun k hk => by
    rcases hk with hk | hk
    · exact hk
    · exact h.ge hk.symm)⟩
end
/-! ### the cells of a row that is read, one behind the other -/
theorem Rd.flat {α : Type} {d : Ty α} {w : World} {S : Nat → Prop} {A : Option Addr} {c : Nat} {xs : List α} (h : Rd d w S A c xs) (hp : 0 < xs.length) :
    ∃ (ad : Addr) (news : List Value), A = some ad ∧ news.length = xs.length * d.sz ∧ (∀ j u, news[j]? = some u → w.cell? (ad.add j) = some u) ∧ (∀ u ∈ news, u.oneCell' = true) ∧ ∀ j x, xs[j]? = some x → d.rd w S x ((news.drop (j * d.sz)).take d.sz) := by
  obtain ⟨ad, _, e, _, _, _⟩ := h.2.2 0 xs[0] (List.getElem?_eq_getElem hp)
  have key : ∀ j x, xs[j]? = some x → ∃ cs, d.rd w S x cs ∧ ∀ i u, cs[i]? = some u → w.cell? (ad.add (j * d.sz + i)) = some u := by
    intro j x hj
    obtain ⟨ad', cs, e', _, hr, hc⟩ := h.2.2 j x hj
    rw [e] at e'
    injection e' with e'
    subst e'
    exact ⟨cs, hr, hc⟩
  have hsome : ∀ j, j < xs.length * d.sz → ∃ u, w.cell? (ad.add j) = some u ∧ u.oneCell' = true := by
    intro j hj
    have hd := d.pos
    have hq : j / d.sz < xs.length := Nat.div_lt_of_lt_mul (by rwa [Nat.mul_comm] at hj)
    obtain ⟨cs, hr, hc⟩ := key (j / d.sz) _ (List.getElem?_eq_getElem hq)
    have hm : j % d.sz < cs.length := by rw [d.len hr]; exact Nat.mod_lt _ hd
    refine ⟨cs[j % d.sz], ?_, d.one hr _ (List.getElem_mem hm)⟩
    have := hc _ _ (List.getElem?_eq_getElem hm)
    rwa [Nat.mul_comm, Nat.div_add_mod] at this
  refine ⟨ad, (List.range (xs.length * d.sz)).map (fun j => (w.cell? (ad.add j)).getD undef), e, by simp, ?_, ?_, ?_⟩
  · intro j u hu
    rw [List.getElem?_map] at hu
    by_cases hj : j < xs.length * d.sz
    · rw [List.getElem?_range hj] at hu
      obtain ⟨u', hu', _⟩ := hsome j hj
      simp [hu'] at hu
      rw [hu', hu]
    · rw [List.getElem?_eq_none (by simpa using hj)] at hu
      simp at hu
  · intro u hu
    obtain ⟨j, hj, rfl⟩ := List.mem_map.1 hu
    obtain ⟨u', hu', h1⟩ := hsome j (List.mem_range.1 hj)
    rw [hu']
    exact h1
  · intro j x hj
    obtain ⟨cs, hr, hc⟩ := key j x hj
    have hlt : j < xs.length := (List.getElem?_eq_some_iff.1 hj).1
    have hle : j * d.sz + d.sz ≤ xs.length * d.sz := by rw [← Nat.succ_mul]; exact Nat.mul_le_mul_right _ hlt
    have hcs := d.len hr
    have hh : (((List.range (xs.length * d.sz)).map (fun j => (w.cell? (ad.add j)).getD undef)).drop (j * d.sz)).take d.sz = cs := by
      apply List.ext_getElem?
      intro i
      by_cases hi : i < d.sz
      · rw [List.getElem?_take, if_pos hi, List.getElem?_drop, List.getElem?_map, List.getElem?_range (by omega)]
        have hi' : i < cs.length := by omega
        rw [List.getElem?_eq_getElem hi']
        have := hc i _ (List.getElem?_eq_getElem hi')
        simp [this]
      · rw [List.getElem?_eq_none (by simp; omega), List.getElem?_eq_none (by omega)]
    rw [hh]
    exact hr

theorem Rd.get1 {α : Type} {enc : α → Value} {h1 : ∀ x, (enc x).oneCell' = true} {w : World} {S : Nat → Prop} {A : Option Addr} {c : Nat} {xs : List α} (h : Rd (scalar enc h1) w S A c xs) {k : Nat} (hk : k < xs.length) :
    ∃ ad, A = some ad ∧ w.cell? (ad.add k) = some (enc xs[k]) := by
  obtain ⟨ad, cs, e, hr, hc⟩ := h.get (List.getElem?_eq_getElem hk)
  have hcs : cs = [enc xs[k]] := hr
  refine ⟨ad, e, ?_⟩
  have := hc 0 (enc xs[k]) (by rw [hcs]; rfl)
  simpa [scalar] using this
theorem Rd.int {w : World} {S : Nat → Prop} {A : Option Addr} {c : Nat} {xs : List Int} (h : Rd intT w S A c xs) {k : Nat} (hk : k < xs.length) :
    ∃ ad, A = some ad ∧ w.cell? (ad.add k) = some (.int .i64 xs[k]) := h.get1 hk

theorem Ty.rdS {α : Type} (d : Ty α) {W : World} {S S' : Nat → Prop} {v : Value} (h : ∀ k, S' k → k < W.heap.size → S k ∧ some k ≠ v.ownBlock) : ∀ x cs, d.rd W S' x cs → d.rd W (fun k => S k ∧ some k ≠ v.ownBlock) x cs :=
  fun _ _ hr => d.mono (fun k hk => h k hk.1 hk.2) (d.bound hr)

/-! ### append -/
section
variable {P : Program} {ops : Array Oper} {rest : List Oper} {o : Oper} {a : Act} {Q : Exit → Act → World → Prop}
/-- append's run at a row of the call's own, what is put behind it lying at ad, cell by cell. -/
theorem run_appendC {α : Type} (d : Ty α) {w0 W : World} (ty t e : TypeId) (z : Value) (bytes : Nat)
    (ht : P.underlying t = some (.slice e)) (hinfo : (P.info? e).map (fun i => (i.zero, i.size, i.bytes)) = some (some z, d.sz, bytes)) (hz : z.cells.size = d.sz)
    (S : Nat → Prop) (v : Value) (xs ys : List α) (ad : Addr) (c : Nat) (news : List Value) (HO : Own d e W w0.heap.size S v xs)
    (hnl : news.length = ys.length * d.sz) (hnc : ∀ j u, news[j]? = some u → W.cell? (ad.add j) = some u) (hn1 : ∀ u ∈ news, u.oneCell' = true) (hnr : ∀ j x, ys[j]? = some x → d.rd W (fun k => S k ∧ some k ≠ v.ownBlock) x ((news.drop (j * d.sz)).take d.sz))
    (HB : Bel w0 W) (hl : xs.length + ys.length ≤ maxLen) (hl2 : (xs.length + ys.length) * bytes ≤ 140737488355328) :
    ∃ v1 w1, (Builtin.append_ #[t, t] ty #[v, .slice (some ad) ys.length c]).run P W = .ok v1 w1 ∧ Own d e w1 w0.heap.size S v1 (xs ++ ys) ∧ Bel w0 w1 ∧ W.grownBy w1 v.ownBlock ∧ (v1.ownBlock = v.ownBlock ∨ v1.ownBlock = some W.heap.size) := by
  obtain ⟨i0, hi, hzz⟩ := Option.map_eq_some_iff.1 hinfo
  simp only [Prod.mk.injEq] at hzz
  obtain ⟨hz0, hz1, hz2⟩ := hzz
  obtain ⟨inner, ho, hr⟩ := HO.bound
  have hown : ∀ k, v.ownBlock = some k → w0.heap.size ≤ k := fun k hk => HO.ge hk
  obtain ⟨v1, w1, hrun, h2, h3, _, h5⟩ := run_append_own_at (P := P) W w0.heap.size t ty e i0 z d.sz bytes ht hi hz0 hz1 hz2 hz d.pos v xs.length inner ho ad ys.length c news hnl hnc hn1 hl hl2 HB.size
  refine ⟨v1, w1, hrun, ⟨inner ++ news, by rw [List.length_append]; exact h2, fun j x hj => ?_⟩, HB.grown h3 hown, h3, h5⟩
  have hil : inner.length = xs.length * d.sz := ho.1
  have agree : ∀ k, k < W.heap.size → some k ≠ v.ownBlock → w1.heap[k]? = W.heap[k]? := fun k hk hne => h3.block k hk hne
  have ne1 : ∀ k, k < W.heap.size → some k ≠ v.ownBlock → some k ≠ v1.ownBlock := by
    intro k hk hne
    rcases h5 with h5 | h5
    · rw [h5]; exact hne
    · rw [h5]; intro he; injection he with he; omega
  by_cases hj1 : j < xs.length
  · rw [List.getElem?_append_left hj1] at hj
    have hle : j * d.sz + d.sz ≤ inner.length := by rw [hil, ← Nat.succ_mul]; exact Nat.mul_le_mul_right _ hj1
    rw [List.drop_append_of_le_length (by omega), List.take_append_of_le_length (by rw [List.length_drop]; omega)]
    exact d.mono (fun k hk => ⟨hk.1.1, ne1 k hk.1.2 hk.2⟩) (d.step (fun k hk => agree k hk.1.2 hk.2) (hr j x hj))
  · rw [List.getElem?_append_right (by omega)] at hj
    have hd : (inner ++ news).drop (j * d.sz) = news.drop ((j - xs.length) * d.sz) := by
      rw [List.drop_append, List.drop_eq_nil_of_le (by rw [hil]; exact Nat.mul_le_mul_right _ (by omega)), List.nil_append, hil, Nat.sub_mul]
    rw [hd]
    exact d.mono (fun k hk => ⟨hk.1.1, ne1 k hk.2 hk.1.2⟩) (d.step (fun k hk => agree k hk.2 hk.1.2) (d.bound (hnr _ x hj)))

theorem run_append {α : Type} (d : Ty α) {w0 W : World} (ty t e : TypeId) (z : Value) (bytes : Nat)
    (ht : P.underlying t = some (.slice e)) (hinfo : (P.info? e).map (fun i => (i.zero, i.size, i.bytes)) = some (some z, d.sz, bytes)) (hz : z.cells.size = d.sz)
    (S S' : Nat → Prop) (v : Value) (xs ys : List α) (A : Option Addr) (c : Nat) (HO : Own d e W w0.heap.size S v xs) (HR : Rd d W S' A c ys)
    (hS : ∀ x cs, d.rd W S' x cs → d.rd W (fun k => S k ∧ some k ≠ v.ownBlock) x cs) (HB : Bel w0 W) (hl : xs.length + ys.length ≤ maxLen) (hl2 : (xs.length + ys.length) * bytes ≤ 140737488355328) :
    ∃ v1 w1, (Builtin.append_ #[t, t] ty #[v, .slice A ys.length c]).run P W = .ok v1 w1 ∧ Own d e w1 w0.heap.size S v1 (xs ++ ys) ∧ Bel w0 w1 ∧ W.grownBy w1 v.ownBlock ∧ (v1.ownBlock = v.ownBlock ∨ v1.ownBlock = some W.heap.size) := by
  rcases Nat.eq_zero_or_pos ys.length with h0 | h0
  · obtain ⟨i0, hi, hzz⟩ := Option.map_eq_some_iff.1 hinfo
    obtain ⟨inner, ho, hr⟩ := HO
    have h1 : ys = [] := List.eq_nil_of_length_eq_zero h0
    subst h1
    refine ⟨v, W, ?_, ⟨inner, by simpa using ho, by simpa using hr⟩, HB, ⟨rfl, rfl, rfl, Nat.le_refl _, fun _ _ _ => rfl⟩, .inl rfl⟩
    rcases A with _ | ad
    · rcases ho.2 with ⟨rfl, hn⟩ | ⟨g, cap, cur, rfl, _, _, hnc, _⟩
      · simp [Builtin.append_, run_underlying ht, sizeOf, typeInfo, hi, Builtin.lenOf, Builtin.firstCells]
      · simp [Builtin.append_, run_underlying ht, sizeOf, typeInfo, hi, Builtin.lenOf, Builtin.firstCells, hnc, storeCells]
    · rcases ho.2 with ⟨rfl, hn⟩ | ⟨g, cap, cur, rfl, _, _, hnc, _⟩
      · simp [Builtin.append_, run_underlying ht, sizeOf, typeInfo, hi, Builtin.lenOf, Builtin.firstCells, loadCells, loadCellsFrom]
      · simp [Builtin.append_, run_underlying ht, sizeOf, typeInfo, hi, Builtin.lenOf, Builtin.firstCells, loadCells, loadCellsFrom, hnc, storeCells]
  · obtain ⟨ad, news, rfl, hnl, hnc, hn1, hnr⟩ := HR.flat h0
    exact run_appendC d ty t e z bytes ht hinfo hz S v xs ys ad c news HO hnl hnc hn1 (fun j x hj => hS _ _ (hnr j x hj)) HB hl hl2

/-- append(v, ys...). Ahead of it: 'at_builtin'. -/
theorem wp_append {α : Type} (d : Ty α) {w0 W : World} (t e : TypeId) (z : Value) (bytes : Nat) (hgd : o.guard = none) (s x : Operand)
    (ho : o.op = .call { callee := .builtin .append, args := #[s, x], argTypes := #[t, t] })
    (ht : P.underlying t = some (.slice e)) (hinfo : (P.info? e).map (fun i => (i.zero, i.size, i.bytes)) = some (some z, d.sz, bytes)) (hz : z.cells.size = d.sz)
    (S S' : Nat → Prop) (v : Value) (xs ys : List α) (A : Option Addr) (n c : Nat) (hs : a.eval s = v) (hx : a.eval x = .slice A n c) (hn : n = ys.length) (HO : Own d e W w0.heap.size S v xs) (HR : Rd d W S' A c ys)
    (hS : ∀ x cs, d.rd W S' x cs → d.rd W (fun k => S k ∧ some k ≠ v.ownBlock) x cs) (HB : Bel w0 W) (hl : xs.length + ys.length ≤ maxLen) (hl2 : (xs.length + ys.length) * bytes ≤ 140737488355328)
    (h : ∀ v1 w1, Own d e w1 w0.heap.size S v1 (xs ++ ys) → Bel w0 w1 → W.grownBy w1 v.ownBlock → (v1.ownBlock = v.ownBlock ∨ v1.ownBlock = some W.heap.size) → wpList P ops Q rest (a.put o.dst v1) w1) :
    wpList P ops Q (o :: rest) a W := by
  subst hn
  refine wpList_plain hgd fun K hK => ?_
  obtain ⟨v1, w1, hr, h2, h3, h4, h5⟩ := run_append (P := P) d o.type t e z bytes ht hinfo hz S S' v xs ys A c HO HR hS HB hl hl2
  unfold Oper.wp execOp
  simp only [ho, resolve, invoke, builtin, Sem.run_bind, Sem.run_pure, Result.andThen_ok, List.map_toArray, List.map_cons, List.map_nil, hs, hx, hr]
  exact hK _ _ (h v1 w1 h2 h3 h4 h5)

/-- append(v, y): the world is 'W.alloc' of the variadic's box. -/
theorem wp_append1 {α : Type} (d : Ty α) {w0 W : World} (t e : TypeId) (z : Value) (bytes : Nat) (hgd : o.guard = none) (s x : Operand)
    (ho : o.op = .call { callee := .builtin .append, args := #[s, x], argTypes := #[t, t] })
    (ht : P.underlying t = some (.slice e)) (hinfo : (P.info? e).map (fun i => (i.zero, i.size, i.bytes)) = some (some z, d.sz, bytes)) (hz : z.cells.size = d.sz)
    (S : Nat → Prop) (v : Value) (xs : List α) (y : α) (cs : List Value) (hs : a.eval s = v) (hx : a.eval x = .slice (some ⟨W.heap.size, 0, none⟩) 1 1) (HO : Own d e W w0.heap.size S v xs) (HR : d.rd W (fun k => S k ∧ some k ≠ v.ownBlock) y cs)
    (HB : Bel w0 W) (hl : xs.length + 1 ≤ maxLen) (hl2 : (xs.length + 1) * bytes ≤ 140737488355328)
    (h : ∀ v1 w1, Own d e w1 w0.heap.size S v1 (xs ++ [y]) → Bel w0 w1 → W.grownBy w1 v.ownBlock → (v1.ownBlock = v.ownBlock ∨ ∃ b, v1.ownBlock = some b ∧ W.heap.size ≤ b) → wpList P ops Q rest (a.put o.dst v1) w1) :
    wpList P ops Q (o :: rest) a (W.alloc (.cells cs.toArray e)) := by
  have hsz : (W.alloc (.cells cs.toArray e)).heap.size = W.heap.size + 1 := by simp
  have hcl := d.len HR
  have hcell : ∀ j u, cs[j]? = some u → (W.alloc (.cells cs.toArray e)).cell? ((⟨W.heap.size, 0, none⟩ : Addr).add j) = some u := by
    intro j u hu
    rw [add_plain, cellAt (heap_alloc_new W _)]
    simpa using hu
  have hb1 : Bel W (W.alloc (.cells cs.toArray e)) := (Bel.refl W).alloc _
  obtain ⟨v1, w1, hr, h2, h3, h4, h5⟩ := run_appendC (P := P) d (w0 := w0) (W := W.alloc (.cells cs.toArray e)) o.type t e z bytes ht hinfo hz S v xs [y] ⟨W.heap.size, 0, none⟩ 1 cs (HO.to hb1) (by simpa using hcl) hcell (d.one HR)
    (by
      intro j x hj
      obtain ⟨rfl, rfl⟩ : j = 0 ∧ y = x := by
        cases j with
        | zero => exact ⟨rfl, by simpa using hj⟩
        | succ j => simp at hj
      rw [Nat.zero_mul, List.drop_zero, List.take_of_length_le (by omega)]
      exact d.rd_to HR hb1)
    (HB.alloc _) hl hl2
  refine wpList_plain hgd fun K hK => ?_
  unfold Oper.wp execOp
  simp only [List.length_singleton] at hr
  simp only [ho, resolve, invoke, builtin, Sem.run_bind, Sem.run_pure, Result.andThen_ok, List.map_toArray, List.map_cons, List.map_nil, hs, hx, hr]
  refine hK _ _ (h v1 w1 h2 h3 ⟨h4.os, h4.tape, h4.output, by have := h4.size; omega, fun k hk hne => (h4.block k (by omega) hne).trans (Below.heap_alloc W _ _ hk)⟩ ?_)
  rcases h5 with h5 | h5
  · exact .inl h5
  · exact .inr ⟨_, h5, by omega⟩
end
/-! ### rows of scalars: made, read, written -/
section
variable {α : Type} {enc : α → Value} {h1 : ∀ x, (enc x).oneCell' = true} {e : TypeId} {w : World} {base : Nat} {S : Nat → Prop} {v : Value} {xs : List α}
theorem scalar_chunk {inner : List Value} (hl : inner.length = xs.length * 1) (hr : ∀ j x, xs[j]? = some x → (inner.drop (j * 1)).take 1 = [enc x]) : inner = xs.map enc := by
  apply List.ext_getElem?
  intro j
  by_cases hj : j < xs.length
  · have := hr j _ (List.getElem?_eq_getElem hj)
    have h2 : ((inner.drop (j * 1)).take 1)[0]? = some (enc xs[j]) := by rw [this]; rfl
    rw [List.getElem?_take, if_pos (by omega), List.getElem?_drop] at h2
    rw [List.getElem?_map, List.getElem?_eq_getElem hj, Option.map_some, ← h2]
    congr 1
    omega
  · rw [List.getElem?_eq_none (by omega), List.getElem?_eq_none (by simp; omega)]
theorem Own.ofRow (h : w.ownsRow base e 1 v xs.length (xs.map enc)) : Own (scalar enc h1) e w base S v xs := by
  refine ⟨xs.map enc, h, fun j x hj => ?_⟩
  have hlt : j < xs.length := (List.getElem?_eq_some_iff.1 hj).1
  have hx : xs[j] = x := (List.getElem?_eq_some_iff.1 hj).2
  show ((xs.map enc).drop (j * 1)).take 1 = [enc x]
  rw [Nat.mul_one, ← List.map_drop, List.drop_eq_getElem_cons hlt]
  simp [hx]
theorem Own.row (h : Own (scalar enc h1) e w base S v xs) : w.ownsRow base e 1 v xs.length (xs.map enc) := by
  obtain ⟨inner, ho, hr⟩ := h
  have : inner = xs.map enc := scalar_chunk ho.1 (fun j x hj => hr j x hj)
  rw [← this]; exact ho
theorem Own.any {S' : Nat → Prop} (h : Own (scalar enc h1) e w base S v xs) : Own (scalar enc h1) e w base S' v xs := Own.ofRow h.row
theorem Own.where_ {β : Type} {d : Ty β} {ys : List β} (h : Own d e w base S v ys) (hp : 0 < ys.length) : ∃ g cap, v = .slice (some ⟨g, 0, none⟩) ys.length cap ∧ base ≤ g ∧ g < w.heap.size := by
  obtain ⟨inner, ⟨h1, h2⟩, hr⟩ := h
  rcases h2 with ⟨rfl, hn⟩ | ⟨g, cap, cur, rfl, hb, hg, _⟩
  · omega
  · exact ⟨g, cap, rfl, hb, blk_lt hg⟩
theorem Own.addr {β : Type} {d : Ty β} {ys : List β} {A : Option Addr} {n c : Nat} (h : Own d e w base S (.slice A n c) ys) (hp : 0 < ys.length) : ∃ g, A = some ⟨g, 0, none⟩ ∧ base ≤ g ∧ g < w.heap.size := by
  obtain ⟨g, cap, he, h1, h2⟩ := h.where_ hp
  injection he with he
  exact ⟨g, he, h1, h2⟩
variable {g n cap : Nat}
theorem Own.cell (h : Own (scalar enc h1) e w base S (.slice (some ⟨g, 0, none⟩) n cap) xs) {i : Nat} (hi : i < xs.length) : w.cell? ⟨g, i, none⟩ = some (enc xs[i]) ∧ w.frozen? ⟨g, i, none⟩ = false := by
  have hr := h.row
  have hn : n = xs.length := by
    rcases hr.2 with ⟨h', _⟩ | ⟨g', cap', cur, h', _⟩
    · cases h'
    · injection h'
  subst hn
  exact ⟨by rw [hr.cellAt i (by omega)]; simp [hi], hr.frozenAt i⟩
theorem Own.set (h : Own (scalar enc h1) e w base S (.slice (some ⟨g, 0, none⟩) n cap) xs) (i : Nat) (x : α) : Own (scalar enc h1) e (w.setCell ⟨g, i, none⟩ (enc x)) base S (.slice (some ⟨g, 0, none⟩) n cap) (xs.set i x) := by
  have hr := h.row
  have hn : n = xs.length := by
    rcases hr.2 with ⟨h', _⟩ | ⟨g', cap', cur, h', _⟩
    · cases h'
    · injection h'
  subst hn
  have h2 := (hr.stored i (enc x)).1
  have h3 : (xs.map enc).set i (enc x) = (xs.set i x).map enc := by rw [List.map_set]
  rw [h3] at h2
  refine Own.ofRow ?_
  rwa [List.length_set]
end
section
variable {P : Program} {ops : Array Oper} {rest : List Oper} {o : Oper} {a : Act} {Q : Exit → Act → World → Prop}
/-- make([]T, n), T of one cell. Ahead of it: 'at_make'. -/
theorem wp_make {α : Type} {enc : α → Value} (h1 : ∀ x, (enc x).oneCell' = true) (z0 : α) {w0 W : World} (t e : TypeId) (bytes : Nat) (hgd : o.guard = none) (l c : Operand)
    (ho : o.op = .makeSlice t l c) (ht : P.underlying t = some (.slice e)) (hinfo : (P.info? e).map (fun i => (i.zero, i.size, i.bytes)) = some (some (enc z0), 1, bytes)) (hz : (enc z0).cells = #[enc z0])
    (n : Nat) (L C : Int) (hl : a.eval l = .int .i64 L) (hc : a.eval c = .int .i64 C) (hL : L = (n : Int)) (hC : C = (n : Int)) (HB : Bel w0 W) (hb : bytes * n ≤ 281474976710656) (hn : n ≤ maxLen)
    (h : ∀ w1, Own (scalar enc h1) e w1 w0.heap.size All (.slice (some ⟨W.heap.size, 0, none⟩) n n) (List.replicate n z0) → Bel w0 w1 → Bel W w1 → w1.heap.size = W.heap.size + 1 → wpList P ops Q rest (a.put o.dst (.slice (some ⟨W.heap.size, 0, none⟩) n n)) w1) :
    wpList P ops Q (o :: rest) a W := by
  obtain ⟨i0, hi, hzz⟩ := Option.map_eq_some_iff.1 hinfo
  simp only [Prod.mk.injEq] at hzz
  obtain ⟨hz0, hz1, hz2⟩ := hzz
  subst hL hC
  have hrun := run_make_row' (P := P) t e (enc z0) bytes ht hinfo hz .i64 .i64 n hb hn W
  refine wpList_plain hgd fun K hK => ?_
  unfold Oper.wp execOp
  simp only [ho, hl, hc, Sem.run_bind, hrun, Sem.run_pure, Result.andThen_ok]
  refine hK _ _ (h _ ?_ (HB.alloc _) ((Bel.refl W).alloc _) (by simp))
  have h2 := World.ownsRow_lit (base := w0.heap.size) (e := e) (size := 1) W (madeCells #[enc z0] n) n HB.size hn (by simp [size_madeCells])
  rw [toList_madeCells_one] at h2
  refine Own.ofRow ?_
  rw [List.map_replicate, List.length_replicate]
  exact h2
end

/-! ### one block that changes; meters -/
/-- Block g alone may have changed. -/
structure Upd (g : Nat) (w w' : World) : Prop where
  os : w'.os = w.os
  tape : w'.tape = w.tape
  output : w'.output = w.output
  size : w'.heap.size = w.heap.size
  block : ∀ k, k ≠ g → w'.heap[k]? = w.heap[k]?
theorem Upd.refl (g : Nat) (w : World) : Upd g w w := ⟨rfl, rfl, rfl, rfl, fun _ _ => rfl⟩
theorem Upd.trans {g : Nat} {a b c : World} (h : Upd g a b) (k : Upd g b c) : Upd g a c := ⟨k.os.trans h.os, k.tape.trans h.tape, k.output.trans h.output, k.size.trans h.size, fun i hi => (k.block i hi).trans (h.block i hi)⟩
theorem Upd.drewN {g : Nat} {a b : World} (h : Upd g a b) (n : Nat) : Upd g a (b.drewN n) := ⟨h.os, h.tape, h.output, h.size, h.block⟩
theorem Upd.drew {g : Nat} {a b : World} (h : Upd g a b) : Upd g a b.drew := ⟨h.os, h.tape, h.output, h.size, h.block⟩
theorem Upd.set {g : Nat} {a b : World} (h : Upd g a b) {p : Addr} (hp : p.block = g) (u : Value) : Upd g a (b.setCell p u) :=
  ⟨h.os, h.tape, h.output, by simpa [World.setCell] using h.size, fun k hk => (Below.heap_setCell b p u k (by omega)).trans (h.block k hk)⟩
theorem Bel.upd {a w w' : World} {g : Nat} (h : Bel a w) (hu : Upd g w w') (hg : a.heap.size ≤ g) : Bel a w' :=
  h.heap hu.os hu.tape hu.output (by rw [hu.size]; exact Nat.le_refl _) (fun k hk => hu.block k (by omega))
theorem heap_drewN (w : World) (n : Nat) : (w.drewN n).heap = w.heap := rfl
theorem heap_drew (w : World) : w.drew.heap = w.heap := rfl

/-- At block g lies a meter: its budget, what was spent, whether it is out. -/
def Met (w : World) (t : TypeId) (g : Nat) (b s : Int) (o : Bool) : Prop := w.heap[g]? = some (.cells #[.int .i64 b, .int .i64 s, .bool o] t (0, 0))
theorem Met.cells {w : World} {t : TypeId} {g : Nat} {b s : Int} {o : Bool} (h : Met w t g b s o) :
    w.cell? ⟨g, 0, none⟩ = some (.int .i64 b) ∧ w.cell? ⟨g, 1, none⟩ = some (.int .i64 s) ∧ w.cell? ⟨g, 2, none⟩ = some (.bool o) ∧ (∀ i, w.frozen? ⟨g, i, none⟩ = false) :=
  ⟨cellAt h 0, cellAt h 1, cellAt h 2, frozenAt h⟩
theorem Met.lt {w : World} {t : TypeId} {g : Nat} {b s : Int} {o : Bool} (h : Met w t g b s o) : g < w.heap.size := blk_lt h
theorem Met.to {w w' : World} {t : TypeId} {g : Nat} {b s : Int} {o : Bool} (h : Met w t g b s o) (hb : Bel w w') : Met w' t g b s o := (hb.block h.lt).trans h
theorem Met.drewN {w : World} {t : TypeId} {g : Nat} {b s : Int} {o : Bool} (h : Met w t g b s o) (n : Nat) : Met (w.drewN n) t g b s o := h
theorem Met.other {w w' : World} {t : TypeId} {g g' : Nat} {b s : Int} {o : Bool} (h : Met w t g b s o) (hu : Upd g' w w') (hne : g ≠ g') : Met w' t g b s o := (hu.block g hne).trans h
theorem Met.setS {w : World} {t : TypeId} {g : Nat} {b s : Int} {o : Bool} (h : Met w t g b s o) (s' : Int) : Met (w.setCell ⟨g, 1, none⟩ (.int .i64 s')) t g b s' o := by
  unfold Met at *
  simp [World.setCell, Array.getElem?_modify, h]
theorem Met.setO {w : World} {t : TypeId} {g : Nat} {b s : Int} {o : Bool} (h : Met w t g b s o) (o' : Bool) : Met (w.setCell ⟨g, 2, none⟩ (.bool o')) t g b s o' := by
  unfold Met at *
  simp [World.setCell, Array.getElem?_modify, h]
end Go.Cb
