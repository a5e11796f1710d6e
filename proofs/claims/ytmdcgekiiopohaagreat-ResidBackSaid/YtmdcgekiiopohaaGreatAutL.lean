/- Walks: one letter more, of no meter; what the statements of chapter 9 have in common. -/
import Derived.Test.YtmdcgekiiopohaaGreatPureB
import Derived.Test.YtmdcgekiiopohaaGreatKeep9
import Derived.Test.YtmdcgekiiopohaaGreatAut11
import Derived.Test.YtmdcgekiiopohaaGreatAut4
set_option linter.unusedVariables false
set_option linter.unusedSimpArgs false
set_option linter.all false
namespace Go.Cb
theorem and15_range (x : Int) : 0 ≤ bits .and .u64 x 15 ∧ bits .and .u64 x 15 ≤ 18446744073709551615 := by
  show 0 ≤ IntKind.u64.wrap ((BitVec.ofInt 64 x &&& BitVec.ofInt 64 15).toNat : Int) ∧ IntKind.u64.wrap ((BitVec.ofInt 64 x &&& BitVec.ofInt 64 15).toNat : Int) ≤ _
  rw [IntKind.wrap_u64]
  omega
theorem startS_len {s : SemS} : (startS s).length ≤ s.length := by
  unfold startS
  split
  · simp
  · exact Nat.zero_le _
theorem next_none {s : SemS} (hs : SetP s) {l : List Itm} (h : BoxI s l) (letter : Int) :
    ∃ l', nextS none s l letter = (none, l', 0) ∧ BoxI s l' ∧ ∀ y, y ∈ l' ↔ ∃ x ∈ l, ∃ k, k < 2 ^ (psOf s x).length ∧ ∃ b, pickF k (psOf s x) 0 x.2 = some b ∧ lettI b 0 = letter ∧ y = (x.1, halfB b) := by
  rcases next_box hs h letter none with ⟨st', l', e, hb, hm⟩ | ⟨h1, _⟩
  · refine ⟨l', ?_, hb, hm⟩
    have : st' = none := by
      have h1 : (nextS none s l letter).1 = st' := by rw [e]
      rw [← h1]
      unfold nextS
      have : ∀ (r : List Itm) (acc : List Itm), (itemsF s letter r none acc).1 = none := by
        intro r
        induction r with
        | nil => intro acc; rfl
        | cons x r ih =>
          intro acc
          rw [itemsF]
          split
          · rfl
          · split
            · split
              · rfl
              · exact ih _
            · rfl
      split
      · split
        · exact this l []
        · exact this l []
      · rfl
    rw [e, this]
  · exact absurd rfl h1
end Go.Cb
namespace Go.Proofs.YtmdcgekiiopohaaGreat
open Go.RowKit Go.Cb Go.Sort
theorem belN {w w' : World} (h : w.grownBy w' none) : Bel w w' := (Bel.refl w).grown h (fun k hk => by cases hk)
theorem autoNextN_c (S S' : Nat → Prop) (A B : Option Addr) (ca cb : Nat) (s : SemS) (l : List Itm) (letter : Int) (w : World) (h : Rd linT w S A ca s) (hl : Rd itemT w S' B cb l) (n m : Nat) (hn : n = s.length) (hm2 : m = l.length) (hs : SetP s) (hb : BoxI s l) (h0 : 0 ≤ letter ∧ letter ≤ 18446744073709551615) (l' : List Itm) (he : nextS none s l letter = (none, l', 0)) :
    Calls Tryz.prog 28 #[.pointer none, .slice A n ca, .slice B m cb, .int .u64 letter] w fun e w' => ∃ v, e = .returned (.tuple #[v, .int .i64 0]) ∧ DItm w.heap.size w' v l' ∧ Bel w w' := by
  have hf := hb.few hs.six
  have := autoNext_c (.pointer none) none none S S' A B ca cb s l letter w ⟨rfl, rfl⟩ h hl (fun _ _ => by simp) (fun _ _ => by simp) n m hn hm2 hs.per (by omega) h0
  rw [he] at this
  exact this.mono fun _ _ ⟨v, e, r, _, g⟩ => ⟨v, e, r, belN g⟩
end Go.Proofs.YtmdcgekiiopohaaGreat
