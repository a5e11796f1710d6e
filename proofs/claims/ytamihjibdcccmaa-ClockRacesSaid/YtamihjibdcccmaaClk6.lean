/- Walks: is an event ahead of another one. -/
import Derived.Test.YtamihjibdcccmaaClk5
set_option linter.unusedVariables false
set_option linter.unusedSimpArgs false
set_option linter.all false
namespace Go.Cb
/-- Is an event ahead of another one, whatever numbers these are? -/
def befE (l : List Ev) (i j : Int) : Bool := decide (0 ≤ i) && decide (0 ≤ j) && decide (i < l.length) && decide (j < l.length) && aheadE l i.toNat j.toNat
theorem befE_no {l : List Ev} {i j : Int} (h : i < 0 ∨ j < 0 ∨ (l.length : Int) ≤ i ∨ (l.length : Int) ≤ j) : befE l i j = false := by
  unfold befE
  rcases h with h | h | h | h
  · rw [decide_eq_false (show ¬ 0 ≤ i by omega)]; simp
  · rw [decide_eq_false (show ¬ 0 ≤ j by omega)]; simp
  · rw [decide_eq_false (show ¬ i < (l.length : Int) by omega)]; simp
  · rw [decide_eq_false (show ¬ j < (l.length : Int) by omega)]; simp
theorem befE_yes {l : List Ev} {i j : Nat} (hi : i < l.length) (hj : j < l.length) : befE l i j = aheadE l i j := by
  unfold befE
  rw [decide_eq_true (show 0 ≤ (i : Int) by omega), decide_eq_true (show 0 ≤ (j : Int) by omega), decide_eq_true (show (i : Int) < (l.length : Int) by omega), decide_eq_true (show (j : Int) < (l.length : Int) by omega)]
  simp
end Go.Cb
namespace Go.Proofs.Ytamihjibdcccmaa
open Go.RowKit Go.Cb Go.Sort
set_option maxHeartbeats 8000000 in
set_option maxRecDepth 100000 in
theorem before_c (w : World) (A : Option Addr) (c : Nat) (l : List Ev) (hl : Rd evT w All A c l) (h24 : l.length ≤ 24) (il : ∀ x ∈ l, inI64 x.a ∧ inI64 x.n) (i j : Int) (n : Nat) (hn : n = l.length) :
    Calls Try.prog 8 #[.slice A n c, .int .i64 i, .int .i64 j] w fun e w' => e = .returned (.bool (befE l i j)) ∧ Bel w w' := by
  subst hn
  by_cases h1 : i < 0
  · have d1 : decide (i < 0) = true := decide_eq_true h1
    have HF := Lib.hid (befE_no (l := l) (i := i) (j := j) (.inl h1))
    clear h1 hl il
    go_enter Try.func8, Try.ntmps8
    go_wp2
    go_ret
    exact ⟨by rw [HF.out]; rfl, Bel.refl _⟩
  · have d1 : decide (i < 0) = false := decide_eq_false h1
    by_cases h2 : j < 0
    · have d2 : decide (j < 0) = true := decide_eq_true h2
      have HF := Lib.hid (befE_no (l := l) (i := i) (j := j) (.inr (.inl h2)))
      clear h1 h2 hl il
      go_enter Try.func8, Try.ntmps8
      go_wp2
      go_ret
      exact ⟨by rw [HF.out]; rfl, Bel.refl _⟩
    · have d2 : decide (j < 0) = false := decide_eq_false h2
      by_cases h3 : (l.length : Int) ≤ i
      · have d3 : decide ((l.length : Int) ≤ i) = true := decide_eq_true h3
        have HF := Lib.hid (befE_no (l := l) (i := i) (j := j) (.inr (.inr (.inl h3))))
        clear h1 h2 h3 hl il
        go_enter Try.func8, Try.ntmps8
        go_wp2
        go_ret
        exact ⟨by rw [HF.out]; rfl, Bel.refl _⟩
      · have d3 : decide ((l.length : Int) ≤ i) = false := decide_eq_false h3
        by_cases h4 : (l.length : Int) ≤ j
        · have d4 : decide ((l.length : Int) ≤ j) = true := decide_eq_true h4
          have HF := Lib.hid (befE_no (l := l) (i := i) (j := j) (.inr (.inr (.inr h4))))
          clear h1 h2 h3 h4 hl il
          go_enter Try.func8, Try.ntmps8
          go_wp2
          go_ret
          exact ⟨by rw [HF.out]; rfl, Bel.refl _⟩
        · have d4 : decide ((l.length : Int) ≤ j) = false := decide_eq_false h4
          obtain ⟨a, rfl⟩ : ∃ a : Nat, i = (a : Int) := ⟨i.toNat, by omega⟩
          obtain ⟨b, rfl⟩ : ∃ b : Nat, j = (b : Int) := ⟨j.toNat, by omega⟩
          have d3n : decide (l.length ≤ a) = false := decide_eq_false (by omega)
          have d4n : decide (l.length ≤ b) = false := decide_eq_false (by omega)
          have HAB := Lib.hid (show a < l.length ∧ b < l.length by omega)
          have HF := Lib.hid (befE_yes (l := l) HAB.out.1 HAB.out.2)
          have HQ := Lib.hid (clocks_c w A c l hl h24 il _ rfl)
          have HL := Lib.hid hl
          clear h1 h2 h3 h4 hl il
          go_enter Try.func8, Try.ntmps8
          go_wp2_with fail
          refine HQ.out.mono ?_
          rintro e w1 ⟨A1, c1, gs, rfl, hr, hgl, ht, hb⟩
          have HQ2 := Lib.hid (ahead_c _ _ A A1 c c1 l gs _ w1 (HL.out.to hb) hr hgl ht a b HAB.out.1 HAB.out.2 _ _ rfl rfl)
          have HB := Lib.hid hb
          clear hr hgl ht hb HQ
          go_wp2_with fail
          refine HQ2.out.mono ?_
          rintro e w2 ⟨rfl, hb2⟩
          go_wp2
          go_ret
          exact ⟨by rw [HF.out]; rfl, HB.out.trans hb2⟩
end Go.Proofs.Ytamihjibdcccmaa
