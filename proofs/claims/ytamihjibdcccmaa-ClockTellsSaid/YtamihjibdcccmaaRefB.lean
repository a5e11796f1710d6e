/- Walks: is an event ahead of another one: the document's; the same pairs. -/
import Derived.Test.YtamihjibdcccmaaRefK
import Derived.Test.YtamihjibdcccmaaClkP
import Derived.Test.YtamihjibdcccmaaClk6
set_option linter.unusedVariables false
set_option linter.unusedSimpArgs false
set_option linter.all false
namespace Go.Proofs.Ytamihjibdcccmaa
open Go.RowKit Go.Cb Go.Sort
set_option maxHeartbeats 8000000 in
set_option maxRecDepth 100000 in
theorem refBefore_c (w : World) (A : Option Addr) (c : Nat) (l : List Ev) (hl : Rd evT w All A c l) (h24 : l.length ≤ 1000) (i j : Int) (n : Nat) (hn : n = l.length) :
    Calls Try.prog 11 #[.slice A n c, .int .i64 i, .int .i64 j] w fun e w' => e = .returned (.bool (befE l i j)) ∧ Bel w w' := by
  subst hn
  by_cases h1 : i < 0
  · have d1 : decide (i < 0) = true := decide_eq_true h1
    have HF := Lib.hid (befE_no (l := l) (i := i) (j := j) (.inl h1))
    clear h1 hl
    go_enter Try.func11, Try.ntmps11
    go_wp2
    go_ret
    exact ⟨by rw [HF.out]; rfl, Bel.refl _⟩
  · have d1 : decide (i < 0) = false := decide_eq_false h1
    by_cases h2 : j < 0
    · have d2 : decide (j < 0) = true := decide_eq_true h2
      have HF := Lib.hid (befE_no (l := l) (i := i) (j := j) (.inr (.inl h2)))
      clear h1 h2 hl
      go_enter Try.func11, Try.ntmps11
      go_wp2
      go_ret
      exact ⟨by rw [HF.out]; rfl, Bel.refl _⟩
    · have d2 : decide (j < 0) = false := decide_eq_false h2
      by_cases h3 : j ≤ i
      · have d3 : decide (i ≥ j) = true := decide_eq_true h3
        have HF := Lib.hid (show befE l i j = false by
          unfold befE aheadE
          rw [decide_eq_false (show ¬ i.toNat < j.toNat by omega)]
          simp)
        clear h1 h2 h3 hl
        go_enter Try.func11, Try.ntmps11
        go_wp2
        go_ret
        exact ⟨by rw [HF.out]; rfl, Bel.refl _⟩
      · have d3 : decide (i ≥ j) = false := decide_eq_false (by omega)
        by_cases h4 : (l.length : Int) ≤ j
        · have d4 : decide ((l.length : Int) ≤ j) = true := decide_eq_true h4
          have HF := Lib.hid (befE_no (l := l) (i := i) (j := j) (.inr (.inr (.inr h4))))
          clear h1 h2 h3 h4 hl
          go_enter Try.func11, Try.ntmps11
          go_wp2
          go_ret
          exact ⟨by rw [HF.out]; rfl, Bel.refl _⟩
        · have d4 : decide ((l.length : Int) ≤ j) = false := decide_eq_false h4
          obtain ⟨a, rfl⟩ : ∃ a : Nat, i = (a : Int) := ⟨i.toNat, by omega⟩
          obtain ⟨b, rfl⟩ : ∃ b : Nat, j = (b : Int) := ⟨j.toNat, by omega⟩
          have d3n : decide (b ≤ a) = false := decide_eq_false (by omega)
          have d4n : decide (l.length ≤ b) = false := decide_eq_false (by omega)
          have hab : a < b := by omega
          have hbl : b < l.length := by omega
          have HF := Lib.hid (befE_yes (l := l) (i := a) (j := b) (by omega) hbl)
          have HQ := Lib.hid (refOrder_c _ w A c l hl h24 _ rfl)
          have b1 : (b : Int) < (l.length : Int) := by omega
          have b2 : (a : Int) < (b : Int) := by omega
          clear h1 h2 h3 h4 hl
          go_enter Try.func11, Try.ntmps11
          go_wp2_with fail
          refine HQ.out.mono ?_
          rintro e w1 ⟨A1, c1, rfl, hr, hb⟩
          obtain ⟨adA, B, cb, rfl, a0, hRI⟩ := hr.row (k := b) (by rw [rowsE_len]; exact hbl)
          have hrow : (rowsE l l.length)[b]'(by rw [rowsE_len]; exact hbl) = rowE l b := by
            have := rowsE_get (l := l) hbl
            rw [List.getElem?_eq_getElem (by rw [rowsE_len]; exact hbl)] at this
            injection this
          rw [hrow, rowE_len] at a0
          rw [hrow] at hRI
          obtain ⟨adI, rfl, e1⟩ := hRI.get1 (k := a) (by rw [rowE_len]; exact hab)
          have e2 : (rowE l b)[a]'(by rw [rowE_len]; exact hab) = aheadE l a b := by
            have := rowE_get (l := l) hab
            rw [List.getElem?_eq_getElem (by rw [rowE_len]; exact hab)] at this
            injection this
          rw [e2, ← HF.out] at e1
          have HB := Lib.hid hb
          clear hb hr hrow hRI e2 HQ
          go_wp2_with fail
          go_ret
          exact ⟨rfl, HB.out⟩
set_option maxHeartbeats 8000000 in
set_option maxRecDepth 100000 in
theorem same2_c (S S2 : Nat → Prop) (w : World) (A B : Option Addr) (c d : Nat) (l : List (Int × Int)) (ha : Rd keptT w S A c l) (hb : Rd keptT w S2 B d l) (n m : Nat) (hn : n = l.length) (hm : m = l.length) :
    Calls Try.prog 13 #[.slice A n c, .slice B m d] w fun e w' => e = .returned (.bool true) ∧ Bel w w' := by
  subst hn hm
  have lm := ha.lenMax
  have HA := Lib.hid ha
  have HB := Lib.hid hb
  clear ha hb
  go_enter Try.func13, Try.ntmps13
  go_wp2
  go_loopw [5] (fun v5 wr => ∃ (i : Nat) (W : World), W = wr ∧ i ≤ l.length ∧ v5 = .int .i64 i ∧ Bel w W) (fun v5 _ => l.length - (intOf v5).toNat)
  case atStart => exact ⟨0, _, rfl, Nat.zero_le _, rfl, Bel.refl _⟩
  case round =>
    obtain ⟨i, W, rfl, hi, rfl, hbw⟩ := hrel
    have HBW := Lib.hid hbw
    clear hbw
    by_cases hlt : i < l.length
    · obtain ⟨⟨x, y⟩, hx⟩ : ∃ x, l[i]? = some x := ⟨_, List.getElem?_eq_getElem hlt⟩
      obtain ⟨ad, cs, rfl, _, hr, hc⟩ := (HA.out.to HBW.out).2.2 i _ hx
      rw [kept_rd.1 hr] at hc
      have a0 : W.cell? (ad.add (i * 2)) = some (.int .i64 x) := hc 0 _ rfl
      have a1 : W.cell? ⟨(ad.add (i * 2)).block, (ad.add (i * 2)).off + 1, none⟩ = some (.int .i64 y) := nth_cellE (hc 1 _ rfl)
      obtain ⟨bd, ds, rfl, _, hr2, hd⟩ := (HB.out.to HBW.out).2.2 i _ hx
      rw [kept_rd.1 hr2] at hd
      have b0 : W.cell? (bd.add (i * 2)) = some (.int .i64 x) := hd 0 _ rfl
      have b1 : W.cell? ⟨(bd.add (i * 2)).block, (bd.add (i * 2)).off + 1, none⟩ = some (.int .i64 y) := nth_cellE (hd 1 _ rfl)
      have i1 : (i : Int) < (l.length : Int) := by omega
      have A0 := cellReg a0
      have A1 := cellReg a1
      have B0 := cellReg b0
      have B1 := cellReg b1
      clear hx hr hc hr2 hd
      go_wp2_with fail
      refine wp_region_quiet_below (by kernel_rfl) (by kernel_rfl) ?_
      repeat (go_big_quiet_step (fail))
      refine wpQuiet_nil ?_
      intro _ hw'
      obtain ⟨⟨dq, oq⟩, hw''⟩ := hw'
      subst hw''
      have HBQ := Lib.hid (HBW.out.trans (bel_regrown W dq oq))
      generalize grow (redrawn W dq) oq = W9 at *
      clear A0 A1 B0 B1 a0 a1 b0 b1
      go_wp2_with fail
      go_roundw
      case rel => exact ⟨i + 1, _, rfl, by omega, by go_num, HBQ.out⟩
      case measure => simp [intOf]; omega
    · obtain rfl : i = l.length := by omega
      go_wp2
      go_ret
      exact ⟨rfl, HBW.out⟩
end Go.Proofs.Ytamihjibdcccmaa
