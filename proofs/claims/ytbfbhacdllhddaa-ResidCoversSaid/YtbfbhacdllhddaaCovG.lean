/- Walks: is a word good: has it one of the tags, or is it empty, and that is free. -/
import Derived.Test.YtbfbhacdllhddaaResid5
import Derived.Test.YtbfbhacdllhddaaPureH
set_option linter.unusedVariables false
set_option linter.unusedSimpArgs false
set_option linter.all false
namespace Go.Proofs.Ytbfbhacdllhddaa
open Go.RowKit Go.Cb Go.Sort
theorem hasB_nat {b : List Int} {k : Nat} (h : k < b.length) : hasB b (k : Int) = decide (0 < b[k]) := hasB_at h
set_option maxHeartbeats 8000000 in
theorem good_c (T6 T5 : Nat) (S S' : Nat → Prop) (A B : Option Addr) (c d : Nat) (v tags : List Int) (free : Bool) (w : World) (h : Rd intT w S A c v) (hT : w.cell? ⟨T6, 0, none⟩ = some (.slice B tags.length d)) (hF : w.cell? ⟨T5, 0, none⟩ = some (.bool free)) (ht : Rd intT w S' B d tags) (h0 : ∀ t ∈ tags, 0 ≤ t) (n : Nat) (hn : n = v.length) :
    Calls Try.prog 28 #[.slice A n c, .pointer (some ⟨T6, 0, none⟩), .pointer (some ⟨T5, 0, none⟩)] w fun e w' => e = .returned (.bool (goodB free tags v)) ∧ w = w' := by
  subst hn
  have lm := ht.lenMax
  have H0 := Lib.hid h0
  clear h0
  go_enter Try.func28, Try.ntmps28
  go_wp2_with fail
  go_loopw [9] (fun v9 wr => ∃ (k : Nat) (W : World), W = wr ∧ k ≤ tags.length ∧ v9 = .int .i64 k ∧ Hid (anyB v (tags.take k) = false) ∧ w = W) (fun v9 _ => tags.length - (intOf v9).toNat)
  case atStart => exact ⟨0, _, rfl, Nat.zero_le _, rfl, rfl, rfl⟩
  case round =>
    obtain ⟨k, W, rfl, hk, rfl, HA, rfl⟩ := hrel
    by_cases hlt : k < tags.length
    · obtain ⟨ad, rfl, hc⟩ := ht.int hlt
      obtain ⟨t, ht9⟩ : ∃ t, tags[k] = t := ⟨_, rfl⟩
      have ht? : tags[k]? = some t := by rw [List.getElem?_eq_getElem hlt, ht9]
      have ht0 := H0.out t (List.mem_of_getElem? ht?)
      rw [ht9] at hc
      have HT := Lib.hid ht?
      clear ht9 ht?
      obtain ⟨q, rfl⟩ : ∃ q : Nat, t = (q : Int) := ⟨t.toNat, by omega⟩
      clear ht0
      by_cases hl : q < v.length
      · obtain ⟨ad2, rfl, hc2⟩ := h.int hl
        have HAT := Lib.hid (hasB_nat hl)
        obtain ⟨x, hx⟩ : ∃ x, v[q] = x := ⟨_, rfl⟩
        rw [hx] at hc2
        have HX := Lib.hid hx
        clear hx
        by_cases hx0 : 0 < x
        · have HR := Lib.hid (show goodB free tags v = true by
            unfold goodB
            rw [anyB_yes HT.out (by rw [HAT.out, HX.out]; exact decide_eq_true hx0)]
            rfl)
          go_wp2_with fail
          go_ret
          exact ⟨by rw [HR.out]; rfl, rfl⟩
        · have HN := Lib.hid (anyB_snoc HT.out HA.out (by rw [HAT.out, HX.out]; exact decide_eq_false hx0))
          have hx1 := Int.not_lt.1 hx0
          clear hx0
          go_wp2_with fail
          go_roundw
          case rel => exact ⟨k + 1, _, rfl, by omega, by go_num, HN.out, rfl⟩
          case measure => simp [intOf]; omega
      · have HN := Lib.hid (anyB_snoc HT.out HA.out (hasB_no1 (by omega)))
        go_wp2_with fail
        go_roundw
        case rel => exact ⟨k + 1, _, rfl, by omega, by go_num, HN.out, rfl⟩
        case measure => simp [intOf]; omega
    · obtain rfl : k = tags.length := by omega
      have HR := Lib.hid (show anyB v tags = false by have := HA.out; rwa [List.take_length] at this)
      cases free with
      | false =>
        have HG := Lib.hid (show goodB false tags v = false by unfold goodB; rw [HR.out]; rfl)
        go_wp2_with fail
        go_ret
        exact ⟨by rw [HG.out]; rfl, rfl⟩
      | true =>
        have HG := Lib.hid (show goodB true tags v = (v.length == 0) by unfold goodB; rw [HR.out]; rfl)
        have hnat : ((v.length : Int) == 0) = (v.length == 0) := by
          by_cases e : v.length = 0
          · rw [e]; rfl
          · rw [beq_eq_false_iff_ne.2 e, beq_eq_false_iff_ne.2 (by omega)]
        have HNAT := Lib.hid hnat
        clear hnat
        go_wp2_with fail
        go_ret
        refine ⟨?_, rfl⟩
        rw [HG.out, ← HNAT.out]
        rfl
end Go.Proofs.Ytbfbhacdllhddaa
