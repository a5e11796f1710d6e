/- Walks: are items alike; is one of them final, the document's. -/
import Derived.Test.YtbfbhacdllhddaaAut3
set_option linter.unusedVariables false
set_option linter.unusedSimpArgs false
set_option linter.all false
namespace Go.Cb
def finTo (l : List Itm) (k : Nat) : Bool := (l.take k).any fun x => x.2.length == 0
theorem finTo_succ {l : List Itm} {k : Nat} {x : Itm} (h : l[k]? = some x) : finTo l (k + 1) = (finTo l k || (x.2.length == 0)) := by
  unfold finTo
  rw [List.take_add_one, h, List.any_append]; simp
end Go.Cb
namespace Go.Proofs.Ytbfbhacdllhddaa
open Go.RowKit Go.Cb Go.Sort
set_option maxRecDepth 100000 in
set_option maxHeartbeats 8000000 in
theorem refSameItems_c (S S' : Nat → Prop) (A B : Option Addr) (c d : Nat) (s t : List Itm) (w : World) (h : Rd itemT w S A c s) (h2 : Rd itemT w S' B d t) (n m : Nat) (hn : n = s.length) (hm : m = t.length) :
    Calls Try.prog 14 #[.slice A n c, .slice B m d] w fun e w' => e = .returned (.bool (decide (s = t))) ∧ Bel w w' := by
  subst hn hm
  have lm := h.lenMax
  have lm2 := h2.lenMax
  by_cases hl : s.length = t.length
  · have hlc : ((s.length : Int) != (t.length : Int)) = false := by simp; omega
    have Hl := Lib.hid hl
    have H := Lib.hid h
    have H2 := Lib.hid h2
    clear hl h h2
    go_enter Try.func14, Try.ntmps14
    go_wp2
    go_loopw [13] (fun v wr => ∃ (k : Nat) (W : World), W = wr ∧ k ≤ s.length ∧ v = .int .i64 k ∧ Hid (s.take k = t.take k) ∧ Bel w W) (fun v _ => s.length - (intOf v).toNat)
    case atStart => exact ⟨0, _, rfl, Nat.zero_le _, rfl, rfl, Bel.refl _⟩
    case round =>
      obtain ⟨k, W, rfl, hk, rfl, hp, hb⟩ := hrel
      by_cases hlt : k < s.length
      · have hltb : k < t.length := by rw [← Hl.out]; exact hlt
        obtain ⟨ad, A0, c0, rfl, x0, x1, r0⟩ := item_rd (H.out.to hb) hlt
        obtain ⟨bd, B0, d0, rfl, y0, y1, q0⟩ := item_rd (H2.out.to hb) hltb
        obtain ⟨⟨i, a⟩, hx⟩ : ∃ x, s[k] = x := ⟨_, rfl⟩
        obtain ⟨⟨j, b⟩, hy⟩ : ∃ y, t[k] = y := ⟨_, rfl⟩
        have HX := Lib.hid hx
        have HY := Lib.hid hy
        rw [hx] at x0 x1 r0
        rw [hy] at y0 y1 q0
        dsimp only at x0 x1 r0 y0 y1 q0
        have k1 : (k : Int) < (s.length : Int) := by omega
        have k2 : (k : Int) < (t.length : Int) := by omega
        have Q2 := fun n => sameBag_c _ _ _ _ _ _ _ _ _ (r0.to ((Bel.refl _).drewN n)) (q0.to ((Bel.refl _).drewN n)) _ _ rfl rfl
        clear hx hy
        by_cases he : i = j
        · have hne : (i != j) = false := by simp [he]
          by_cases he2 : a = b
          · have Hs := Lib.hid (take_snoc hp.out hlt hltb (by rw [HX.out, HY.out, he, he2]))
            simp only [decide_eq_true he2] at Q2
            clear he he2
            go_wp2
            go_quiet ((go_at_call 48; exact Calls.quiet_of (Q2 _)))
            go_wp2
            go_roundw
            case rel => exact ⟨k + 1, _, rfl, by omega, by go_num, Hs.out, hb.drewN _⟩
            case measure => simp [intOf]; omega
          · have Hs := Lib.hid (show decide (s = t) = false from decide_eq_false (fun e => he2 (by
              have h1 := HX.out
              have h3 := HY.out
              subst e
              rw [h1] at h3
              exact congrArg (fun x => x.2) h3)))
            simp only [decide_eq_false he2] at Q2
            clear he he2
            go_wp2
            go_quiet ((go_at_call 48; exact Calls.quiet_of (Q2 _)))
            go_wp2
            go_ret
            exact ⟨by rw [Hs.out]; rfl, hb.drewN _⟩
        · have hne : (i != j) = true := by simp [he]
          have Hs := Lib.hid (show decide (s = t) = false from decide_eq_false (fun e => he (by
            have h1 := HX.out
            have h3 := HY.out
            subst e
            rw [h1] at h3
            exact congrArg (fun x => x.1) h3)))
          clear he
          go_wp2
          go_quiet (fail)
          go_wp2
          go_ret
          exact ⟨by rw [Hs.out]; rfl, hb.drewN _⟩
      · have Hs := Lib.hid (show decide (s = t) = true from decide_eq_true (by
          obtain rfl : k = s.length := by omega
          exact take_all hp.out Hl.out))
        go_wp2
        go_ret
        exact ⟨by rw [Hs.out]; rfl, hb⟩
  · have hlc : ((s.length : Int) != (t.length : Int)) = true := by simp; omega
    have Hs := Lib.hid (show decide (s = t) = false from decide_eq_false (fun e => hl (by rw [e])))
    clear hl
    go_enter Try.func14, Try.ntmps14
    go_wp2
    go_ret
    exact ⟨by rw [Hs.out]; rfl, Bel.refl _⟩
set_option maxHeartbeats 4000000 in
theorem refFinal_c (S : Nat → Prop) (A : Option Addr) (c : Nat) (l : List Itm) (w : World) (h : Rd itemT w S A c l) (n : Nat) (hn : n = l.length) :
    Calls Try.prog 25 #[.slice A n c] w fun e w' => e = .returned (.bool (l.any (fun x => x.2.length == 0))) ∧ Bel w w' := by
  subst hn
  have lm := h.lenMax
  have H := Lib.hid h
  clear h
  go_enter Try.func25, Try.ntmps25
  go_wp2
  go_loopw [7] (fun v wr => ∃ (k : Nat) (W : World), W = wr ∧ k ≤ l.length ∧ v = .int .i64 k ∧ Hid (finTo l k = false) ∧ Bel w W) (fun v _ => l.length - (intOf v).toNat)
  case atStart => exact ⟨0, _, rfl, Nat.zero_le _, rfl, rfl, Bel.refl _⟩
  case round =>
    obtain ⟨k, W, rfl, hk, rfl, hp, hb⟩ := hrel
    by_cases hlt : k < l.length
    · obtain ⟨ad, A0, c0, rfl, x0, x1, _⟩ := item_rd (H.out.to hb) hlt
      obtain ⟨⟨i, a⟩, hx⟩ : ∃ x, l[k] = x := ⟨_, rfl⟩
      have hx? : l[k]? = some (i, a) := by rw [List.getElem?_eq_getElem hlt, hx]
      have HX := Lib.hid hx?
      have HT := Lib.hid (finTo_succ hx?)
      rw [hx] at x0 x1
      dsimp only at x0 x1
      have hal : Bel W (W.alloc (.cells #[.int .i64 i, .slice A0 a.length c0] 76)) := (Bel.refl _).alloc _
      clear hx hx?
      by_cases hz : a.length = 0
      · have e0 : ((a.length : Int) == 0) = true := by rw [hz]; rfl
        have Hs := Lib.hid (show l.any (fun x => x.2.length == 0) = true from List.any_eq_true.2 ⟨(i, a), List.mem_of_getElem? HX.out, by simp [hz]⟩)
        clear hz
        go_wp2
        go_ret
        exact ⟨by rw [Hs.out]; rfl, hb.trans hal⟩
      · have e0 : ((a.length : Int) == 0) = false := beq_eq_false_iff_ne.2 (by omega)
        have Hs := Lib.hid (show finTo l (k + 1) = false by rw [HT.out, hp.out]; simpa using hz)
        clear hz
        go_wp2
        go_roundw
        case rel => exact ⟨k + 1, _, rfl, by omega, by go_num, Hs.out, hb.trans hal⟩
        case measure => simp [intOf]; omega
    · obtain rfl : k = l.length := by omega
      have Hs := Lib.hid (show l.any (fun x => x.2.length == 0) = false by have := hp.out; unfold finTo at this; rwa [List.take_length] at this)
      go_wp2
      go_ret
      exact ⟨by rw [Hs.out]; rfl, hb⟩
end Go.Proofs.Ytbfbhacdllhddaa
