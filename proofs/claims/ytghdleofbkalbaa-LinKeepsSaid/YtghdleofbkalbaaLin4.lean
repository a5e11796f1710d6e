/- Walks: what the statements of chapter 6 make. -/
import Derived.Test.YtghdleofbkalbaaLin3
namespace Go.Proofs.Ytghdleofbkalbaa
open Go.RowKit Go.Cb
theorem threeBoxes (w : World) (t : TypeId) (a b c d e f : Value) :
    Bel w (((w.alloc (.cells #[a, b] t)).alloc (.cells #[c, d] t)).alloc (.cells #[e, f] t)) ∧ Box (((w.alloc (.cells #[a, b] t)).alloc (.cells #[c, d] t)).alloc (.cells #[e, f] t)) t w.heap.size a b ∧
    Box (((w.alloc (.cells #[a, b] t)).alloc (.cells #[c, d] t)).alloc (.cells #[e, f] t)) t (w.heap.size + 1) c d ∧ Box (((w.alloc (.cells #[a, b] t)).alloc (.cells #[c, d] t)).alloc (.cells #[e, f] t)) t (w.heap.size + 2) e f := by
  refine ⟨(((Bel.refl _).alloc _).alloc _).alloc _, ((Box.new w t a b).to ((Bel.refl _).alloc _)).to ((Bel.refl _).alloc _), ?_, ?_⟩
  · have h := (Box.new (w.alloc (.cells #[a, b] t)) t c d).to ((Bel.refl _).alloc (.cells #[e, f] t))
    rwa [show (w.alloc (.cells #[a, b] t)).heap.size = w.heap.size + 1 by simp] at h
  · have h := Box.new ((w.alloc (.cells #[a, b] t)).alloc (.cells #[c, d] t)) t e f
    rwa [show ((w.alloc (.cells #[a, b] t)).alloc (.cells #[c, d] t)).heap.size = w.heap.size + 2 by simp] at h
set_option maxRecDepth 100000 in
set_option maxHeartbeats 8000000 in
theorem made06_c (S : Nat → Prop) (A : Option Addr) (c : Nat) (l : List Int) (w : World) (h : Rd intT w S A c l) (hr : ∀ x ∈ l, -9223372036854775808 ≤ x ∧ x ≤ 9223372036854775807) (n : Nat) (hn : n = l.length) :
    Calls Try.prog 8 #[.slice A n c] w fun e w' => ∃ A0 c0 A1 c1, e = .returned (.agg #[.slice A0 (madeL l).1.length c0, .slice A1 (madeL l).2.length c1]) ∧ Rd intT w' (Ge w.heap.size) A0 c0 (madeL l).1 ∧ Rd bagT w' (Ge w.heap.size) A1 c1 (madeL l).2 ∧ Bel w w' := by
  subst hn
  have lm := h.lenMax
  have hcap := h.cap
  have Hr := Lib.hid hr
  clear hr
  go_enter Try.func8, Try.ntmps8
  go_wp2_with fail
  have B0 := Box.new w 26 (.slice none 0 0) (.slice none 0 0)
  have hb0 : Bel w (w.alloc (.cells #[.slice none 0 0, .slice none 0 0] 26)) := (Bel.refl _).alloc _
  have hs0 : (w.alloc (.cells #[.slice none 0 0, .slice none 0 0] 26)).heap.size = w.heap.size + 1 := by simp
  generalize w.alloc (.cells #[.slice none 0 0, .slice none 0 0] 26) = W0 at *
  go_loopw [3, 4] (fun v3 v4 wr => ∃ (k : Nat) (W : World), W = wr ∧ k ≤ 3 ∧ (k = 0 ∨ 4 * k < l.length) ∧ v4 = .int .i64 k ∧ Own bagT 23 W W0.heap.size (Ge W0.heap.size) v3 (madeTo l k) ∧ Bel W0 W) (fun _ v4 _ => 3 - (intOf v4).toNat)
  case atStart => exact ⟨0, _, rfl, by omega, .inl rfl, rfl, Own.nil _ _ _ _ _, Bel.refl _⟩
  case round =>
    obtain ⟨k, W, rfl, hk, hk2, rfl, ho, hb⟩ := hrel
    have hbw := hb0.trans hb
    by_cases hlt : k < 3
    · by_cases hll : 4 * k + 4 < l.length
      · obtain ⟨ad, rfl, _⟩ := h.int (k := 0) (by omega)
        have hck : ¬ c = 4 * k + 4 := by omega
        have hD : Rd intT W S (some (ad.add (4 * k + 4))) (c - (4 * k + 4)) (l.drop (4 * k + 4)) := by
          have := (h.to hbw).drop (4 * k + 4) (by omega)
          rw [if_neg hck, show (4 * k + 4) * intT.sz = 4 * k + 4 from Nat.mul_one _] at this
          exact this
        have k1 : (4 * (k : Int) + 4) < (l.length : Int) := by omega
        go_wp2_with fail
        refine (playBag_c _ _ _ _ _ hD (fun x hx => Hr.out x (List.mem_of_mem_drop hx)) _ (by simp)).mono ?_
        rintro e w5 ⟨v5, rfl, ho5, hb5⟩
        obtain ⟨A5, c5, rfl, hr5⟩ := ho5.rdOne
        have hlk := madeTo_length l k
        have hms := madeTo_succ l k
        have Hms := Lib.hid hms
        clear hms
        have hwb := (hb.trans hb5)
        have hsz := hb.size
        go_wp2_with (at_builtin; refine wp_append1 bagT (w0 := W0) 24 23 (.slice none 0 0) 24 rfl _ _ rfl Try.underlying24 info_bag rfl (Ge W0.heap.size) u3 (madeTo l k) (playBag (l.drop (4 * k + 4))) [.slice A5 (playBag (l.drop (4 * k + 4))).length c5] rfl rfl (ho.to hb5) ⟨A5, c5, rfl, hr5.mono (fun j hj => ⟨Nat.le_trans hsz hj.1, fun e => by have := ho.lt e.symm; omega⟩)⟩ hwb (by simp [maxLen, hlk]; omega) (by simp [hlk]; omega) ?_; rintro v6 w6 ho6 hb6 _ _; rw [← Hms.out] at ho6)
        go_roundw
        case rel => exact ⟨k + 1, _, rfl, by omega, .inr (by omega), by go_num, ho6, hb6⟩
        case measure => simp [intOf]; omega
      · have hdl : decide ((4 * (k : Int) + 4) < (l.length : Int)) = false := decide_eq_false (by omega)
        have Hk := Lib.hid (madeN_at (l := l) hk hk2 (.inr (by omega)))
        obtain ⟨A3, c3, rfl, hr3⟩ := ho.rdGe
        have lt3 := madeTo_length l k
        have ll3 := madeTo_len l k
        go_wp2_with fail
        refine (playBag_c _ _ _ _ _ (h.to hbw) Hr.out _ rfl).mono ?_
        rintro e w5 ⟨v5, rfl, ho5, hb5⟩
        obtain ⟨A5, c5, rfl, hr5⟩ := ho5.rd
        have l5 := right_len (playBag_right l)
        go_wp2_with fail
        refine (refOfLin_c _ _ _ _ _ _ (playBag l) (madeTo l k) _ hr5 (hr3.to hb5) _ _ rfl (by simp [lt3]) (by omega) (by omega) (fun p hp => by have := ll3 p hp; omega)).mono ?_
        rw [show (ofLin (playBag l) (madeTo l k)).1 = madeL l from by unfold madeL; rw [Hk.out]]
        rintro e w6 ⟨A6, c6, A7, c7, rfl, hr6, hr7, hb6⟩
        have hb6w := (hbw.trans hb5).trans hb6
        replace hr6 := hr6.mono (S' := fun j => w.heap.size ≤ j ∧ j ≠ w.heap.size) (fun j hj => by have := (hb.trans hb5).size; unfold Ge at hj; exact ⟨by omega, by omega⟩)
        replace hr7 := hr7.mono (S' := fun j => w.heap.size ≤ j ∧ j ≠ w.heap.size) (fun j hj => by have := (hb.trans hb5).size; unfold Ge at hj; exact ⟨by omega, by omega⟩)
        have B1 := ((B0.to hb).to hb5).to hb6
        obtain ⟨xa, xb, hX⟩ : ∃ xa xb, madeL l = (xa, xb) := ⟨_, _, rfl⟩
        rw [hX] at hr6 hr7 ⊢
        have HX := Lib.hid hX
        clear hX
        dsimp only at hr6 hr7 ⊢
        have B2 := B1.to ((Bel.refl w6).alloc (.cells #[.slice A6 xa.length c6, .slice A7 xb.length c7] 26))
        obtain ⟨x0, x1, f0, f1⟩ := B2.cells
        obtain ⟨y0, y1, g0, g1⟩ := (B2.set0 (.slice A6 xa.length c6)).cells
        obtain ⟨z0, z1, k0, k1⟩ := ((B2.set0 (.slice A6 xa.length c6)).set1 (.slice A7 xb.length c7)).cells
        have hu := (Upd.one (w6.alloc (.cells #[.slice A6 xa.length c6, .slice A7 xb.length c7] 26)) w.heap.size 0 (.slice A6 xa.length c6)).set (p := ⟨w.heap.size, 1, none⟩) rfl (.slice A7 xb.length c7)
        have hal : Bel w6 (w6.alloc (.cells #[.slice A6 xa.length c6, .slice A7 xb.length c7] 26)) := (Bel.refl _).alloc _
        go_wp2_with fail
        (try simp only [Exit.inBlock, Exit.then])
        refine bodyPost_ret (v := .agg #[.slice A6 xa.length c6, .slice A7 xb.length c7]) ?_ rfl ?_
        · rw [results_cell1 rfl]
          go_simp
        · rw [HX.out]
          exact ⟨_, _, _, _, rfl, ((hr6.to hal).upd hu (fun h => h.2 rfl)).mono (fun _ h => h.1), ((hr7.to hal).upd hu (fun h => h.2 rfl)).mono (fun _ h => h.1), (hb6w.trans hal).upd hu (Nat.le_refl _)⟩
    · obtain rfl : k = 3 := by omega
      have Hk := Lib.hid (madeN_at (l := l) hk hk2 (.inl rfl))
      obtain ⟨A3, c3, rfl, hr3⟩ := ho.rdGe
      have lt3 := madeTo_length l 3
      have ll3 := madeTo_len l 3
      go_wp2_with fail
      refine (playBag_c _ _ _ _ _ (h.to hbw) Hr.out _ rfl).mono ?_
      rintro e w5 ⟨v5, rfl, ho5, hb5⟩
      obtain ⟨A5, c5, rfl, hr5⟩ := ho5.rd
      have l5 := right_len (playBag_right l)
      go_wp2_with fail
      refine (refOfLin_c _ _ _ _ _ _ (playBag l) (madeTo l 3) _ hr5 (hr3.to hb5) _ _ rfl (by simp [lt3]) (by omega) (by omega) (fun p hp => by have := ll3 p hp; omega)).mono ?_
      rw [show (ofLin (playBag l) (madeTo l 3)).1 = madeL l from by unfold madeL; rw [Hk.out]]
      rintro e w6 ⟨A6, c6, A7, c7, rfl, hr6, hr7, hb6⟩
      have hb6w := (hbw.trans hb5).trans hb6
      replace hr6 := hr6.mono (S' := fun j => w.heap.size ≤ j ∧ j ≠ w.heap.size) (fun j hj => by have := (hb.trans hb5).size; unfold Ge at hj; exact ⟨by omega, by omega⟩)
      replace hr7 := hr7.mono (S' := fun j => w.heap.size ≤ j ∧ j ≠ w.heap.size) (fun j hj => by have := (hb.trans hb5).size; unfold Ge at hj; exact ⟨by omega, by omega⟩)
      have B1 := ((B0.to hb).to hb5).to hb6
      obtain ⟨xa, xb, hX⟩ : ∃ xa xb, madeL l = (xa, xb) := ⟨_, _, rfl⟩
      rw [hX] at hr6 hr7 ⊢
      have HX := Lib.hid hX
      clear hX
      dsimp only at hr6 hr7 ⊢
      have B2 := B1.to ((Bel.refl w6).alloc (.cells #[.slice A6 xa.length c6, .slice A7 xb.length c7] 26))
      obtain ⟨x0, x1, f0, f1⟩ := B2.cells
      obtain ⟨y0, y1, g0, g1⟩ := (B2.set0 (.slice A6 xa.length c6)).cells
      obtain ⟨z0, z1, k0, k1⟩ := ((B2.set0 (.slice A6 xa.length c6)).set1 (.slice A7 xb.length c7)).cells
      have hu := (Upd.one (w6.alloc (.cells #[.slice A6 xa.length c6, .slice A7 xb.length c7] 26)) w.heap.size 0 (.slice A6 xa.length c6)).set (p := ⟨w.heap.size, 1, none⟩) rfl (.slice A7 xb.length c7)
      have hal : Bel w6 (w6.alloc (.cells #[.slice A6 xa.length c6, .slice A7 xb.length c7] 26)) := (Bel.refl _).alloc _
      go_wp2_with fail
      (try simp only [Exit.inBlock, Exit.then])
      refine bodyPost_ret (v := .agg #[.slice A6 xa.length c6, .slice A7 xb.length c7]) ?_ rfl ?_
      · rw [results_cell1 rfl]
        go_simp
      · rw [HX.out]
        exact ⟨_, _, _, _, rfl, ((hr6.to hal).upd hu (fun h => h.2 rfl)).mono (fun _ h => h.1), ((hr7.to hal).upd hu (fun h => h.2 rfl)).mono (fun _ h => h.1), (hb6w.trans hal).upd hu (Nat.le_refl _)⟩
set_option maxHeartbeats 1000000 in
theorem wakes06 (w : World) : Calls Try.prog 11 #[] w fun e w' => e = .returned (.bool true) ∧ Bel w w' := by
  have P := point_c All All none none 0 0 [] [] w (Rd.nil _ _ _ _ _ (by simp [maxLen])) (Rd.nil _ _ _ _ _ (by simp [maxLen])) 0 0 rfl rfl
  rw [show (rightL ([], []) && ([] : List (List Int)).isEmpty) = true from by decide] at P
  have R := fun w => linRight_c All All none none 0 0 [] [] w (Rd.nil _ _ _ _ _ (by simp [maxLen])) (Rd.nil _ _ _ _ _ (by simp [maxLen])) 0 0 rfl rfl
  rw [show rightL ([], []) = true from by decide] at R
  go_enter Try.func11, Try.ntmps11
  go_wp2_with fail
  refine P.mono ?_
  rintro e w1 ⟨rfl, hb⟩
  go_wp2_with fail
  refine (R _).mono ?_
  rintro e w2 ⟨rfl, hb2⟩
  go_wp2_with fail
  go_ret
  exact ⟨rfl, hb.trans hb2⟩
end Go.Proofs.Ytghdleofbkalbaa
