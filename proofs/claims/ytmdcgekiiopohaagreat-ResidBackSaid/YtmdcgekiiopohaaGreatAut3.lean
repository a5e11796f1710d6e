/- Walks: are these items of a set. -/
import Derived.Test.YtmdcgekiiopohaaGreatAut2
import Derived.Test.YtmdcgekiiopohaaGreatME
set_option linter.unusedVariables false
set_option linter.unusedSimpArgs false
set_option linter.all false
namespace Go.Cb
def okToI (s : SemS) (l : List Itm) (k : Nat) : Bool := (List.range k).all (okAtI s l)
theorem okToI_succ (s : SemS) (l : List Itm) (k : Nat) : okToI s l (k + 1) = (okToI s l k && okAtI s l k) := by
  unfold okToI
  rw [List.range_succ, List.all_append]; simp
theorem rightI_bad {s : SemS} {l : List Itm} {k : Nat} (hk : k < l.length) (h : okAtI s l k = false) : rightI s l = false := by
  have : (List.range l.length).all (okAtI s l) = false := by
    rw [← Bool.not_eq_true, List.all_eq_true]
    intro h2
    have := h2 k (List.mem_range.2 hk)
    rw [h] at this; cases this
  unfold rightI
  rw [this, Bool.and_false]
theorem rightI_all {s : SemS} {l : List Itm} (h : rightS s = true) (h2 : okToI s l l.length = true) : rightI s l = true := by
  unfold rightI
  rw [h]
  exact h2
theorem rightI_no {s : SemS} {l : List Itm} (h : rightS s = false) : rightI s l = false := by unfold rightI; rw [h]; rfl
theorem getDi_of {l : List Itm} {k : Nat} {x : Itm} (h : l[k]? = some x) : l.getD k (0, []) = x := by rw [List.getD_eq_getElem?_getD, h]; rfl
theorem okAtI_at {s : SemS} {l : List Itm} {k : Nat} {x : Itm} (h : l[k]? = some x) : okAtI s l k = (decide (0 ≤ x.1) && decide (x.1 < (s.length : Int)) && rightB x.2 && (k == 0 || decide (cmpItem (l.getD (k - 1) (0, [])) x < 0))) := by
  unfold okAtI
  rw [getDi_of h]
end Go.Cb
namespace Go.Proofs.YtmdcgekiiopohaaGreat
open Go.RowKit Go.Cb Go.Sort
set_option maxRecDepth 100000 in
set_option maxHeartbeats 8000000 in
theorem autoRight_c (S S' : Nat → Prop) (A B : Option Addr) (c d : Nat) (s : SemS) (l : List Itm) (w : World) (h : Rd linT w S A c s) (hl : Rd itemT w S' B d l) (n m : Nat) (hn : n = s.length) (hm : m = l.length) :
    Calls Tryz.prog 58 #[.slice A n c, .slice B m d] w fun e w' => e = .returned (.bool (rightI s l)) ∧ Bel w w' := by
  subst hn hm
  have lm := hl.lenMax
  have lms := h.lenMax
  have KR := Lib.hid (semRight_c _ _ _ _ _ h _ rfl)
  have H := Lib.hid hl
  clear h hl
  cases hr : rightS s with
  | false =>
    have Hu := Lib.hid (rightI_no (l := l) hr)
    rw [hr] at KR
    clear hr
    go_enter Tryz.func58, Tryz.ntmps58
    go_wp2_with fail
    refine KR.out.mono ?_
    rintro e w1 ⟨rfl, hb1⟩
    go_wp2
    go_ret
    exact ⟨by rw [Hu.out]; rfl, hb1⟩
  | true =>
    have HRS := Lib.hid hr
    rw [hr] at KR
    clear hr
    go_enter Tryz.func58, Tryz.ntmps58
    go_wp2_with fail
    refine KR.out.mono ?_
    rintro e w1 ⟨rfl, hb1⟩
    go_wp2
    go_loopw [12] (fun v wr => ∃ (k : Nat) (W : World), W = wr ∧ k ≤ l.length ∧ v = .int .i64 k ∧ Hid (okToI s l k = true) ∧ Bel w W) (fun v _ => l.length - (intOf v).toNat)
    case atStart => exact ⟨0, _, rfl, Nat.zero_le _, rfl, rfl, hb1⟩
    case round =>
      clear hb1 KR
      obtain ⟨k, W, rfl, hk, rfl, hp, hb⟩ := hrel
      by_cases hlt : k < l.length
      · obtain ⟨ad, A0, c0, rfl, h0, h1, r0⟩ := item_rd (H.out.to hb) hlt
        obtain ⟨⟨j, xb⟩, hx⟩ : ∃ x, l[k] = x := ⟨_, rfl⟩
        have hx? : l[k]? = some (j, xb) := by rw [List.getElem?_eq_getElem hlt, hx]
        have HX := Lib.hid hx?
        have HOK := Lib.hid (okAtI_at (s := s) hx?)
        rw [hx] at h0 h1 r0
        dsimp only at h0 h1 r0
        have hal : Bel W (W.alloc (.cells #[.int .i64 j, .slice A0 xb.length c0] 100)) := (Bel.refl _).alloc _
        have T := Box.new W 100 (.int .i64 j) (.slice A0 xb.length c0)
        clear hx hx?
        go_wp2_with fail
        clear h0 h1
        have hb1 := hb.trans hal
        replace r0 := r0.to hal
        generalize W.alloc (.cells #[.int .i64 j, .slice A0 xb.length c0] 100) = W1 at *
        generalize W.heap.size = g at *
        obtain ⟨t0, t1, _, _⟩ := T.cells
        have T0 := cellReg t0
        have T1 := cellReg t1
        clear t0 t1
        by_cases j0 : j < 0
        · have dj := decide_eq_true j0
          have Hb := Lib.hid (rightI_bad (s := s) hlt (by rw [HOK.out, decide_eq_false (by omega)]; rfl))
          clear j0
          refine wp_region_quiet_below (by kernel_rfl) (by kernel_rfl) ?_
          repeat (go_big_quiet_step (fail))
          refine wpQuiet_nil ?_
          intro _ hw'
          obtain ⟨⟨dq, oq⟩, hw''⟩ := hw'
          subst hw''
          go_wp2_with fail
          go_ret
          exact ⟨by rw [Hb.out]; rfl, hb1.trans (bel_regrown _ _ _)⟩
        · by_cases j1 : (s.length : Int) ≤ j
          · have dj := decide_eq_false j0
            have dj1 := decide_eq_true j1
            have Hb := Lib.hid (rightI_bad (s := s) hlt (by rw [HOK.out, decide_eq_false (show ¬ j < (s.length : Int) by omega), Bool.and_false]; rfl))
            clear j0 j1
            refine wp_region_quiet_below (by kernel_rfl) (by kernel_rfl) ?_
            repeat (go_big_quiet_step (fail))
            refine wpQuiet_nil ?_
            intro _ hw'
            obtain ⟨⟨dq, oq⟩, hw''⟩ := hw'
            subst hw''
            go_wp2_with fail
            go_ret
            exact ⟨by rw [Hb.out]; rfl, hb1.trans (bel_regrown _ _ _)⟩
          · have dj := decide_eq_false j0
            have dj1 := decide_eq_false j1
            cases hr : rightB xb with
            | false =>
              have Hb := Lib.hid (rightI_bad (s := s) hlt (by rw [HOK.out, hr, Bool.and_false]; rfl))
              have K1 := Lib.hid (show ∀ W', Bel W1 W' → Calls Tryz.prog 20 #[.slice A0 xb.length c0] W' fun e w' => e = .returned (.bool false) ∧ Bel W' w' from fun W' h => by
                have := right_c _ _ _ xb W' (r0.to h) _ rfl
                rw [hr] at this
                exact this.mono fun _ _ h => ⟨h.1, by first | exact h.2 | exact h.2 ▸ Bel.refl _⟩)
              clear hr j0 j1
              refine wp_region_quiet_below (by kernel_rfl) (by kernel_rfl) ?_
              repeat (go_big_quiet_step (first | with_reducible exact callsReg K1.out))
              refine wpQuiet_nil ?_
              intro _ hw'
              obtain ⟨⟨dq, oq⟩, hw''⟩ := hw'
              subst hw''
              go_wp2_with fail
              go_ret
              exact ⟨by rw [Hb.out]; rfl, hb1.trans (bel_regrown _ _ _)⟩
            | true =>
              have K1 := Lib.hid (show ∀ W', Bel W1 W' → Calls Tryz.prog 20 #[.slice A0 xb.length c0] W' fun e w' => e = .returned (.bool true) ∧ Bel W' w' from fun W' h => by
                have := right_c _ _ _ xb W' (r0.to h) _ rfl
                rw [hr] at this
                exact this.mono fun _ _ h => ⟨h.1, by first | exact h.2 | exact h.2 ▸ Bel.refl _⟩)
              have hok : okAtI s l k = (k == 0 || decide (cmpItem (l.getD (k - 1) (0, [])) (j, xb) < 0)) := by
                rw [HOK.out, hr, decide_eq_true (show 0 ≤ j by omega), decide_eq_true (show j < (s.length : Int) by omega)]
                rfl
              have HOK2 := Lib.hid hok
              clear hok hr j0 j1
              by_cases hk0 : 0 < k
              · obtain ⟨ad', B0, d0, e', g0, g1, q0⟩ := item_rd (H.out.to hb1) (k := k - 1) (by omega)
                injection e' with e'
                subst e'
                obtain ⟨⟨i, yb⟩, hy⟩ : ∃ y, l[k - 1] = y := ⟨_, rfl⟩
                have HY := Lib.hid (getDi_of (show l[k - 1]? = some (i, yb) by rw [List.getElem?_eq_getElem (by omega), hy]))
                rw [hy] at g0 g1 q0
                dsimp only at g0 g1 q0
                have G0 := cellReg g0
                have G1 := cellReg g1
                have hd : decide (0 < (k : Int)) = true := decide_eq_true (by omega)
                have hw : IntKind.i64.wrap ((k : Int) - 1) = ((k - 1 : Nat) : Int) := by rw [IntKind.wrap_i64]; omega
                obtain ⟨z, hz⟩ : ∃ z, cmpItem (i, yb) (j, xb) = z := ⟨_, rfl⟩
                have K2 := Lib.hid (show ∀ W', Bel W1 W' → Calls Tryz.prog 61 #[.agg #[.int .i64 i, .slice B0 yb.length d0], .agg #[.int .i64 j, .slice A0 xb.length c0]] W' fun e w' => e = .returned (.int .i64 z) ∧ Bel W' w' from fun W' h => by
                  have := itemCompare_c _ _ _ _ _ _ (i, yb) (j, xb) W' (q0.to h) (r0.to h) _ _ rfl rfl
                  unfold lessI at *
                  rw [hz] at this
                  exact this.mono fun _ _ h => ⟨h.1, by first | exact h.2 | exact h.2.bel⟩)
                have Hs := Lib.hid (show okAtI s l k = decide (z < 0) by rw [HOK2.out, HY.out, hz, show (k == 0) = false by simp; omega]; rfl)
                clear hy hz g0 g1
                by_cases hcm : z < 0
                · have hcd : decide (0 ≤ z) = false := decide_eq_false (by omega)
                  have hcd2 : decide (z < 0) = true := decide_eq_true hcm
                  have Hs2 := Lib.hid (show okToI s l (k + 1) = true from by rw [okToI_succ, hp.out, Hs.out, decide_eq_true hcm]; rfl)
                  clear hcm
                  refine wp_region_quiet_below (by kernel_rfl) (by kernel_rfl) ?_
                  repeat (go_big_quiet_step (first | with_reducible exact callsReg K1.out | with_reducible exact callsReg K2.out))
                  refine wpQuiet_nil ?_
                  intro _ hw'
                  obtain ⟨⟨dq, oq⟩, hw''⟩ := hw'
                  subst hw''
                  go_wp2
                  go_roundw
                  case rel => exact ⟨k + 1, _, rfl, by omega, by go_num, Hs2.out, hb1.trans (bel_regrown _ _ _)⟩
                  case measure => simp [intOf]; omega
                · have hcd : decide (0 ≤ z) = true := decide_eq_true (by omega)
                  have hcd2 : decide (z < 0) = false := decide_eq_false hcm
                  have Hb := Lib.hid (rightI_bad (s := s) hlt (by rw [Hs.out, decide_eq_false hcm]))
                  clear hcm
                  refine wp_region_quiet_below (by kernel_rfl) (by kernel_rfl) ?_
                  repeat (go_big_quiet_step (first | with_reducible exact callsReg K1.out | with_reducible exact callsReg K2.out))
                  refine wpQuiet_nil ?_
                  intro _ hw'
                  obtain ⟨⟨dq, oq⟩, hw''⟩ := hw'
                  subst hw''
                  go_wp2
                  go_ret
                  exact ⟨by rw [Hb.out]; rfl, hb1.trans (bel_regrown _ _ _)⟩
              · have Hs := Lib.hid (show okToI s l (k + 1) = true from by rw [okToI_succ, hp.out, HOK2.out, show (k == 0) = true by simp; omega]; rfl)
                have hd : decide (0 < (k : Int)) = false := decide_eq_false (by omega)
                refine wp_region_quiet_below (by kernel_rfl) (by kernel_rfl) ?_
                repeat (go_big_quiet_step (first | with_reducible exact callsReg K1.out))
                refine wpQuiet_nil ?_
                intro _ hw'
                obtain ⟨⟨dq, oq⟩, hw''⟩ := hw'
                subst hw''
                go_wp2
                go_roundw
                case rel => exact ⟨k + 1, _, rfl, by omega, by go_num, Hs.out, hb1.trans (bel_regrown _ _ _)⟩
                case measure => simp [intOf]; omega
      · obtain rfl : k = l.length := by omega
        go_wp2
        go_ret
        exact ⟨by rw [rightI_all HRS.out hp.out]; rfl, hb⟩
end Go.Proofs.YtmdcgekiiopohaaGreat
