/- Walks: do tags cover a set. -/
import Derived.Test.YtmdcgekiiopohaaGreatResid4
set_option linter.unusedVariables false
set_option linter.unusedSimpArgs false
set_option linter.all false
namespace Go.Proofs.YtmdcgekiiopohaaGreat
open Go.RowKit Go.Cb Go.Sort
set_option maxHeartbeats 8000000 in
theorem indexNone_c (T : Nat) (S S' : Nat → Prop) (A B : Option Addr) (c d : Nat) (ps : List (List Int)) (tags : List Int) (w : World) (h : Rd bagT w S A c ps) (hT : w.cell? ⟨T, 0, none⟩ = some (.slice B tags.length d)) (ht : Rd intT w S' B d tags) (n : Nat) (hn : n = ps.length) :
    Calls Tryz.prog 43 #[.slice A n c, .func (.func 39) #[] #[.pointer (some ⟨T, 0, none⟩)]] w fun e w' => ((e = .returned (.int .i64 (-1)) ∧ ps.find? (fun p => !anyB p tags) = none) ∨ (∃ (k : Nat) (p : List Int), e = .returned (.int .i64 k) ∧ ps[k]? = some p ∧ ps.find? (fun p => !anyB p tags) = some p)) ∧ Bel w w' := by
  subst hn
  have lm := h.lenMax
  have hcf : ∀ (args : Array Value) (w : World), (callFunc 39 args).run Tryz.prog w = .ok (.enter 39 args) w := fun _ _ => by kernel_rfl
  have HT := Lib.hid (fun W (hb : Bel w W) => cell_keep hT (hb.block (World.block_lt_of_cell? _ _ hT)))
  have HTT := Lib.hid ht
  clear hT ht
  go_enter Tryz.func43, Tryz.ntmps43
  go_wp2
  go_loopw [8] (fun v wr => ∃ (k : Nat) (W : World), W = wr ∧ k ≤ ps.length ∧ v = .int .i64 k ∧ Hid ((ps.take k).find? (fun p => !anyB p tags) = none) ∧ Bel w W) (fun v _ => ps.length - (intOf v).toNat)
  case atStart => exact ⟨0, _, rfl, Nat.zero_le _, rfl, rfl, Bel.refl _⟩
  case round =>
    obtain ⟨k, W, rfl, hk, rfl, HA, hbW⟩ := hrel
    by_cases hlt : k < ps.length
    · obtain ⟨ad, Ap, cp, rfl, y9, hpr⟩ := (h.to hbW).row hlt
      obtain ⟨p, hpe⟩ : ∃ p, ps[k] = p := ⟨_, rfl⟩
      have hp? : ps[k]? = some p := by rw [List.getElem?_eq_getElem hlt, hpe]
      rw [hpe] at y9 hpr
      have HP? := Lib.hid hp?
      have HQ := Lib.hid (cover1_c T _ _ Ap B cp d p tags W hpr (HT.out W hbW) (HTT.out.to hbW) _ rfl)
      clear hpe hp? hpr
      cases ha : anyB p tags with
      | true =>
        have HN := Lib.hid (find_none HP?.out HA.out ha)
        rw [ha] at HQ
        clear ha
        go_wp2_with fail
        refine HQ.out.mono ?_
        rintro e w1 ⟨rfl, hb1⟩
        go_wp2
        go_roundw
        case rel => exact ⟨k + 1, _, rfl, by omega, by go_num, HN.out, hbW.trans hb1⟩
        case measure => simp [intOf]; omega
      | false =>
        have HN := Lib.hid (find_some HP?.out HA.out ha)
        rw [ha] at HQ
        clear ha
        go_wp2_with fail
        refine HQ.out.mono ?_
        rintro e w1 ⟨rfl, hb1⟩
        go_wp2
        go_ret
        exact ⟨.inr ⟨k, p, rfl, HP?.out, HN.out⟩, hbW.trans hb1⟩
    · obtain rfl : k = ps.length := by omega
      have HN := Lib.hid (show ps.find? (fun p => !anyB p tags) = none by have := HA.out; rwa [List.take_length] at this)
      go_wp2
      go_ret
      exact ⟨.inl ⟨rfl, HN.out⟩, hbW⟩
set_option maxRecDepth 100000 in
set_option maxHeartbeats 16000000 in
theorem residCover_c (S S' : Nat → Prop) (A B : Option Addr) (ca cb : Nat) (s : SemS) (free : Bool) (tags : List Int) (w : World) (h : Rd linT w S A ca s) (ht : Rd intT w S' B cb tags) (n m : Nat) (hn : n = s.length) (hm : m = tags.length) :
    Calls Tryz.prog 17 #[.slice A n ca, .bool free, .slice B m cb] w fun e w' => ∃ v, e = .returned (.tuple #[.bool (coverS s free tags).1, v]) ∧ AnyBag w' v (coverS s free tags).2 ∧ Bel w w' := by
  subst hn hm
  have lm := h.lenMax
  have hal0 : Bel w (w.alloc (.cells #[.slice B tags.length cb] 22)) := (Bel.refl _).alloc _
  have hX0 : (w.alloc (.cells #[.slice B tags.length cb] 22)).cell? ⟨w.heap.size, 0, none⟩ = some (.slice B tags.length cb) := cellAt (heap_alloc_new w _) 0
  have KR := Lib.hid (semRight_c _ _ _ _ _ (h.to hal0) _ rfl)
  have HS := Lib.hid (h.to hal0)
  have HT := Lib.hid (ht.to hal0)
  have HX0 := Lib.hid hX0
  have HB0 := Lib.hid hal0
  have hcf : ∀ (args : Array Value) (w : World), (callFunc 39 args).run Tryz.prog w = .ok (.enter 39 args) w := fun _ _ => by kernel_rfl
  clear h ht hX0 hal0
  cases hr : rightS s with
  | false =>
    have Hu := Lib.hid (coverS_no (free := free) (tags := tags) hr)
    rw [hr] at KR
    clear hr
    go_enter Tryz.func17, Tryz.ntmps17
    go_wp2_with fail
    refine KR.out.mono ?_
    rintro e w1 ⟨rfl, hb1⟩
    go_wp2
    go_ret2
    rw [Hu.out]
    exact ⟨_, rfl, ⟨none, 0, rfl, Rd.nil _ _ _ _ _ (by decide)⟩, HB0.out.trans hb1⟩
  | true =>
    have Hu := Lib.hid (coverS_yes (free := free) (tags := tags) hr)
    have HRS := Lib.hid hr
    rw [hr] at KR
    clear hr
    go_enter Tryz.func17, Tryz.ntmps17
    go_wp2_with fail
    refine KR.out.mono ?_
    rintro e w1 ⟨rfl, hb1⟩
    have HS1 := Lib.hid (HS.out.to hb1)
    have HT1 := Lib.hid (HT.out.to hb1)
    have HX1 := Lib.hid (cell_keep HX0.out (hb1.block (World.block_lt_of_cell? _ _ HX0.out)))
    have HB1 := Lib.hid (HB0.out.trans hb1)
    clear KR HS HT HX0 HB0 hb1
    generalize w.heap.size = TT at *
    go_wp2
    go_loopw [18] (fun v17 wr => ∃ (k : Nat) (W : World), W = wr ∧ k ≤ s.length ∧ v17 = .int .i64 k ∧ Hid (coverF free tags s = coverF free tags (s.drop k)) ∧ Bel w1 W) (fun v17 _ => s.length - (intOf v17).toNat)
    case atStart => exact ⟨0, _, rfl, Nat.zero_le _, rfl, rfl, Bel.refl _⟩
    case round =>
      obtain ⟨k, W, rfl, hk, rfl, HF, hbW⟩ := hrel
      by_cases hlt : k < s.length
      · obtain ⟨ad, A0, c0, A1, c1, rfl, x0, x1, r0, r1⟩ := (HS1.out.to hbW).lrow hlt
        obtain ⟨⟨xb, ps⟩, hx⟩ : ∃ x, s[k] = x := ⟨_, rfl⟩
        have hx? : s[k]? = some (xb, ps) := by rw [List.getElem?_eq_getElem hlt, hx]
        have HFA := Lib.hid (HF.out.trans (coverF_at hx?))
        have lb : xb.length ≤ 12 := right_len ((rightL_iff (b := xb) (ps := ps)).1 (rightS_each HRS.out (List.mem_of_getElem? hx?))).1
        have HLP := Lib.hid (fun p (hp : p ∈ ps) => right_len (((rightL_iff (b := xb) (ps := ps)).1 (rightS_each HRS.out (List.mem_of_getElem? hx?))).2.each p hp).2)
        rw [hx] at x0 x1 r0 r1
        dsimp only at x0 x1 r0 r1
        have hal : Bel W (W.alloc (.cells #[.slice A0 xb.length c0, .slice A1 ps.length c1] 30)) := (Bel.refl _).alloc _
        have X := Box.new W 30 (.slice A0 xb.length c0) (.slice A1 ps.length c1)
        have HX := Lib.hid X
        have HBW := Lib.hid (hbW.trans hal)
        have R0 := Lib.hid (r0.to hal)
        have R1 := Lib.hid (r1.to hal)
        clear hx hx? r0 r1 hbW hal X
        obtain ⟨z0, z1, _, _⟩ := HX.out.cells
        go_wp2_with fail
        generalize (W.alloc (.cells #[.slice A0 xb.length c0, .slice A1 ps.length c1] 30)) = W1 at *
        clear x0 x1 z0 z1
        have HQ := Lib.hid (cover1_c TT _ _ A0 B c0 cb xb tags W1 R0.out (cell_keep HX1.out (HBW.out.block (World.block_lt_of_cell? _ _ HX1.out))) (HT1.out.to HBW.out) _ rfl)
        cases ha : anyB xb tags with
        | true =>
          have HN := Lib.hid (HFA.out.trans (coverF_any ha))
          rw [ha] at HQ
          clear ha
          refine HQ.out.mono ?_
          rintro e w3 ⟨rfl, hb3⟩
          go_wp2
          go_roundw
          case rel => exact ⟨k + 1, _, rfl, by omega, by go_num, HN.out, HBW.out.trans hb3⟩
          case measure => simp [intOf]; omega
        | false =>
          rw [ha] at HQ
          refine HQ.out.mono ?_
          rintro e w3 ⟨rfl, hb3⟩
          obtain ⟨z0, z1, _, _⟩ := (HX.out.to hb3).cells
          have HB3 := Lib.hid (HBW.out.trans hb3)
          have R03 := Lib.hid (R0.out.to hb3)
          have R13 := Lib.hid (R1.out.to hb3)
          have HX3 := Lib.hid (HX.out.to hb3)
          by_cases hb0 : 0 < xb.length
          · have HN := Lib.hid (Hu.out.trans (HFA.out.trans (coverF_base (r := s.drop (k + 1)) ha (.inl hb0))))
            have hc0 : decide ((0 : Int) < (xb.length : Int)) = true := decide_eq_true (by omega)
            have HCL := Lib.hid (clone_c _ A0 c0 xb w3 R03.out _ rfl (by omega))
            clear ha hb3
            go_wp2_with fail
            refine HCL.out.mono ?_
            rintro e w9 ⟨v9, rfl, ho9, hb9⟩
            obtain ⟨A9, c9, rfl, r9⟩ := ho9.rdAll
            have HR9 := Lib.hid r9
            clear ho9 r9
            go_wp2
            go_ret2
            rw [HN.out]
            exact ⟨_, rfl, ⟨A9, c9, rfl, HR9.out⟩, (HB1.out.trans HB3.out).trans hb9⟩
          · obtain rfl : xb = [] := List.eq_nil_of_length_eq_zero (by omega)
            cases free with
            | false =>
              have HN := Lib.hid (Hu.out.trans (HFA.out.trans (coverF_base (r := s.drop (k + 1)) ha (.inr rfl))))
              have HCL := Lib.hid (clone_c _ A0 c0 [] w3 R03.out 0 rfl (by simp))
              clear ha hb0 hb3
              go_wp2_with fail
              refine HCL.out.mono ?_
              rintro e w9 ⟨v9, rfl, ho9, hb9⟩
              obtain ⟨A9, c9, rfl, r9⟩ := ho9.rdAll
              have HR9 := Lib.hid r9
              clear ho9 r9
              go_wp2
              go_ret2
              rw [HN.out]
              exact ⟨_, rfl, ⟨A9, c9, rfl, HR9.out⟩, (HB1.out.trans HB3.out).trans hb9⟩
            | true =>
              have HPF := Lib.hid (HFA.out.trans (coverF_per (r := s.drop (k + 1)) ha rfl rfl))
              have HQ2 := Lib.hid (indexNone_c TT _ _ A1 B c1 cb ps tags w3 R13.out (cell_keep HX1.out (HB3.out.block (World.block_lt_of_cell? _ _ HX1.out))) (HT1.out.to HB3.out) _ rfl)
              clear ha hb0 hb3
              go_wp2_with fail
              refine HQ2.out.mono ?_
              rintro e w4 ⟨⟨rfl, hf⟩ | ⟨q, p, rfl, hp?, hf⟩, hb4⟩
              · have HN := Lib.hid (show coverF true tags s = coverF true tags (s.drop (k + 1)) from HPF.out.trans (by rw [hf]))
                clear hf
                go_wp2
                go_roundw
                case rel => exact ⟨k + 1, _, rfl, by omega, by go_num, HN.out, HB3.out.trans hb4⟩
                case measure => simp [intOf]; omega
              · have HN := Lib.hid (show coverS s true tags = (false, p) from Hu.out.trans (HPF.out.trans (by rw [hf])))
                have hql := (List.getElem?_eq_some_iff.1 hp?).1
                obtain ⟨ad9, Ap, cp, rfl, y9, hpr⟩ := (R13.out.to hb4).row hql
                have hpe : ps[q] = p := (List.getElem?_eq_some_iff.1 hp?).2
                rw [hpe] at y9 hpr
                have lp := HLP.out p (List.mem_of_getElem? hp?)
                have HCL := Lib.hid (clone_c _ Ap cp p w4 hpr _ rfl (by omega))
                clear z0 z1
                obtain ⟨z0, z1, _, _⟩ := (HX3.out.to hb4).cells
                have lmp := R13.out.lenMax
                clear hpe hp? hf hpr
                go_wp2_with fail
                refine HCL.out.mono ?_
                rintro e w9 ⟨v9, rfl, ho9, hb9⟩
                obtain ⟨A9, c9, rfl, r9⟩ := ho9.rdAll
                have HR9 := Lib.hid r9
                clear ho9 r9
                go_wp2
                go_ret2
                rw [HN.out]
                exact ⟨_, rfl, ⟨A9, c9, rfl, HR9.out⟩, ((HB1.out.trans HB3.out).trans hb4).trans hb9⟩
      · obtain rfl : k = s.length := by omega
        have HR := Lib.hid (Hu.out.trans (HF.out.trans (show coverF free tags (s.drop s.length) = (true, []) by rw [List.drop_length]; rfl)))
        go_wp2
        go_ret2
        rw [HR.out]
        exact ⟨_, rfl, ⟨none, 0, rfl, Rd.nil _ _ _ _ _ (by decide)⟩, HB1.out.trans hbW⟩
theorem wakes11 (w : World) : Calls Tryz.prog 6 #[] w fun e w' => e = .returned (.bool true) ∧ Bel w w' := by
  have Q := residCover_c All All none none 0 0 [] false [] w (Rd.nil _ _ _ _ _ (by decide)) (Rd.nil _ _ _ _ _ (by decide)) 0 0 rfl rfl
  rw [show coverS [] false [] = (true, []) from rfl] at Q
  have HQ := Lib.hid Q
  clear Q
  go_enter Tryz.func6, Tryz.ntmps6
  go_wp2_with fail
  refine HQ.out.mono ?_
  rintro e w1 ⟨v, rfl, ⟨A, c, rfl, _⟩, hb⟩
  go_wp2
  go_ret
  exact ⟨rfl, hb⟩
end Go.Proofs.YtmdcgekiiopohaaGreat
