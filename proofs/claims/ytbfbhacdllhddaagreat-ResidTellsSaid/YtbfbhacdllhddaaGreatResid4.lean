/- Walks: do tags cover a set, the document's. -/
import Derived.Test.YtbfbhacdllhddaaGreatResid3
set_option linter.unusedVariables false
set_option linter.unusedSimpArgs false
set_option linter.all false
namespace Go.Cb
open Go.RowKit
theorem anyB_snoc {b : List Int} {tags : List Int} {k : Nat} {t : Int} (h : tags[k]? = some t) (h1 : anyB b (tags.take k) = false) (h2 : hasB b t = false) : anyB b (tags.take (k + 1)) = false := by
  unfold anyB at *
  rw [List.take_add_one, h, List.any_append, h1]
  simp [h2]
theorem anyB_yes {b : List Int} {tags : List Int} {k : Nat} {t : Int} (h : tags[k]? = some t) (h2 : hasB b t = true) : anyB b tags = true := List.any_eq_true.2 ⟨t, List.mem_of_getElem? h, h2⟩
theorem coverF_at {free : Bool} {tags : List Int} {s : SemS} {k : Nat} {x : Lin} (h : s[k]? = some x) : coverF free tags (s.drop k) = coverF free tags (x :: s.drop (k + 1)) := by
  have hlt := (List.getElem?_eq_some_iff.1 h).1
  rw [List.drop_eq_getElem_cons hlt, (List.getElem?_eq_some_iff.1 h).2]
theorem coverF_any {free : Bool} {tags : List Int} {r : SemS} {x : Lin} (h : anyB x.1 tags = true) : coverF free tags (x :: r) = coverF free tags r := by rw [coverF, if_pos h]
theorem coverF_base {free : Bool} {tags : List Int} {r : SemS} {x : Lin} (h : anyB x.1 tags = false) (h2 : 0 < x.1.length ∨ free = false) : coverF free tags (x :: r) = (false, x.1) := by
  rw [coverF, if_neg (by rw [h]; decide), if_pos]
  rcases h2 with h2 | h2
  · exact .inl (fun e => by rw [e] at h2; simp at h2)
  · exact .inr h2
theorem coverF_per {free : Bool} {tags : List Int} {r : SemS} {x : Lin} (h : anyB x.1 tags = false) (h2 : x.1.length = 0) (h3 : free = true) : coverF free tags (x :: r) = match x.2.find? fun p => !anyB p tags with
      | some p => (false, p)
      | none => coverF free tags r := by
  have h5 : ¬ (x.1 ≠ [] ∨ free = false) := by
    rintro (h4 | h4)
    · exact h4 (List.eq_nil_of_length_eq_zero h2)
    · rw [h3] at h4; cases h4
  exact (if_neg (by rw [h]; decide)).trans (if_neg h5)
theorem find_none {tags : List Int} {ps : List (List Int)} {k : Nat} {p : List Int} (h : ps[k]? = some p) (h1 : (ps.take k).find? (fun p => !anyB p tags) = none) (h2 : anyB p tags = true) : (ps.take (k + 1)).find? (fun p => !anyB p tags) = none := by
  rw [List.take_add_one, h, List.find?_append, h1]
  simp [h2]
theorem find_some {tags : List Int} {ps : List (List Int)} {k : Nat} {p : List Int} (h : ps[k]? = some p) (h1 : (ps.take k).find? (fun p => !anyB p tags) = none) (h2 : anyB p tags = false) : ps.find? (fun p => !anyB p tags) = some p := by
  have hlt := (List.getElem?_eq_some_iff.1 h).1
  have e : ps = ps.take k ++ p :: ps.drop (k + 1) := by
    conv => lhs; rw [← List.take_append_drop k ps, List.drop_eq_getElem_cons hlt, (List.getElem?_eq_some_iff.1 h).2]
  rw [e, List.find?_append, h1, List.find?_cons, h2]
  rfl
theorem coverS_no {s : SemS} {free : Bool} {tags : List Int} (h : rightS s = false) : coverS s free tags = (false, []) := by unfold coverS; rw [if_neg (by rw [h]; decide)]
theorem coverS_yes {s : SemS} {free : Bool} {tags : List Int} (h : rightS s = true) : coverS s free tags = coverF free tags s := by unfold coverS; rw [if_pos h]
/-- A word, read alone. -/
def AnyBag (w : World) (v : Value) (l : List Int) : Prop := ∃ A c, v = .slice A l.length c ∧ Rd intT w All A c l
end Go.Cb
namespace Go.Proofs.YtbfbhacdllhddaaGreat
open Go.RowKit Go.Cb Go.Sort
set_option maxHeartbeats 4000000 in
theorem refAny_c (S S' : Nat → Prop) (A B : Option Addr) (c d : Nat) (b tags : List Int) (w : World) (h : Rd intT w S A c b) (h2 : Rd intT w S' B d tags) (n m : Nat) (hn : n = b.length) (hm : m = tags.length) :
    Calls Tryz.prog 81 #[.slice A n c, .slice B m d] w fun e w' => e = .returned (.bool (anyB b tags)) ∧ w = w' := by
  subst hn hm
  have lm := h2.lenMax
  have H := Lib.hid h
  clear h
  go_enter Tryz.func81, Tryz.ntmps81
  go_wp2
  go_loopw [9] (fun v wr => ∃ (k : Nat) (W : World), W = wr ∧ k ≤ tags.length ∧ v = .int .i64 k ∧ Hid (anyB b (tags.take k) = false) ∧ w = W) (fun v _ => tags.length - (intOf v).toNat)
  case atStart => exact ⟨0, _, rfl, Nat.zero_le _, rfl, rfl, rfl⟩
  case round =>
    obtain ⟨k, W, rfl, hk, rfl, HA, rfl⟩ := hrel
    by_cases hlt : k < tags.length
    · obtain ⟨ad, rfl, hc⟩ := h2.int hlt
      obtain ⟨t, ht⟩ : ∃ t, tags[k] = t := ⟨_, rfl⟩
      have ht? : tags[k]? = some t := by rw [List.getElem?_eq_getElem hlt, ht]
      rw [ht] at hc
      have HT := Lib.hid ht?
      have HQ := Lib.hid (refHas_c _ A c b t w H.out _ rfl)
      clear ht ht?
      cases hh : hasB b t with
      | true =>
        have HR := Lib.hid (anyB_yes HT.out hh)
        rw [hh] at HQ
        clear hh
        go_wp2_with fail
        refine HQ.out.mono ?_
        rintro e w1 ⟨rfl, rfl⟩
        go_wp2
        go_ret
        exact ⟨by rw [HR.out]; rfl, rfl⟩
      | false =>
        have HR := Lib.hid (anyB_snoc HT.out HA.out hh)
        rw [hh] at HQ
        clear hh
        go_wp2_with fail
        refine HQ.out.mono ?_
        rintro e w1 ⟨rfl, rfl⟩
        go_wp2
        go_roundw
        case rel => exact ⟨k + 1, _, rfl, by omega, by go_num, HR.out, rfl⟩
        case measure => simp [intOf]; omega
    · obtain rfl : k = tags.length := by omega
      have HR := Lib.hid (show anyB b tags = false by have := HA.out; rwa [List.take_length] at this)
      go_wp2
      go_ret
      exact ⟨by rw [HR.out]; rfl, rfl⟩
set_option maxRecDepth 100000 in
set_option maxHeartbeats 16000000 in
theorem refCover_c (S S' : Nat → Prop) (A B : Option Addr) (ca cb : Nat) (s : SemS) (free : Bool) (tags : List Int) (w : World) (h : Rd linT w S A ca s) (ht : Rd intT w S' B cb tags) (n m : Nat) (hn : n = s.length) (hm : m = tags.length) :
    Calls Tryz.prog 33 #[.slice A n ca, .bool free, .slice B m cb] w fun e w' => ∃ v, e = .returned (.tuple #[.bool (coverS s free tags).1, v]) ∧ AnyBag w' v (coverS s free tags).2 ∧ Bel w w' := by
  subst hn hm
  have lm := h.lenMax
  have KR := Lib.hid (refRightSem_c _ _ _ _ _ h _ rfl)
  have HS := Lib.hid h
  have HT := Lib.hid ht
  clear h ht
  cases hr : rightS s with
  | false =>
    have Hu := Lib.hid (coverS_no (free := free) (tags := tags) hr)
    rw [hr] at KR
    clear hr
    go_enter Tryz.func33, Tryz.ntmps33
    go_wp2_with fail
    refine KR.out.mono ?_
    rintro e w1 ⟨rfl, hb1⟩
    go_wp2
    go_ret2
    rw [Hu.out]
    exact ⟨_, rfl, ⟨none, 0, rfl, Rd.nil _ _ _ _ _ (by decide)⟩, hb1⟩
  | true =>
    have Hu := Lib.hid (coverS_yes (free := free) (tags := tags) hr)
    have HRS := Lib.hid hr
    rw [hr] at KR
    clear hr
    go_enter Tryz.func33, Tryz.ntmps33
    go_wp2_with fail
    refine KR.out.mono ?_
    rintro e w1 ⟨rfl, hb1⟩
    have HS1 := Lib.hid (HS.out.to hb1)
    have HT1 := Lib.hid (HT.out.to hb1)
    go_wp2
    go_loopw [17] (fun v17 wr => ∃ (k : Nat) (W : World), W = wr ∧ k ≤ s.length ∧ v17 = .int .i64 k ∧ Hid (coverF free tags s = coverF free tags (s.drop k)) ∧ Bel w1 W) (fun v17 _ => s.length - (intOf v17).toNat)
    case atStart => exact ⟨0, _, rfl, Nat.zero_le _, rfl, rfl, Bel.refl _⟩
    case round =>
      obtain ⟨k, W, rfl, hk, rfl, HF, hbW⟩ := hrel
      by_cases hlt : k < s.length
      · obtain ⟨ad, A0, c0, A1, c1, rfl, x0, x1, r0, r1⟩ := (HS1.out.to hbW).lrow hlt
        obtain ⟨⟨xb, ps⟩, hx⟩ : ∃ x, s[k] = x := ⟨_, rfl⟩
        have hx? : s[k]? = some (xb, ps) := by rw [List.getElem?_eq_getElem hlt, hx]
        have HFA := Lib.hid (HF.out.trans (coverF_at hx?))
        have lb : xb.length ≤ 12 := right_len ((rightL_iff (b := xb) (ps := ps)).1 (rightS_each HRS.out (List.mem_of_getElem? hx?))).1
        have lps : ∀ p ∈ ps, p.length ≤ 12 := fun p hp => right_len (((rightL_iff (b := xb) (ps := ps)).1 (rightS_each HRS.out (List.mem_of_getElem? hx?))).2.each p hp).2
        have HLP := Lib.hid lps
        rw [hx] at x0 x1 r0 r1
        dsimp only at x0 x1 r0 r1
        have hal : Bel W (W.alloc (.cells #[.slice A0 xb.length c0, .slice A1 ps.length c1] 30)) := (Bel.refl _).alloc _
        have X := Box.new W 30 (.slice A0 xb.length c0) (.slice A1 ps.length c1)
        have HX := Lib.hid X
        have HBW := Lib.hid (hbW.trans hal)
        have R0 := Lib.hid (r0.to hal)
        have R1 := Lib.hid (r1.to hal)
        clear hx hx? r0 r1 hbW hal X lps
        obtain ⟨z0, z1, _, _⟩ := HX.out.cells
        go_wp2_with fail
        generalize (W.alloc (.cells #[.slice A0 xb.length c0, .slice A1 ps.length c1] 30)) = W1 at *
        clear x0 x1
        have HQ := Lib.hid (refAny_c _ _ A0 B c0 cb xb tags W1 R0.out (HT1.out.to HBW.out) _ _ rfl rfl)
        cases ha : anyB xb tags with
        | true =>
          have HN := Lib.hid (HFA.out.trans (coverF_any ha))
          rw [ha] at HQ
          clear ha
          refine HQ.out.mono ?_
          rintro e w3 ⟨rfl, rfl⟩
          go_wp2
          go_roundw
          case rel => exact ⟨k + 1, _, rfl, by omega, by go_num, HN.out, HBW.out⟩
          case measure => simp [intOf]; omega
        | false =>
          rw [ha] at HQ
          refine HQ.out.mono ?_
          rintro e w3 ⟨rfl, rfl⟩
          by_cases hb0 : 0 < xb.length
          · have HN := Lib.hid (Hu.out.trans (HFA.out.trans (coverF_base (r := s.drop (k + 1)) ha (.inl hb0))))
            have hc0 : decide ((0 : Int) < (xb.length : Int)) = true := decide_eq_true (by omega)
            clear ha
            go_wp2_with (at_builtin; refine wp_append intT (w0 := W1) 27 3 (.int .i64 0) 8 rfl _ _ rfl Tryz.underlying27 info_int rfl (Ge W1.heap.size) _ _ [] xb A0 _ c0 rfl rfl rfl (Own.nil _ _ _ _ _) R0.out (fun _ _ h => h) (Bel.refl _) (by simp [maxLen] <;> omega) (by simp <;> omega) ?_; rintro v9 w9 ho9 hb9 _ _; rw [List.nil_append] at ho9; have HO9 := Lib.hid ho9; clear ho9)
            go_ret2
            rw [HN.out]
            obtain ⟨A9, c9, e9, r9⟩ := HO9.out.rdAll
            exact ⟨_, rfl, ⟨A9, c9, e9, r9⟩, (hb1.trans HBW.out).trans hb9⟩
          · obtain rfl : xb = [] := List.eq_nil_of_length_eq_zero (by omega)
            cases free with
            | false =>
              have HN := Lib.hid (Hu.out.trans (HFA.out.trans (coverF_base (r := s.drop (k + 1)) ha (.inr rfl))))
              clear ha hb0
              go_wp2_with (at_builtin; refine wp_append intT (w0 := W1) 27 3 (.int .i64 0) 8 rfl _ _ rfl Tryz.underlying27 info_int rfl (Ge W1.heap.size) _ _ [] [] A0 _ c0 rfl rfl rfl (Own.nil _ _ _ _ _) R0.out (fun _ _ h => h) (Bel.refl _) (by simp [maxLen] <;> omega) (by simp <;> omega) ?_; rintro v9 w9 ho9 hb9 _ _; rw [List.nil_append] at ho9; have HO9 := Lib.hid ho9; clear ho9)
              go_ret2
              rw [HN.out]
              obtain ⟨A9, c9, e9, r9⟩ := HO9.out.rdAll
              exact ⟨_, rfl, ⟨A9, c9, e9, r9⟩, (hb1.trans HBW.out).trans hb9⟩
            | true =>
             have HPF := Lib.hid (HFA.out.trans (coverF_per (r := s.drop (k + 1)) ha rfl rfl))
             clear ha hb0
             have lmp := R1.out.lenMax
             go_wp2
             go_loopw [39] (fun v39 wr => ∃ (q : Nat) (W3 : World), W3 = wr ∧ q ≤ ps.length ∧ v39 = .int .i64 q ∧ Hid ((ps.take q).find? (fun p => !anyB p tags) = none) ∧ W1 = W3) (fun v39 _ => ps.length - (intOf v39).toNat)
             case atStart => exact ⟨0, _, rfl, Nat.zero_le _, rfl, rfl, rfl⟩
             case round =>
               obtain ⟨q, W3, rfl, hq, rfl, HFN, rfl⟩ := hrel
               by_cases hql : q < ps.length
               · obtain ⟨ad9, Ap, cp, rfl, y9, hpr⟩ := R1.out.row hql
                 obtain ⟨p, hpe⟩ : ∃ p, ps[q] = p := ⟨_, rfl⟩
                 have hp? : ps[q]? = some p := by rw [List.getElem?_eq_getElem hql, hpe]
                 have lp := HLP.out p (List.mem_of_getElem? hp?)
                 have HP? := Lib.hid hp?
                 rw [hpe] at y9 hpr
                 have HQ2 := Lib.hid (refAny_c _ _ Ap B cp cb p tags W1 hpr (HT1.out.to HBW.out) _ _ rfl rfl)
                 have HPR := Lib.hid hpr
                 clear hpe hp? hpr
                 cases ha : anyB p tags with
                 | true =>
                   have HN := Lib.hid (find_none HP?.out HFN.out ha)
                   rw [ha] at HQ2
                   clear ha
                   go_wp2_with fail
                   refine HQ2.out.mono ?_
                   rintro e w5 ⟨rfl, rfl⟩
                   go_wp2
                   go_roundw
                   case rel => exact ⟨q + 1, _, rfl, by omega, by go_num, HN.out, rfl⟩
                   case measure => simp [intOf]; omega
                 | false =>
                   have HN := Lib.hid (Hu.out.trans (HPF.out.trans (by rw [find_some HP?.out HFN.out ha])))
                   rw [ha] at HQ2
                   clear ha
                   go_wp2_with fail
                   refine HQ2.out.mono ?_
                   rintro e w5 ⟨rfl, rfl⟩
                   go_wp2_with (at_builtin; refine wp_append intT (w0 := W1) 27 3 (.int .i64 0) 8 rfl _ _ rfl Tryz.underlying27 info_int rfl (Ge W1.heap.size) _ _ [] p Ap _ cp rfl rfl rfl (Own.nil _ _ _ _ _) HPR.out (fun _ _ h => h) (Bel.refl _) (by simp [maxLen]; omega) (by simp; omega) ?_; rintro v9 w9 ho9 hb9 _ _; rw [List.nil_append] at ho9; have HO9 := Lib.hid ho9; clear ho9)
                   go_ret2
                   rw [HN.out]
                   obtain ⟨A9, c9, e9, r9⟩ := HO9.out.rdAll
                   exact ⟨_, rfl, ⟨A9, c9, e9, r9⟩, (hb1.trans HBW.out).trans hb9⟩
               · obtain rfl : q = ps.length := by omega
                 have HN := Lib.hid (show coverF true tags s = coverF true tags (s.drop (k + 1)) from HPF.out.trans (by have h9 := HFN.out; rw [List.take_length] at h9; rw [h9]))
                 go_wp2
                 go_roundw
                 case rel => exact ⟨k + 1, _, rfl, by omega, by go_num, HN.out, HBW.out⟩
                 case measure => simp [intOf]; omega
      · obtain rfl : k = s.length := by omega
        have HR := Lib.hid (Hu.out.trans (HF.out.trans (show coverF free tags (s.drop s.length) = (true, []) by rw [List.drop_length]; rfl)))
        go_wp2
        go_ret2
        rw [HR.out]
        exact ⟨_, rfl, ⟨none, 0, rfl, Rd.nil _ _ _ _ _ (by decide)⟩, hb1.trans hbW⟩
theorem cover11_c (T : Nat) (S : Nat → Prop) (A : Option Addr) (c : Nat) (b : List Int) (t : Int) (w : World) (h : Rd intT w S A c b) (hc : w.cell? ⟨T, 0, none⟩ = some (.slice A b.length c)) :
    Calls Tryz.prog 77 #[.int .i64 t, .pointer (some ⟨T, 0, none⟩)] w fun e w' => e = .returned (.bool (hasB b t)) ∧ w = w' := by
  have HQ := Lib.hid (hasP_c _ A c b t w h _ rfl)
  go_enter Tryz.func77, Tryz.ntmps77
  go_wp2_with fail
  refine HQ.out.mono ?_
  rintro e w1 ⟨rfl, rfl⟩
  go_wp2
  go_ret
  exact ⟨rfl, rfl⟩
set_option maxHeartbeats 4000000 in
theorem indexTag_c (T : Nat) (S S' : Nat → Prop) (A B : Option Addr) (c d : Nat) (b tags : List Int) (w : World) (h : Rd intT w S A c b) (hc : w.cell? ⟨T, 0, none⟩ = some (.slice A b.length c)) (ht : Rd intT w S' B d tags) (m : Nat) (hm : m = tags.length) :
    Calls Tryz.prog 116 #[.slice B m d, .func (.func 77) #[] #[.pointer (some ⟨T, 0, none⟩)]] w fun e w' => (∃ n : Int, e = .returned (.int .i64 n) ∧ (decide (0 ≤ n) = anyB b tags)) ∧ w = w' := by
  subst hm
  have lm := ht.lenMax
  have hcf : ∀ (args : Array Value) (w : World), (callFunc 77 args).run Tryz.prog w = .ok (.enter 77 args) w := fun _ _ => by kernel_rfl
  have HQ := Lib.hid (fun t => cover11_c T S A c b t w h hc)
  clear h hc
  go_enter Tryz.func116, Tryz.ntmps116
  go_wp2
  go_loopw [8] (fun v wr => ∃ (k : Nat) (W : World), W = wr ∧ k ≤ tags.length ∧ v = .int .i64 k ∧ Hid (anyB b (tags.take k) = false) ∧ w = W) (fun v _ => tags.length - (intOf v).toNat)
  case atStart => exact ⟨0, _, rfl, Nat.zero_le _, rfl, rfl, rfl⟩
  case round =>
    obtain ⟨k, W, rfl, hk, rfl, HA, rfl⟩ := hrel
    by_cases hlt : k < tags.length
    · obtain ⟨ad, rfl, hc⟩ := ht.int hlt
      obtain ⟨t, ht9⟩ : ∃ t, tags[k] = t := ⟨_, rfl⟩
      have ht? : tags[k]? = some t := by rw [List.getElem?_eq_getElem hlt, ht9]
      rw [ht9] at hc
      have HT := Lib.hid ht?
      have HQ2 := Lib.hid (HQ.out t)
      clear ht9 ht?
      cases hh : hasB b t with
      | true =>
        have HR := Lib.hid (anyB_yes HT.out hh)
        rw [hh] at HQ2
        clear hh
        go_wp2_with fail
        refine HQ2.out.mono ?_
        rintro e w1 ⟨rfl, rfl⟩
        go_wp2
        go_ret
        exact ⟨⟨_, rfl, by rw [HR.out]; exact decide_eq_true (by omega)⟩, rfl⟩
      | false =>
        have HR := Lib.hid (anyB_snoc HT.out HA.out hh)
        rw [hh] at HQ2
        clear hh
        go_wp2_with fail
        refine HQ2.out.mono ?_
        rintro e w1 ⟨rfl, rfl⟩
        go_wp2
        go_roundw
        case rel => exact ⟨k + 1, _, rfl, by omega, by go_num, HR.out, rfl⟩
        case measure => simp [intOf]; omega
    · obtain rfl : k = tags.length := by omega
      have HR := Lib.hid (show anyB b tags = false by have := HA.out; rwa [List.take_length] at this)
      go_wp2
      go_ret
      exact ⟨⟨_, rfl, by rw [HR.out]; exact decide_eq_false (by omega)⟩, rfl⟩
theorem containsTag_c (T : Nat) (S S' : Nat → Prop) (A B : Option Addr) (c d : Nat) (b tags : List Int) (w : World) (h : Rd intT w S A c b) (hc : w.cell? ⟨T, 0, none⟩ = some (.slice A b.length c)) (ht : Rd intT w S' B d tags) (m : Nat) (hm : m = tags.length) :
    Calls Tryz.prog 76 #[.slice B m d, .func (.func 77) #[] #[.pointer (some ⟨T, 0, none⟩)]] w fun e w' => e = .returned (.bool (anyB b tags)) ∧ w = w' := by
  have C := Lib.hid (indexTag_c T S S' A B c d b tags w h hc ht m hm)
  clear h ht hm hc
  generalize anyB b tags = r at *
  go_enter Tryz.func76, Tryz.ntmps76
  go_wp2_with fail
  refine C.out.mono ?_
  rintro e w' ⟨⟨q, rfl, hq⟩, rfl⟩
  go_wp2
  go_ret
  exact ⟨rfl, rfl⟩
/-- none: has this word none of the tags? -/
theorem cover1_c (T : Nat) (S S' : Nat → Prop) (A B : Option Addr) (c d : Nat) (b tags : List Int) (w : World) (h : Rd intT w S A c b) (hT : w.cell? ⟨T, 0, none⟩ = some (.slice B tags.length d)) (ht : Rd intT w S' B d tags) (n : Nat) (hn : n = b.length) :
    Calls Tryz.prog 75 #[.slice A n c, .pointer (some ⟨T, 0, none⟩)] w fun e w' => e = .returned (.bool (!anyB b tags)) ∧ Bel w w' := by
  subst hn
  have hal : Bel w (w.alloc (.cells #[.slice A b.length c] 27)) := (Bel.refl _).alloc _
  have hT2 := cell_keep hT (hal.block (World.block_lt_of_cell? _ _ hT))
  have hX : (w.alloc (.cells #[.slice A b.length c] 27)).cell? ⟨w.heap.size, 0, none⟩ = some (.slice A b.length c) := cellAt (heap_alloc_new w _) 0
  have C := Lib.hid (containsTag_c w.heap.size _ _ A B c d b tags _ (h.to hal) hX (ht.to hal) _ rfl)
  clear h ht hT hX
  generalize anyB b tags = r at *
  go_enter Tryz.func75, Tryz.ntmps75
  go_wp2_with fail
  refine C.out.mono ?_
  rintro e w' ⟨rfl, rfl⟩
  go_wp2
  go_ret
  exact ⟨rfl, hal⟩
end Go.Proofs.YtbfbhacdllhddaaGreat
