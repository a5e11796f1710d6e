/- Walks: what a pattern stands for: a node, the pattern. -/
import Derived.Test.YtfkopkjioohgoaaPatW
import Derived.Test.YtfkopkjioohgoaaMI
import Derived.Test.YtfkopkjioohgoaaMG
set_option linter.unusedVariables false
set_option linter.unusedSimpArgs false
set_option linter.all false
namespace Go.Proofs.Ytfkopkjioohgoaa
open Go.RowKit Go.Cb Go.Sort
set_option maxRecDepth 100000 in
set_option maxHeartbeats 32000000 in
theorem node_c (mv : Value) (mb : Option Nat) (st : MSt) (S' : Nat → Prop) (AA : Option Addr) (cA : Nat) (L : List SemS) (x : PN) (w : World) (hm : MetO w 71 mv mb st) (hr : Rd semT w S' AA cA L) (hS : ∀ k, S' k → some k ≠ mb) (i : Nat) (hi : i = L.length) (hf : NodeFit x L st) :
    Calls Try.prog 26 #[mv, .agg #[.int .i64 x.k, .int .i64 x.a, .int .i64 x.b, .int .i64 x.n, .string x.s], .slice AA i cA] w fun e w' => ∃ A c, e = .returned (.tuple #[.slice A (nodeF x L st).2.1.length c, .int .i64 (nodeF x L st).2.2]) ∧ Rd linT w' (Ge w.heap.size) A c (nodeF x L st).2.1 ∧ MetO w' 71 mv mb (nodeF x L st).1 ∧ w.grownBy w' mb := by
  subst hi
  have lm := hr.lenMax
  obtain ⟨xk, xa, xb, xn, xs⟩ := x
  dsimp only
  have hal : Bel w (w.alloc (.cells #[.int .i64 xk, .int .i64 xa, .int .i64 xb, .int .i64 xn, .string xs] 35)) := (Bel.refl _).alloc _
  have hbx := heap_alloc_new w (.cells #[.int .i64 xk, .int .i64 xa, .int .i64 xb, .int .i64 xn, .string xs] 35)
  obtain ⟨w2, hw2⟩ : ∃ W, w.alloc (.cells #[.int .i64 xk, .int .i64 xa, .int .i64 xb, .int .i64 xn, .string xs] 35) = W := ⟨_, rfl⟩
  rw [hw2] at hal hbx
  have c0 : w2.cell? ⟨w.heap.size, 0, none⟩ = some (.int .i64 xk) := cellAt hbx 0
  have c1 : w2.cell? ⟨w.heap.size, 1, none⟩ = some (.int .i64 xa) := cellAt hbx 1
  have c2 : w2.cell? ⟨w.heap.size, 2, none⟩ = some (.int .i64 xb) := cellAt hbx 2
  have c3 : w2.cell? ⟨w.heap.size, 3, none⟩ = some (.int .i64 xn) := cellAt hbx 3
  have HM2 := Lib.hid (hm.grown hal)
  have HR2 := Lib.hid (hr.to hal)
  have HG2 := Lib.hid (bel_grown (row := mb) hal)
  have hws := hal.size
  have HS := Lib.hid hS
  have HFit := Lib.hid hf
  clear hm hr hS hf hal hbx
  by_cases k2 : xk = 2
  · subst k2
    have HE := Lib.hid (show nodeF ⟨2, xa, xb, xn, xs⟩ L st = (st, oneS, 0) from rfl)
    go_enter Try.func26, Try.ntmps26
    go_wp2_with fail
    refine (semOne_c _).mono ?_
    rintro e w3 ⟨B, cB, rfl, hr3, _, hb3⟩
    go_wp2
    go_ret2
    rw [HE.out]
    exact ⟨B, cB, rfl, hr3.mono (fun k hk => by unfold Ge at *; omega), HM2.out.grown hb3, grown_trans HG2.out (bel_grown (row := mb) hb3)⟩
  · have n2 : (xk == 2) = false := by simp [k2]
    by_cases k3 : xk = 3
    · subst k3
      obtain ⟨ob, hob⟩ : ∃ ob, oneB xn xa = ob := ⟨_, rfl⟩
      have HE := Lib.hid (show nodeF ⟨3, xa, xb, xn, xs⟩ L st = (st, [(ob, [])], 0) by rw [← hob]; rfl)
      have Q := bagOne_c xn xa w2
      rw [hob] at Q
      have HQ := Lib.hid Q
      clear Q hob
      go_enter Try.func26, Try.ntmps26
      go_wp2_with fail
      refine HQ.out.mono ?_
      rintro e w3 ⟨v3, rfl, ho3, hb3⟩
      obtain ⟨B0, d0, rfl, hr3⟩ := ho3.rdGe
      have hal : Bel w3 (w3.alloc (.cells #[.slice B0 ob.length d0, .slice none 0 0] 46)) := (Bel.refl _).alloc _
      have hlit := lin_lit (x := (ob, [])) (b := w2.heap.size) (w := w3) (A0 := B0) (c0 := d0) (A1 := none) (c1 := 0) ⟨hr3, Rd.nil _ _ _ _ _ (by decide)⟩ hb3.size 46
      have HLIT := Lib.hid hlit
      have HG3 := Lib.hid (grown_trans HG2.out (bel_grown (row := mb) (hb3.trans hal)))
      have HM3 := Lib.hid (HM2.out.grown (hb3.trans hal))
      clear hlit hr3 ho3 hb3 hal
      go_wp2
      go_ret2
      rw [HE.out]
      exact ⟨_, 1, rfl, HLIT.out.mono (fun k hk => by unfold Ge at *; omega), HM3.out, HG3.out⟩
    · have n3 : (xk == 3) = false := by simp [k3]
      by_cases k4 : xk = 4
      · subst k4
        have hfa := HFit.out.a (.inl rfl)
        have hfb := HFit.out.b (.inl rfl)
        have hfs := HFit.out.sum rfl
        dsimp only at hfa hfb hfs
        obtain ⟨na, hna⟩ : ∃ m : Nat, xa = m := ⟨xa.toNat, by omega⟩
        subst hna
        have hla : na < L.length := by omega
        obtain ⟨nb, hnb⟩ : ∃ m : Nat, xb = m := ⟨xb.toNat, by omega⟩
        subst hnb
        have hlb : nb < L.length := by omega
        rw [Int.toNat_natCast, Int.toNat_natCast] at hfs
        obtain ⟨s1, hs1⟩ : ∃ s, L.getD na [] = s := ⟨_, rfl⟩
        obtain ⟨s2, hs2⟩ : ∃ s, L.getD nb [] = s := ⟨_, rfl⟩
        have hsl1 : L[na] = s1 := by rw [← hs1, List.getD_eq_getElem?_getD, List.getElem?_eq_getElem hla]; rfl
        have hsl2 : L[nb] = s2 := by rw [← hs2, List.getD_eq_getElem?_getD, List.getElem?_eq_getElem hlb]; rfl
        rw [hs1, hs2] at hfs
        obtain ⟨ad2, B1, cb1, rfl, hcell1, hr1⟩ := HR2.out.row hla
        obtain ⟨ad3, B2, cb2, had, hcell2, hr2⟩ := HR2.out.row hlb
        obtain rfl : ad2 = ad3 := Option.some.inj had
        rw [hsl1] at hcell1 hr1
        rw [hsl2] at hcell2 hr2
        obtain ⟨s3, hst⟩ : ∃ s3, unionS s1 s2 = s3 := ⟨_, rfl⟩
        have HE := Lib.hid (show nodeF ⟨4, (na : Int), (nb : Int), xn, xs⟩ L st = (st, s3, 0) by show (st, unionS (L.getD ((na : Int)).toNat []) (L.getD ((nb : Int)).toNat []), (0 : Int)) = _; rw [Int.toNat_natCast, Int.toNat_natCast, hs1, hs2, hst])
        have HQ := Lib.hid (show ∀ W3, Bel w2 W3 → Calls Try.prog 13 #[.slice B1 s1.length cb1, .slice B2 s2.length cb2] W3 fun e w' => ∃ A' c', e = .returned (.slice A' s3.length c') ∧ Rd linT w' (Ge w2.heap.size) A' c' s3 ∧ Bel w2 w' from fun W3 hW3 => by
          rw [← hst]
          refine (union_c _ _ _ _ _ _ s1 s2 W3 (hr1.to hW3) (hr2.to hW3) _ _ rfl rfl (by omega) hfs.2).mono ?_
          rintro e w' ⟨v, he, r, hb⟩
          obtain ⟨A', c', hv, r'⟩ := PSem.rd (t := 46) r
          subst hv
          exact ⟨A', c', he, r'.mono (fun k hk => Nat.le_trans hW3.size hk), hW3.trans hb⟩)
        clear hst hs1 hs2 hsl1 hsl2 hr1 hr2 hfa hfb hfs had
        go_enter Try.func26, Try.ntmps26
        go_wp2_with fail
        go_region_with (go_at_call 13; refine (HQ.out _ ?_).mono ?_; exact (Bel.refl _).drewN 1; rintro e w3 ⟨A3, c3, rfl, hr3, hb3⟩)
        all_goals
          go_wp2
          go_ret2
          rw [HE.out]
          exact ⟨_, _, rfl, hr3.mono (fun k hk => by unfold Ge at *; omega), HM2.out.grown hb3, grown_trans HG2.out (bel_grown (row := mb) hb3)⟩
      · have n4 : (xk == 4) = false := by simp [k4]
        by_cases k5 : xk = 5
        · subst k5
          have hfa := HFit.out.a (.inr (.inl rfl))
          have hfb := HFit.out.b (.inr rfl)
          have hfs := HFit.out.cat rfl
          dsimp only at hfa hfb hfs
          obtain ⟨na, hna⟩ : ∃ m : Nat, xa = m := ⟨xa.toNat, by omega⟩
          subst hna
          have hla : na < L.length := by omega
          obtain ⟨nb, hnb⟩ : ∃ m : Nat, xb = m := ⟨xb.toNat, by omega⟩
          subst hnb
          have hlb : nb < L.length := by omega
          rw [Int.toNat_natCast, Int.toNat_natCast] at hfs
          obtain ⟨s1, hs1⟩ : ∃ s, L.getD na [] = s := ⟨_, rfl⟩
          obtain ⟨s2, hs2⟩ : ∃ s, L.getD nb [] = s := ⟨_, rfl⟩
          have hsl1 : L[na] = s1 := by rw [← hs1, List.getD_eq_getElem?_getD, List.getElem?_eq_getElem hla]; rfl
          have hsl2 : L[nb] = s2 := by rw [← hs2, List.getD_eq_getElem?_getD, List.getElem?_eq_getElem hlb]; rfl
          rw [hs1, hs2] at hfs
          obtain ⟨ad2, B1, cb1, rfl, hcell1, hr1⟩ := HR2.out.row hla
          obtain ⟨ad3, B2, cb2, had, hcell2, hr2⟩ := HR2.out.row hlb
          obtain rfl : ad2 = ad3 := Option.some.inj had
          rw [hsl1] at hcell1 hr1
          rw [hsl2] at hcell2 hr2
          obtain ⟨st3, s3, e3, hst⟩ : ∃ st3 s3 e3, catS st s1 s2 = (st3, s3, e3) := ⟨_, _, _, rfl⟩
          have HE := Lib.hid (show nodeF ⟨5, (na : Int), (nb : Int), xn, xs⟩ L st = (st3, s3, e3) by show catS st (L.getD ((na : Int)).toNat []) (L.getD ((nb : Int)).toNat []) = _; rw [Int.toNat_natCast, Int.toNat_natCast, hs1, hs2, hst])
          have HQ := Lib.hid (show ∀ W3, Bel w2 W3 → Calls Try.prog 14 #[mv, .slice B1 s1.length cb1, .slice B2 s2.length cb2] W3 fun e w' => ∃ A' c', e = .returned (.tuple #[.slice A' s3.length c', .int .i64 e3]) ∧ Rd linT w' (Ge w2.heap.size) A' c' s3 ∧ MetO w' 71 mv mb st3 ∧ w2.grownBy w' mb from fun W3 hW3 => by
            have Q := semCat_c mv mb st _ _ _ _ _ _ s1 s2 W3 (HM2.out.grown hW3) (hr1.to hW3) (hr2.to hW3) (fun k hk => HS.out k hk) (fun k hk => HS.out k hk) _ _ rfl rfl hfs.la hfs.lb hfs.prod hfs.per
            rw [hst] at Q
            refine Q.mono ?_
            rintro e w' ⟨v, he, r, m', g'⟩
            obtain ⟨A', c', hv, r'⟩ := PSem.rd (t := 46) r
            subst hv
            exact ⟨A', c', he, r'.mono (fun k hk => Nat.le_trans hW3.size hk), m', grown_trans (bel_grown (row := mb) hW3) g'⟩)
          clear hst hs1 hs2 hsl1 hsl2 hr1 hr2 hfa hfb hfs had
          go_enter Try.func26, Try.ntmps26
          go_wp2_with fail
          go_region_with (go_at_call 14; refine (HQ.out _ ?_).mono ?_; exact (Bel.refl _).drewN 1; rintro e w3 ⟨A3, c3, rfl, hr3, hm3, hg3⟩)
          all_goals
            go_wp2
            go_ret2
            rw [HE.out]
            exact ⟨_, _, rfl, hr3.mono (fun k hk => by unfold Ge at *; omega), hm3, grown_trans HG2.out hg3⟩
        · have n5 : (xk == 5) = false := by simp [k5]
          by_cases k6 : xk = 6
          · subst k6
            have hfa := HFit.out.a (.inr (.inr rfl))
            have hfs := HFit.out.star rfl
            dsimp only at hfa hfs
            obtain ⟨ma, hma⟩ : ∃ m : Nat, xa = m := ⟨xa.toNat, by omega⟩
            subst hma
            have hml : ma < L.length := by omega
            rw [Int.toNat_natCast] at hfs
            obtain ⟨s1, hs1⟩ : ∃ s, L.getD ma [] = s := ⟨_, rfl⟩
            have hsl : L[ma] = s1 := by rw [← hs1, List.getD_eq_getElem?_getD, List.getElem?_eq_getElem hml]; rfl
            rw [hs1] at hfs
            obtain ⟨ad2, B1, cb1, rfl, hcell, hr1⟩ := HR2.out.row hml
            rw [hsl] at hcell hr1
            obtain ⟨st3, s3, e3, hst⟩ : ∃ st3 s3 e3, starS st s1 = (st3, s3, e3) := ⟨_, _, _, rfl⟩
            have HE := Lib.hid (show nodeF ⟨6, (ma : Int), xb, xn, xs⟩ L st = (st3, s3, e3) by show starS st (L.getD ((ma : Int)).toNat []) = _; rw [Int.toNat_natCast, hs1, hst])
            have Q := semStar_c mv mb st _ _ _ s1 w2 HM2.out hr1 (fun k hk => HS.out k hk) _ rfl hfs
            rw [hst] at Q
            have HQ := Lib.hid Q
            clear Q hst hs1 hsl hr1 hfa hfs
            go_enter Try.func26, Try.ntmps26
            go_wp2_with fail
            refine HQ.out.mono ?_
            rintro e w3 ⟨v3, rfl, r3, hm3, hg3⟩
            obtain ⟨A3, c3, rfl, hr3⟩ := PSem.rd (t := 46) r3
            go_wp2
            go_ret2
            rw [HE.out]
            exact ⟨_, _, rfl, hr3.mono (fun k hk => by unfold Ge at *; omega), hm3, grown_trans HG2.out hg3⟩
          · have n6 : (xk == 6) = false := by simp [k6]
            have HE := Lib.hid (show nodeF ⟨xk, xa, xb, xn, xs⟩ L st = (st, [], 0) by unfold nodeF; simp only; rw [if_neg k2, if_neg k3, if_neg k4, if_neg k5, if_neg k6])
            clear k2 k3 k4 k5 k6
            go_enter Try.func26, Try.ntmps26
            go_wp2
            go_ret2
            rw [HE.out]
            exact ⟨none, 0, rfl, Rd.nil _ _ _ _ _ (by decide), HM2.out, HG2.out⟩
end Go.Proofs.Ytfkopkjioohgoaa
