/- Walks: can a word be made of another one and some of these. -/
import Derived.Test.YtmdcgekiiopohaaGreatDoorPureV
import Derived.Test.YtmdcgekiiopohaaGreatDoorInclH
set_option linter.unusedVariables false
set_option linter.unusedSimpArgs false
set_option linter.all false
namespace Go.Proofs.YtmdcgekiiopohaaGreatDoor
open Go.RowKit Go.Cb Go.Sort
set_option maxRecDepth 100000 in
set_option maxHeartbeats 16000000 in
theorem made_c : ∀ (N : Nat) (S S2 S3 : Nat → Prop) (A B C : Option Addr) (ca cb cc : Nat) (v : List Int) (ps : List (List Int)) (x : List Int) (w : World), leftM ps x v = N → Rd intT w S A ca v → Rd bagT w S2 B cb ps → Rd intT w S3 C cc x → rightB v = true → rightB x = true →
    (∀ p ∈ ps, rightB p = true ∧ p ≠ [] ∧ ∀ t, p.getD t 0 ≤ 20) → (∀ t, x.getD t 0 ≤ 1000000) → ∀ n m k, n = v.length → m = ps.length → k = x.length →
    Calls Tryz.prog 7 #[.slice A n ca, .slice B m cb, .slice C k cc] w fun e w' => ∃ r, e = .returned (.bool r) ∧ (r = true ↔ Made ps x v) ∧ Bel w w' := by
  intro N
  induction N using Nat.strongRecOn with
  | ind N ih =>
    intro S S2 S3 A B C ca cb cc v ps x w hN hA hB hC rv rx hp hx n m k hn hm hk
    subst hn hm hk
    have HIH := Lib.hid ih
    have HN := Lib.hid hN
    have HA := Lib.hid hA
    have HB := Lib.hid hB
    have HC := Lib.hid hC
    have RV := Lib.hid rv
    have RX := Lib.hid rx
    have HP := Lib.hid hp
    have HX := Lib.hid hx
    have Q := refSub_c _ _ C A cc ca x v w hC hA _ _ rfl rfl
    have hcs := sub_cases rx rv
    clear ih hN hA hB hC rv rx hp hx
    rcases hcs with ⟨e1, e2⟩ | ⟨e1, e2, e3, e4⟩ | ⟨e1, e2, e3, e4, e5⟩
    · rw [e1] at Q
      have HQ := Lib.hid Q
      have HM := Lib.hid (show ¬ Made ps x v from fun h => by have := made_le RV.out (fun p h => (HP.out p h).1) h; rw [e2] at this; cases this)
      generalize (subB x v).1 = rest at *
      clear e1 e2 Q
      go_enter Tryz.func7, Tryz.ntmps7
      go_wp2_with fail
      refine HQ.out.mono ?_
      rintro e w1 ⟨u, rfl, ho, hb⟩
      obtain ⟨A1, c1, rfl⟩ := ho.form
      go_wp2
      go_ret
      exact ⟨false, rfl, ⟨fun h => Bool.noConfusion h, fun h => absurd h HM.out⟩, hb⟩
    · rw [e1, e3] at Q
      have HQ := Lib.hid Q
      have HM := Lib.hid (show Made ps x v by rw [e4]; exact made_self)
      clear e1 e2 e3 e4 Q
      go_enter Tryz.func7, Tryz.ntmps7
      go_wp2_with fail
      refine HQ.out.mono ?_
      rintro e w1 ⟨u, rfl, ho, hb⟩
      obtain ⟨A1, c1, rfl⟩ := ho.form
      go_wp2
      go_ret
      exact ⟨true, rfl, ⟨fun _ => HM.out, fun _ => rfl⟩, hb⟩
    · rw [e1] at Q
      have HQ := Lib.hid Q
      have HNE := Lib.hid e4
      have HSM := Lib.hid e5
      have hl0 : 0 < (subB x v).1.length := List.length_pos_iff.2 e3
      generalize (subB x v).1 = rest at *
      have d0 : ((rest.length : Int) == 0) = false := beq_eq_false_iff_ne.2 (by omega)
      have HLE := Lib.hid e2
      clear e1 e2 e3 e4 e5 Q
      cases ps with
      | nil =>
        have HM := Lib.hid (show ¬ Made [] x v from fun h => HNE.out (made_none RX.out RV.out h))
        clear hl0
        go_enter Tryz.func7, Tryz.ntmps7
        go_wp2_with fail
        refine HQ.out.mono ?_
        rintro e w1 ⟨u, rfl, ho, hb⟩
        obtain ⟨A1, c1, rfl⟩ := ho.form
        go_wp2
        go_ret
        exact ⟨false, rfl, ⟨fun h => Bool.noConfusion h, fun h => absurd h HM.out⟩, hb⟩
      | cons p r =>
        obtain ⟨p1, p2, p3⟩ := HP.out p (by simp)
        have hadd : (addB v p).2 = true := addB_small RV.out p1 (fun t => by
          have h1 := p3 t
          have h2 := HX.out t
          have h3 : v.getD t 0 ≤ x.getD t 0 := by
            by_cases ht : t < v.length
            · exact ((leP_iff _ _).1 HLE.out).2 t ht
            · rw [getD_out (by omega)]; exact (right_getD RX.out t).1
          unfold far
          omega)
        have HMC := Lib.hid (made_cons (p := p) (w := x) (v := v) (r := r) hadd)
        have hsum := addB_sum hadd
        have hsp := sum_pos p1 p2
        obtain ⟨y, hy⟩ : ∃ y, (addB v p).1 = y := ⟨_, rfl⟩
        have RY := Lib.hid (show rightB y = true by rw [← hy]; exact addB_right hadd)
        have L1 := Lib.hid (show leftM r x v < N by have h1 := HN.out; unfold leftM at *; rw [List.length_cons] at h1; omega)
        have L2 := Lib.hid (show leftM (p :: r) x y < N by have h1 := HN.out; have h2 := HSM.out; unfold leftM at *; rw [hy] at hsum; omega)
        have QA := fun W (h : Bel w W) Ap cp (hp9 : Rd intT W All Ap cp p) => refAddBag_c _ _ A Ap ca cp v p W (HA.out.to h) hp9 _ _ rfl rfl
        rw [hadd, hy] at QA
        have HQA := Lib.hid QA
        rw [hy] at HMC
        have HPA := Lib.hid (show rightB p = true ∧ p ≠ [] ∧ ∀ t, p.getD t 0 ≤ 20 from ⟨p1, p2, p3⟩)
        have HPR := Lib.hid (show ∀ q ∈ r, rightB q = true ∧ q ≠ [] ∧ ∀ t, q.getD t 0 ≤ 20 from fun q hq => HP.out q (by simp [hq]))
        clear hadd hsum hsp hy QA p1 p2 p3 HP HN HSM hl0
        go_enter Tryz.func7, Tryz.ntmps7
        go_wp2_with fail
        refine HQ.out.mono ?_
        rintro e w1 ⟨u, rfl, ho, hb⟩
        obtain ⟨A1, c1, rfl⟩ := ho.form
        have hB1 := HB.out.to hb
        obtain ⟨ad, Ap, cp, hBe, y0, hpr⟩ := hB1.row (k := 0) (by simp)
        subst hBe
        have y1 : w1.cell? ad = some (.slice Ap p.length cp) := by rw [show ad.add 0 = ad from (by unfold Addr.add; simp)] at y0; exact y0
        have hblk := World.block_lt_of_cell? _ _ y1
        have HY := Lib.hid (fun W' (h : Bel w1 W') => cell_keep y1 (h.block hblk))
        have HPV := Lib.hid (show Rd intT w1 All Ap cp p from hpr.all)
        have hdr := hB1.drop 1 (by simp)
        rw [show 1 * bagT.sz = 1 from rfl, List.drop_one, List.tail_cons] at hdr
        have HBW := Lib.hid hb
        have HB1 := Lib.hid hB1
        have hcap := hB1.cap
        rw [List.length_cons] at hcap
        clear ho y0 hpr hblk hB1 HQ
        by_cases hc1 : cb = 1
        · subst hc1
          obtain rfl : r = [] := List.eq_nil_of_length_eq_zero (by omega)
          have HQ1 := Lib.hid (HIH.out _ L1.out _ _ _ A (some ad) C ca 0 cc v [] x w1 rfl (HA.out.to hb) (Rd.nil bagT w1 All _ _ (by decide)) (HC.out.to hb) RV.out RX.out HPR.out HX.out _ _ _ rfl rfl rfl)
          clear hb hdr hcap
          go_wp2_with fail
          refine HQ1.out.mono ?_
          rintro e w2 ⟨r1, rfl, hr1, hb1⟩
          have HR1 := Lib.hid hr1
          have HB2 := Lib.hid hb1
          clear HQ1 hr1 hb1
          cases r1 with
          | true =>
            go_wp2
            go_ret
            exact ⟨true, rfl, ⟨fun _ => HMC.out.2 (.inl (HR1.out.1 (by first | rfl | trivial))), fun _ => rfl⟩, HBW.out.trans HB2.out⟩
          | false =>
            have y2 := HY.out w2 HB2.out
            have HQ2 := Lib.hid (HQA.out w2 (HBW.out.trans HB2.out) Ap cp (HPV.out.to HB2.out))
            clear y1
            go_wp2_with fail
            refine HQ2.out.mono ?_
            rintro e w3 ⟨u3, rfl, ho3, hb3⟩
            obtain ⟨A3, c3, rfl, hr3⟩ := ho3.rdAll
            have HBT := Lib.hid (HB2.out.trans hb3)
            have HQ3 := Lib.hid (HIH.out _ L2.out _ _ _ A3 (some ad) C c3 1 cc y [p] x w3 rfl hr3 (HB1.out.to HBT.out) (HC.out.to (HBW.out.trans HBT.out)) RY.out RX.out (fun q hq => by obtain rfl : q = p := (by simpa using hq); exact HPA.out) HX.out _ _ _ rfl rfl rfl)
            clear HQ2 ho3 hr3 hb3 y2
            go_wp2_with fail
            refine HQ3.out.mono ?_
            rintro e w4 ⟨r2, rfl, hr2, hb4⟩
            go_wp2
            go_ret
            exact ⟨r2, rfl, ⟨fun h => HMC.out.2 (.inr (hr2.1 h)), fun h => by
              rcases HMC.out.1 h with h | h
              · have h9 := HR1.out.2 h; cases h9
              · exact hr2.2 h⟩, (HBW.out.trans HBT.out).trans hb4⟩
        · rw [if_neg hc1] at hdr
          have HQ1 := Lib.hid (HIH.out _ L1.out _ _ _ A _ C ca _ cc v r x w1 rfl (HA.out.to hb) hdr (HC.out.to hb) RV.out RX.out HPR.out HX.out _ _ _ rfl rfl rfl)
          clear hb hdr
          go_wp2_with fail
          refine HQ1.out.mono ?_
          rintro e w2 ⟨r1, rfl, hr1, hb1⟩
          have HR1 := Lib.hid hr1
          have HB2 := Lib.hid hb1
          clear HQ1 hr1 hb1
          cases r1 with
          | true =>
            go_wp2
            go_ret
            exact ⟨true, rfl, ⟨fun _ => HMC.out.2 (.inl (HR1.out.1 (by first | rfl | trivial))), fun _ => rfl⟩, HBW.out.trans HB2.out⟩
          | false =>
            have y2 := HY.out w2 HB2.out
            have HQ2 := Lib.hid (HQA.out w2 (HBW.out.trans HB2.out) Ap cp (HPV.out.to HB2.out))
            clear y1
            go_wp2_with fail
            refine HQ2.out.mono ?_
            rintro e w3 ⟨u3, rfl, ho3, hb3⟩
            obtain ⟨A3, c3, rfl, hr3⟩ := ho3.rdAll
            have HBT := Lib.hid (HB2.out.trans hb3)
            have HQ3 := Lib.hid (HIH.out _ L2.out _ _ _ A3 (some ad) C c3 cb cc y (p :: r) x w3 rfl hr3 (HB1.out.to HBT.out) (HC.out.to (HBW.out.trans HBT.out)) RY.out RX.out (fun q hq => by
              rcases List.mem_cons.1 hq with rfl | hq
              · exact HPA.out
              · exact HPR.out q hq) HX.out _ _ _ rfl rfl rfl)
            clear HQ2 ho3 hr3 hb3 y2
            go_wp2_with fail
            refine HQ3.out.mono ?_
            rintro e w4 ⟨r2, rfl, hr2, hb4⟩
            go_wp2
            go_ret
            exact ⟨r2, rfl, ⟨fun h => HMC.out.2 (.inr (hr2.1 h)), fun h => by
              rcases HMC.out.1 h with h | h
              · have h9 := HR1.out.2 h; cases h9
              · exact hr2.2 h⟩, (HBW.out.trans HBT.out).trans hb4⟩
end Go.Proofs.YtmdcgekiiopohaaGreatDoor
