/- Walks: the patterns that numbers make. -/
import Derived.Test.YtmdcgekiiopohaaGreatMJ
import Derived.Test.YtmdcgekiiopohaaGreatMI
import Derived.Test.YtmdcgekiiopohaaGreatMC
import Derived.Test.YtmdcgekiiopohaaGreatMG
import Derived.Test.YtmdcgekiiopohaaGreatMD
set_option linter.unusedVariables false
set_option linter.unusedSimpArgs false
set_option linter.all false
namespace Go.Proofs.YtmdcgekiiopohaaGreat
open Go.RowKit Go.Cb Go.Sort
set_option maxRecDepth 100000 in
set_option maxHeartbeats 64000000 in
theorem playPat_c (S : Nat → Prop) (A : Option Addr) (c : Nat) (l : List Int) (w : World) (h : Rd intT w S A c l) (hr : ∀ x ∈ l, -9223372036854775808 ≤ x ∧ x ≤ 9223372036854775807) (n : Nat) (hn : n = l.length) :
    Calls Tryz.prog 15 #[.slice A n c] w fun e w' => ∃ A' c', e = .returned (.slice A' (playPat l).length c') ∧ Rd patT w' (Ge w.heap.size) A' c' (playPat l) ∧ Bel w w' := by
  subst hn
  have lm := h.lenMax
  have HR := Lib.hid hr
  have H := Lib.hid h
  have hnew := PBox.new w
  clear hr h
  go_enter Tryz.func15, Tryz.ntmps15
  go_wp2
  go_loopw [22] (fun v22 wr => ∃ (i : Nat) (W : World) (x : PS) (vO vP vT : Value), W = wr ∧ i ≤ l.length ∧ v22 = .int .i64 i ∧ PBox w W (w.heap.size + 1) w.heap.size (w.heap.size + 2) vO vP vT x ∧ Hid (PSok x) ∧ Hid (x.p.length + x.o.length ≤ 24) ∧ Hid (goPl l ⟨[], [], []⟩ = goPl (l.drop i) x)) (fun v22 _ => l.length - (intOf v22).toNat)
  case atStart => exact ⟨0, _, ⟨[], [], []⟩, _, _, _, rfl, Nat.zero_le _, rfl, hnew, ⟨rfl, fun v hv => by simp at hv, Nat.le_refl _, fun h => by simp at h⟩, (by simp : ([] : List PN).length + ([] : List Int).length ≤ 24), rfl⟩
  case round =>
    clear hnew
    obtain ⟨i, W, x, vO, vP, vT, rfl, hi, rfl, hp, HO, HS, HG⟩ := hrel
    obtain ⟨AO, cO, rfl⟩ := hp.rO.form
    obtain ⟨AP, cP, rfl⟩ := hp.rP.form
    obtain ⟨AT, cT, rfl⟩ := hp.rT.form
    obtain ⟨lo, hlo⟩ : ∃ lo, x.o.length = lo := ⟨_, rfl⟩
    obtain ⟨lp, hlp⟩ : ∃ lp, x.p.length = lp := ⟨_, rfl⟩
    obtain ⟨lt, hlt⟩ : ∃ lt, x.s.length = lt := ⟨_, rfl⟩
    have HLO := Lib.hid hlo
    have HLP := Lib.hid hlp
    have HLT := Lib.hid hlt
    have hs : lp + lo ≤ 24 := by have := HS.out; omega
    have hlt2 : lt = lp := by have := HO.out.lens; omega
    have hol : lo ≤ lp := by have := HO.out.lo; omega
    rw [hlo, hlp, hlt] at hp
    clear hlo hlp hlt
    subst hlt2
    have HP := Lib.hid hp
    obtain ⟨o0, o1⟩ := hp.cO.cells
    obtain ⟨p0, p1⟩ := hp.cP.cells
    obtain ⟨t0, t1⟩ := hp.cT.cells
    have hbel := hp.bel
    have hws := hbel.size
    clear hp
    by_cases hlt : i < l.length
    · obtain ⟨ad, rfl, hc⟩ := (H.out.to hbel).int hlt
      obtain ⟨n, hnl⟩ : ∃ n, l[i] = n := ⟨_, rfl⟩
      have HN := Lib.hid hnl
      have hnr : -9223372036854775808 ≤ n ∧ n ≤ 9223372036854775807 := by rw [← hnl]; exact HR.out _ (List.getElem_mem hlt)
      rw [hnl] at hc
      clear hnl hbel
      by_cases h23 : 23 ≤ lt + lo
      · have HE := Lib.hid (show goPl l ⟨[], [], []⟩ = x by
          rw [HG.out, List.drop_eq_getElem_cons hlt, HN.out, goPl, if_pos (by rw [HLP.out, HLO.out]; exact h23)])
        have d23 : decide ((23 : Int) ≤ (lt : Int) + (lo : Int)) = true := decide_eq_true (by omega)
        go_upto_region 28 with fail
        rename_i K1 hK1 K hK
        exact playPat_tail S _ c l w W H.out x _ _ _ HP.out HO.out (by rw [HLP.out, HLO.out]; exact hs) HE.out _ rfl _ _ hK1 hK
      · have HNX := Lib.hid (show goPl l ⟨[], [], []⟩ = goPl (l.drop (i + 1)) (stepPl x n) by
          rw [HG.out, List.drop_eq_getElem_cons hlt, HN.out, goPl, if_neg (by rw [HLP.out, HLO.out]; exact h23)])
        obtain ⟨K, hK⟩ : ∃ K, withinI n 16 = K := ⟨_, rfl⟩
        have HK := Lib.hid hK
        have hkr := withinI_range (v := n) (n := 16) (by omega)
        rw [hK] at hkr
        clear hK
        by_cases c3 : K ≤ 3
        · by_cases t2 : 2 ≤ lo
          · obtain ⟨go, rfl, _, _⟩ := HP.out.rO.addr (by rw [HLO.out]; omega)
            obtain ⟨gs, rfl, _, _⟩ := HP.out.rT.addr (by rw [HLT.out]; omega)
            obtain ⟨mb, hmb, hmbl, HTB0, ob0, sb, HSB0, tb0⟩ := pbox_top HP.out HO.out HLO.out HLT.out (k := 1) (by omega) (by omega)
            have HTB := Lib.hid (show x.tb = (mb : Int) from HTB0.out)
            have HSB := Lib.hid (show x.st x.tb = sb from HSB0.out)
            clear HTB0 HSB0
            have ew1 : IntKind.i64.wrap ((lo : Int) - 1) = ((lo - 1 : Nat) : Int) := by rw [IntKind.wrap_i64]; omega
            obtain ⟨ma, hma, hmal, HTA0, oa0, sa, HSA0, ta0⟩ := pbox_top HP.out HO.out HLO.out HLT.out (k := 2) (by omega) (by omega)
            have HTA := Lib.hid (show x.ta = (ma : Int) from HTA0.out)
            have HSA := Lib.hid (show x.st x.ta = sa from HSA0.out)
            clear HTA0 HSA0
            have ew2 : IntKind.i64.wrap ((lo : Int) - 2) = ((lo - 2 : Nat) : Int) := by rw [IntKind.wrap_i64]; omega
            have hkk : K = 0 ∨ K = 1 ∨ K = 2 ∨ K = 3 := by omega
            rcases hkk with hk | hk | hk | hk
            · cases sa with
              | true =>
                subst hk
                have g2 : decide ((2 : Int) ≤ (lo : Int)) = true := decide_eq_true (by omega)
                have g1 : decide ((1 : Int) ≤ (lo : Int)) = true := decide_eq_true (by omega)
                have HA := Lib.hid (show ∀ W', Bel W W' → Calls Tryz.prog 38 #[.agg #[.int .i64 4, .int .i64 (ma : Int), .int .i64 (mb : Int), .int .i64 0, .string { data := #[] }], .int .i64 2, .bool true, .pointer (some ⟨w.heap.size + 1, 0, none⟩), .pointer (some ⟨w.heap.size, 0, none⟩), .pointer (some ⟨w.heap.size + 1 + 1, 0, none⟩)] W' fun e w' => e = .returned (.tuple #[]) ∧ ∃ vO' vP' vT', PBox w w' (w.heap.size + 1) w.heap.size (w.heap.size + 2) vO' vP' vT' (x.add (pn (4 + 0) (ma : Int) (mb : Int) 0) 2 true) from fun W' hW => patAdd_c w W' _ _ _ _ _ _ x (pn (4 + 0) (ma : Int) (mb : Int) 0) 2 true (HP.out.to hW) (by rw [HLO.out]; omega) (by rw [HLO.out]; omega) (by rw [HLP.out]; omega) (by rw [HLT.out]; omega))
                have HO' := Lib.hid (HO.out.add (pn (4 + 0) (ma : Int) (mb : Int) 0) 2 true)
                have HS' := Lib.hid (show (x.add (pn (4 + 0) (ma : Int) (mb : Int) 0) 2 true).p.length + (x.add (pn (4 + 0) (ma : Int) (mb : Int) 0) 2 true).o.length ≤ 24 by have h9 := PS.add_lens x (pn (4 + 0) (ma : Int) (mb : Int) 0) (take := 2) true (by rw [HLO.out]; omega); rw [HLO.out, HLP.out] at h9; omega)
                have HN' := Lib.hid (show goPl l ⟨[], [], []⟩ = goPl (l.drop (i + 1)) (x.add (pn (4 + 0) (ma : Int) (mb : Int) 0) 2 true) by rw [HNX.out]; congr 1; unfold stepPl; rw [if_pos (show withinI n 16 < 4 ∧ 2 ≤ x.o.length by rw [HK.out, HLO.out]; omega)]; unfold PS.two; rw [HSA.out, HSB.out, HTA.out, HTB.out, HK.out]; rfl)
                go_wp2_with (go_at_call 7; refine (within_c _ _ _ (by decide)).mono ?_; rintro e w3 ⟨rfl, rfl⟩; try rw [HK.out])
                go_quiet (fail)
                go_wp2_with (first | (go_at_call 7; refine (within_c _ _ _ (by decide)).mono ?_; rintro e w3 ⟨rfl, rfl⟩; try rw [HK.out]) | (go_at_call 38; refine (HA.out _ ?_).mono ?_; exact (Bel.refl _).drewN _; rintro e w4 ⟨rfl, vO', vP', vT', hp4⟩))
                go_roundw
                case rel => exact ⟨i + 1, _, x.add (pn (4 + 0) (ma : Int) (mb : Int) 0) 2 true, vO', vP', vT', rfl, by omega, by go_num, hp4, HO'.out, HS'.out, HN'.out⟩
                case measure => simp [intOf]; omega
              | false =>
                subst hk
                have g2 : decide ((2 : Int) ≤ (lo : Int)) = true := decide_eq_true (by omega)
                have g1 : decide ((1 : Int) ≤ (lo : Int)) = true := decide_eq_true (by omega)
                have HA := Lib.hid (show ∀ W', Bel W W' → Calls Tryz.prog 38 #[.agg #[.int .i64 4, .int .i64 (ma : Int), .int .i64 (mb : Int), .int .i64 0, .string { data := #[] }], .int .i64 2, .bool sb, .pointer (some ⟨w.heap.size + 1, 0, none⟩), .pointer (some ⟨w.heap.size, 0, none⟩), .pointer (some ⟨w.heap.size + 1 + 1, 0, none⟩)] W' fun e w' => e = .returned (.tuple #[]) ∧ ∃ vO' vP' vT', PBox w w' (w.heap.size + 1) w.heap.size (w.heap.size + 2) vO' vP' vT' (x.add (pn (4 + 0) (ma : Int) (mb : Int) 0) 2 sb) from fun W' hW => patAdd_c w W' _ _ _ _ _ _ x (pn (4 + 0) (ma : Int) (mb : Int) 0) 2 sb (HP.out.to hW) (by rw [HLO.out]; omega) (by rw [HLO.out]; omega) (by rw [HLP.out]; omega) (by rw [HLT.out]; omega))
                have HO' := Lib.hid (HO.out.add (pn (4 + 0) (ma : Int) (mb : Int) 0) 2 sb)
                have HS' := Lib.hid (show (x.add (pn (4 + 0) (ma : Int) (mb : Int) 0) 2 sb).p.length + (x.add (pn (4 + 0) (ma : Int) (mb : Int) 0) 2 sb).o.length ≤ 24 by have h9 := PS.add_lens x (pn (4 + 0) (ma : Int) (mb : Int) 0) (take := 2) sb (by rw [HLO.out]; omega); rw [HLO.out, HLP.out] at h9; omega)
                have HN' := Lib.hid (show goPl l ⟨[], [], []⟩ = goPl (l.drop (i + 1)) (x.add (pn (4 + 0) (ma : Int) (mb : Int) 0) 2 sb) by rw [HNX.out]; congr 1; unfold stepPl; rw [if_pos (show withinI n 16 < 4 ∧ 2 ≤ x.o.length by rw [HK.out, HLO.out]; omega)]; unfold PS.two; rw [HSA.out, HSB.out, HTA.out, HTB.out, HK.out]; rfl)
                go_wp2_with (go_at_call 7; refine (within_c _ _ _ (by decide)).mono ?_; rintro e w3 ⟨rfl, rfl⟩; try rw [HK.out])
                go_quiet (fail)
                go_wp2_with (first | (go_at_call 7; refine (within_c _ _ _ (by decide)).mono ?_; rintro e w3 ⟨rfl, rfl⟩; try rw [HK.out]) | (go_at_call 38; refine (HA.out _ ?_).mono ?_; exact (Bel.refl _).drewN _; rintro e w4 ⟨rfl, vO', vP', vT', hp4⟩))
                go_roundw
                case rel => exact ⟨i + 1, _, x.add (pn (4 + 0) (ma : Int) (mb : Int) 0) 2 sb, vO', vP', vT', rfl, by omega, by go_num, hp4, HO'.out, HS'.out, HN'.out⟩
                case measure => simp [intOf]; omega
            · cases sa with
              | true =>
                subst hk
                have g2 : decide ((2 : Int) ≤ (lo : Int)) = true := decide_eq_true (by omega)
                have g1 : decide ((1 : Int) ≤ (lo : Int)) = true := decide_eq_true (by omega)
                have HA := Lib.hid (show ∀ W', Bel W W' → Calls Tryz.prog 38 #[.agg #[.int .i64 4, .int .i64 (ma : Int), .int .i64 (mb : Int), .int .i64 0, .string { data := #[] }], .int .i64 2, .bool true, .pointer (some ⟨w.heap.size + 1, 0, none⟩), .pointer (some ⟨w.heap.size, 0, none⟩), .pointer (some ⟨w.heap.size + 1 + 1, 0, none⟩)] W' fun e w' => e = .returned (.tuple #[]) ∧ ∃ vO' vP' vT', PBox w w' (w.heap.size + 1) w.heap.size (w.heap.size + 2) vO' vP' vT' (x.add (pn (4 + 0) (ma : Int) (mb : Int) 0) 2 true) from fun W' hW => patAdd_c w W' _ _ _ _ _ _ x (pn (4 + 0) (ma : Int) (mb : Int) 0) 2 true (HP.out.to hW) (by rw [HLO.out]; omega) (by rw [HLO.out]; omega) (by rw [HLP.out]; omega) (by rw [HLT.out]; omega))
                have HO' := Lib.hid (HO.out.add (pn (4 + 0) (ma : Int) (mb : Int) 0) 2 true)
                have HS' := Lib.hid (show (x.add (pn (4 + 0) (ma : Int) (mb : Int) 0) 2 true).p.length + (x.add (pn (4 + 0) (ma : Int) (mb : Int) 0) 2 true).o.length ≤ 24 by have h9 := PS.add_lens x (pn (4 + 0) (ma : Int) (mb : Int) 0) (take := 2) true (by rw [HLO.out]; omega); rw [HLO.out, HLP.out] at h9; omega)
                have HN' := Lib.hid (show goPl l ⟨[], [], []⟩ = goPl (l.drop (i + 1)) (x.add (pn (4 + 0) (ma : Int) (mb : Int) 0) 2 true) by rw [HNX.out]; congr 1; unfold stepPl; rw [if_pos (show withinI n 16 < 4 ∧ 2 ≤ x.o.length by rw [HK.out, HLO.out]; omega)]; unfold PS.two; rw [HSA.out, HSB.out, HTA.out, HTB.out, HK.out]; rfl)
                go_wp2_with (go_at_call 7; refine (within_c _ _ _ (by decide)).mono ?_; rintro e w3 ⟨rfl, rfl⟩; try rw [HK.out])
                go_quiet (fail)
                go_wp2_with (first | (go_at_call 7; refine (within_c _ _ _ (by decide)).mono ?_; rintro e w3 ⟨rfl, rfl⟩; try rw [HK.out]) | (go_at_call 38; refine (HA.out _ ?_).mono ?_; exact (Bel.refl _).drewN _; rintro e w4 ⟨rfl, vO', vP', vT', hp4⟩))
                go_roundw
                case rel => exact ⟨i + 1, _, x.add (pn (4 + 0) (ma : Int) (mb : Int) 0) 2 true, vO', vP', vT', rfl, by omega, by go_num, hp4, HO'.out, HS'.out, HN'.out⟩
                case measure => simp [intOf]; omega
              | false =>
                subst hk
                have g2 : decide ((2 : Int) ≤ (lo : Int)) = true := decide_eq_true (by omega)
                have g1 : decide ((1 : Int) ≤ (lo : Int)) = true := decide_eq_true (by omega)
                have HA := Lib.hid (show ∀ W', Bel W W' → Calls Tryz.prog 38 #[.agg #[.int .i64 4, .int .i64 (ma : Int), .int .i64 (mb : Int), .int .i64 0, .string { data := #[] }], .int .i64 2, .bool sb, .pointer (some ⟨w.heap.size + 1, 0, none⟩), .pointer (some ⟨w.heap.size, 0, none⟩), .pointer (some ⟨w.heap.size + 1 + 1, 0, none⟩)] W' fun e w' => e = .returned (.tuple #[]) ∧ ∃ vO' vP' vT', PBox w w' (w.heap.size + 1) w.heap.size (w.heap.size + 2) vO' vP' vT' (x.add (pn (4 + 0) (ma : Int) (mb : Int) 0) 2 sb) from fun W' hW => patAdd_c w W' _ _ _ _ _ _ x (pn (4 + 0) (ma : Int) (mb : Int) 0) 2 sb (HP.out.to hW) (by rw [HLO.out]; omega) (by rw [HLO.out]; omega) (by rw [HLP.out]; omega) (by rw [HLT.out]; omega))
                have HO' := Lib.hid (HO.out.add (pn (4 + 0) (ma : Int) (mb : Int) 0) 2 sb)
                have HS' := Lib.hid (show (x.add (pn (4 + 0) (ma : Int) (mb : Int) 0) 2 sb).p.length + (x.add (pn (4 + 0) (ma : Int) (mb : Int) 0) 2 sb).o.length ≤ 24 by have h9 := PS.add_lens x (pn (4 + 0) (ma : Int) (mb : Int) 0) (take := 2) sb (by rw [HLO.out]; omega); rw [HLO.out, HLP.out] at h9; omega)
                have HN' := Lib.hid (show goPl l ⟨[], [], []⟩ = goPl (l.drop (i + 1)) (x.add (pn (4 + 0) (ma : Int) (mb : Int) 0) 2 sb) by rw [HNX.out]; congr 1; unfold stepPl; rw [if_pos (show withinI n 16 < 4 ∧ 2 ≤ x.o.length by rw [HK.out, HLO.out]; omega)]; unfold PS.two; rw [HSA.out, HSB.out, HTA.out, HTB.out, HK.out]; rfl)
                go_wp2_with (go_at_call 7; refine (within_c _ _ _ (by decide)).mono ?_; rintro e w3 ⟨rfl, rfl⟩; try rw [HK.out])
                go_quiet (fail)
                go_wp2_with (first | (go_at_call 7; refine (within_c _ _ _ (by decide)).mono ?_; rintro e w3 ⟨rfl, rfl⟩; try rw [HK.out]) | (go_at_call 38; refine (HA.out _ ?_).mono ?_; exact (Bel.refl _).drewN _; rintro e w4 ⟨rfl, vO', vP', vT', hp4⟩))
                go_roundw
                case rel => exact ⟨i + 1, _, x.add (pn (4 + 0) (ma : Int) (mb : Int) 0) 2 sb, vO', vP', vT', rfl, by omega, by go_num, hp4, HO'.out, HS'.out, HN'.out⟩
                case measure => simp [intOf]; omega
            · cases sa with
              | true =>
                subst hk
                have g2 : decide ((2 : Int) ≤ (lo : Int)) = true := decide_eq_true (by omega)
                have g1 : decide ((1 : Int) ≤ (lo : Int)) = true := decide_eq_true (by omega)
                have HA := Lib.hid (show ∀ W', Bel W W' → Calls Tryz.prog 38 #[.agg #[.int .i64 5, .int .i64 (ma : Int), .int .i64 (mb : Int), .int .i64 0, .string { data := #[] }], .int .i64 2, .bool true, .pointer (some ⟨w.heap.size + 1, 0, none⟩), .pointer (some ⟨w.heap.size, 0, none⟩), .pointer (some ⟨w.heap.size + 1 + 1, 0, none⟩)] W' fun e w' => e = .returned (.tuple #[]) ∧ ∃ vO' vP' vT', PBox w w' (w.heap.size + 1) w.heap.size (w.heap.size + 2) vO' vP' vT' (x.add (pn (4 + 1) (ma : Int) (mb : Int) 0) 2 true) from fun W' hW => patAdd_c w W' _ _ _ _ _ _ x (pn (4 + 1) (ma : Int) (mb : Int) 0) 2 true (HP.out.to hW) (by rw [HLO.out]; omega) (by rw [HLO.out]; omega) (by rw [HLP.out]; omega) (by rw [HLT.out]; omega))
                have HO' := Lib.hid (HO.out.add (pn (4 + 1) (ma : Int) (mb : Int) 0) 2 true)
                have HS' := Lib.hid (show (x.add (pn (4 + 1) (ma : Int) (mb : Int) 0) 2 true).p.length + (x.add (pn (4 + 1) (ma : Int) (mb : Int) 0) 2 true).o.length ≤ 24 by have h9 := PS.add_lens x (pn (4 + 1) (ma : Int) (mb : Int) 0) (take := 2) true (by rw [HLO.out]; omega); rw [HLO.out, HLP.out] at h9; omega)
                have HN' := Lib.hid (show goPl l ⟨[], [], []⟩ = goPl (l.drop (i + 1)) (x.add (pn (4 + 1) (ma : Int) (mb : Int) 0) 2 true) by rw [HNX.out]; congr 1; unfold stepPl; rw [if_pos (show withinI n 16 < 4 ∧ 2 ≤ x.o.length by rw [HK.out, HLO.out]; omega)]; unfold PS.two; rw [HSA.out, HSB.out, HTA.out, HTB.out, HK.out]; rfl)
                go_wp2_with (go_at_call 7; refine (within_c _ _ _ (by decide)).mono ?_; rintro e w3 ⟨rfl, rfl⟩; try rw [HK.out])
                go_quiet (fail)
                go_wp2_with (first | (go_at_call 7; refine (within_c _ _ _ (by decide)).mono ?_; rintro e w3 ⟨rfl, rfl⟩; try rw [HK.out]) | (go_at_call 38; refine (HA.out _ ?_).mono ?_; exact (Bel.refl _).drewN _; rintro e w4 ⟨rfl, vO', vP', vT', hp4⟩))
                go_roundw
                case rel => exact ⟨i + 1, _, x.add (pn (4 + 1) (ma : Int) (mb : Int) 0) 2 true, vO', vP', vT', rfl, by omega, by go_num, hp4, HO'.out, HS'.out, HN'.out⟩
                case measure => simp [intOf]; omega
              | false =>
                subst hk
                have g2 : decide ((2 : Int) ≤ (lo : Int)) = true := decide_eq_true (by omega)
                have g1 : decide ((1 : Int) ≤ (lo : Int)) = true := decide_eq_true (by omega)
                have HA := Lib.hid (show ∀ W', Bel W W' → Calls Tryz.prog 38 #[.agg #[.int .i64 5, .int .i64 (ma : Int), .int .i64 (mb : Int), .int .i64 0, .string { data := #[] }], .int .i64 2, .bool sb, .pointer (some ⟨w.heap.size + 1, 0, none⟩), .pointer (some ⟨w.heap.size, 0, none⟩), .pointer (some ⟨w.heap.size + 1 + 1, 0, none⟩)] W' fun e w' => e = .returned (.tuple #[]) ∧ ∃ vO' vP' vT', PBox w w' (w.heap.size + 1) w.heap.size (w.heap.size + 2) vO' vP' vT' (x.add (pn (4 + 1) (ma : Int) (mb : Int) 0) 2 sb) from fun W' hW => patAdd_c w W' _ _ _ _ _ _ x (pn (4 + 1) (ma : Int) (mb : Int) 0) 2 sb (HP.out.to hW) (by rw [HLO.out]; omega) (by rw [HLO.out]; omega) (by rw [HLP.out]; omega) (by rw [HLT.out]; omega))
                have HO' := Lib.hid (HO.out.add (pn (4 + 1) (ma : Int) (mb : Int) 0) 2 sb)
                have HS' := Lib.hid (show (x.add (pn (4 + 1) (ma : Int) (mb : Int) 0) 2 sb).p.length + (x.add (pn (4 + 1) (ma : Int) (mb : Int) 0) 2 sb).o.length ≤ 24 by have h9 := PS.add_lens x (pn (4 + 1) (ma : Int) (mb : Int) 0) (take := 2) sb (by rw [HLO.out]; omega); rw [HLO.out, HLP.out] at h9; omega)
                have HN' := Lib.hid (show goPl l ⟨[], [], []⟩ = goPl (l.drop (i + 1)) (x.add (pn (4 + 1) (ma : Int) (mb : Int) 0) 2 sb) by rw [HNX.out]; congr 1; unfold stepPl; rw [if_pos (show withinI n 16 < 4 ∧ 2 ≤ x.o.length by rw [HK.out, HLO.out]; omega)]; unfold PS.two; rw [HSA.out, HSB.out, HTA.out, HTB.out, HK.out]; rfl)
                go_wp2_with (go_at_call 7; refine (within_c _ _ _ (by decide)).mono ?_; rintro e w3 ⟨rfl, rfl⟩; try rw [HK.out])
                go_quiet (fail)
                go_wp2_with (first | (go_at_call 7; refine (within_c _ _ _ (by decide)).mono ?_; rintro e w3 ⟨rfl, rfl⟩; try rw [HK.out]) | (go_at_call 38; refine (HA.out _ ?_).mono ?_; exact (Bel.refl _).drewN _; rintro e w4 ⟨rfl, vO', vP', vT', hp4⟩))
                go_roundw
                case rel => exact ⟨i + 1, _, x.add (pn (4 + 1) (ma : Int) (mb : Int) 0) 2 sb, vO', vP', vT', rfl, by omega, by go_num, hp4, HO'.out, HS'.out, HN'.out⟩
                case measure => simp [intOf]; omega
            · cases sa with
              | true =>
                subst hk
                have g2 : decide ((2 : Int) ≤ (lo : Int)) = true := decide_eq_true (by omega)
                have g1 : decide ((1 : Int) ≤ (lo : Int)) = true := decide_eq_true (by omega)
                have HA := Lib.hid (show ∀ W', Bel W W' → Calls Tryz.prog 38 #[.agg #[.int .i64 5, .int .i64 (ma : Int), .int .i64 (mb : Int), .int .i64 0, .string { data := #[] }], .int .i64 2, .bool true, .pointer (some ⟨w.heap.size + 1, 0, none⟩), .pointer (some ⟨w.heap.size, 0, none⟩), .pointer (some ⟨w.heap.size + 1 + 1, 0, none⟩)] W' fun e w' => e = .returned (.tuple #[]) ∧ ∃ vO' vP' vT', PBox w w' (w.heap.size + 1) w.heap.size (w.heap.size + 2) vO' vP' vT' (x.add (pn (4 + 1) (ma : Int) (mb : Int) 0) 2 true) from fun W' hW => patAdd_c w W' _ _ _ _ _ _ x (pn (4 + 1) (ma : Int) (mb : Int) 0) 2 true (HP.out.to hW) (by rw [HLO.out]; omega) (by rw [HLO.out]; omega) (by rw [HLP.out]; omega) (by rw [HLT.out]; omega))
                have HO' := Lib.hid (HO.out.add (pn (4 + 1) (ma : Int) (mb : Int) 0) 2 true)
                have HS' := Lib.hid (show (x.add (pn (4 + 1) (ma : Int) (mb : Int) 0) 2 true).p.length + (x.add (pn (4 + 1) (ma : Int) (mb : Int) 0) 2 true).o.length ≤ 24 by have h9 := PS.add_lens x (pn (4 + 1) (ma : Int) (mb : Int) 0) (take := 2) true (by rw [HLO.out]; omega); rw [HLO.out, HLP.out] at h9; omega)
                have HN' := Lib.hid (show goPl l ⟨[], [], []⟩ = goPl (l.drop (i + 1)) (x.add (pn (4 + 1) (ma : Int) (mb : Int) 0) 2 true) by rw [HNX.out]; congr 1; unfold stepPl; rw [if_pos (show withinI n 16 < 4 ∧ 2 ≤ x.o.length by rw [HK.out, HLO.out]; omega)]; unfold PS.two; rw [HSA.out, HSB.out, HTA.out, HTB.out, HK.out]; rfl)
                go_wp2_with (go_at_call 7; refine (within_c _ _ _ (by decide)).mono ?_; rintro e w3 ⟨rfl, rfl⟩; try rw [HK.out])
                go_quiet (fail)
                go_wp2_with (first | (go_at_call 7; refine (within_c _ _ _ (by decide)).mono ?_; rintro e w3 ⟨rfl, rfl⟩; try rw [HK.out]) | (go_at_call 38; refine (HA.out _ ?_).mono ?_; exact (Bel.refl _).drewN _; rintro e w4 ⟨rfl, vO', vP', vT', hp4⟩))
                go_roundw
                case rel => exact ⟨i + 1, _, x.add (pn (4 + 1) (ma : Int) (mb : Int) 0) 2 true, vO', vP', vT', rfl, by omega, by go_num, hp4, HO'.out, HS'.out, HN'.out⟩
                case measure => simp [intOf]; omega
              | false =>
                subst hk
                have g2 : decide ((2 : Int) ≤ (lo : Int)) = true := decide_eq_true (by omega)
                have g1 : decide ((1 : Int) ≤ (lo : Int)) = true := decide_eq_true (by omega)
                have HA := Lib.hid (show ∀ W', Bel W W' → Calls Tryz.prog 38 #[.agg #[.int .i64 5, .int .i64 (ma : Int), .int .i64 (mb : Int), .int .i64 0, .string { data := #[] }], .int .i64 2, .bool sb, .pointer (some ⟨w.heap.size + 1, 0, none⟩), .pointer (some ⟨w.heap.size, 0, none⟩), .pointer (some ⟨w.heap.size + 1 + 1, 0, none⟩)] W' fun e w' => e = .returned (.tuple #[]) ∧ ∃ vO' vP' vT', PBox w w' (w.heap.size + 1) w.heap.size (w.heap.size + 2) vO' vP' vT' (x.add (pn (4 + 1) (ma : Int) (mb : Int) 0) 2 sb) from fun W' hW => patAdd_c w W' _ _ _ _ _ _ x (pn (4 + 1) (ma : Int) (mb : Int) 0) 2 sb (HP.out.to hW) (by rw [HLO.out]; omega) (by rw [HLO.out]; omega) (by rw [HLP.out]; omega) (by rw [HLT.out]; omega))
                have HO' := Lib.hid (HO.out.add (pn (4 + 1) (ma : Int) (mb : Int) 0) 2 sb)
                have HS' := Lib.hid (show (x.add (pn (4 + 1) (ma : Int) (mb : Int) 0) 2 sb).p.length + (x.add (pn (4 + 1) (ma : Int) (mb : Int) 0) 2 sb).o.length ≤ 24 by have h9 := PS.add_lens x (pn (4 + 1) (ma : Int) (mb : Int) 0) (take := 2) sb (by rw [HLO.out]; omega); rw [HLO.out, HLP.out] at h9; omega)
                have HN' := Lib.hid (show goPl l ⟨[], [], []⟩ = goPl (l.drop (i + 1)) (x.add (pn (4 + 1) (ma : Int) (mb : Int) 0) 2 sb) by rw [HNX.out]; congr 1; unfold stepPl; rw [if_pos (show withinI n 16 < 4 ∧ 2 ≤ x.o.length by rw [HK.out, HLO.out]; omega)]; unfold PS.two; rw [HSA.out, HSB.out, HTA.out, HTB.out, HK.out]; rfl)
                go_wp2_with (go_at_call 7; refine (within_c _ _ _ (by decide)).mono ?_; rintro e w3 ⟨rfl, rfl⟩; try rw [HK.out])
                go_quiet (fail)
                go_wp2_with (first | (go_at_call 7; refine (within_c _ _ _ (by decide)).mono ?_; rintro e w3 ⟨rfl, rfl⟩; try rw [HK.out]) | (go_at_call 38; refine (HA.out _ ?_).mono ?_; exact (Bel.refl _).drewN _; rintro e w4 ⟨rfl, vO', vP', vT', hp4⟩))
                go_roundw
                case rel => exact ⟨i + 1, _, x.add (pn (4 + 1) (ma : Int) (mb : Int) 0) 2 sb, vO', vP', vT', rfl, by omega, by go_num, hp4, HO'.out, HS'.out, HN'.out⟩
                case measure => simp [intOf]; omega
          · by_cases t1 : 1 ≤ lo
            · obtain ⟨go, rfl, _, _⟩ := HP.out.rO.addr (by rw [HLO.out]; omega)
              obtain ⟨gs, rfl, _, _⟩ := HP.out.rT.addr (by rw [HLT.out]; omega)
              obtain ⟨mb, hmb, hmbl, HTB0, ob0, sb, HSB0, tb0⟩ := pbox_top HP.out HO.out HLO.out HLT.out (k := 1) (by omega) (by omega)
              have HTB := Lib.hid (show x.tb = (mb : Int) from HTB0.out)
              have HSB := Lib.hid (show x.st x.tb = sb from HSB0.out)
              clear HTB0 HSB0
              have ew1 : IntKind.i64.wrap ((lo : Int) - 1) = ((lo - 1 : Nat) : Int) := by rw [IntKind.wrap_i64]; omega
              cases sb with
              | false =>
                rcases (show K < 2 ∨ K = 2 ∨ K = 3 by omega) with hk | hk | hk
                · have d2 : decide (K < 2) = true := decide_eq_true (by omega)
                  have e2 : (K == 2) = false := by simp; omega
                  have e3 : (K == 3) = false := by simp; omega
                  have d6 : decide (K < 6) = true := decide_eq_true (by omega)
                  have e6 : (K == 6) = false := by simp; omega
                  have e7 : (K == 7) = false := by simp; omega
                  have d13 : decide (13 < K) = false := decide_eq_false (by omega)
                  have g2 : decide ((2 : Int) ≤ (lo : Int)) = false := decide_eq_false (by omega)
                  have g1 : decide ((1 : Int) ≤ (lo : Int)) = true := decide_eq_true (by omega)
                  have HA := Lib.hid (show ∀ W', Bel W W' → Calls Tryz.prog 38 #[.agg #[.int .i64 6, .int .i64 (mb : Int), .int .i64 0, .int .i64 0, .string { data := #[] }], .int .i64 1, .bool true, .pointer (some ⟨w.heap.size + 1, 0, none⟩), .pointer (some ⟨w.heap.size, 0, none⟩), .pointer (some ⟨w.heap.size + 1 + 1, 0, none⟩)] W' fun e w' => e = .returned (.tuple #[]) ∧ ∃ vO' vP' vT', PBox w w' (w.heap.size + 1) w.heap.size (w.heap.size + 2) vO' vP' vT' (x.add (pn 6 (mb : Int) 0 0) 1 true) from fun W' hW => patAdd_c w W' _ _ _ _ _ _ x (pn 6 (mb : Int) 0 0) 1 true (HP.out.to hW) (by rw [HLO.out]; omega) (by rw [HLO.out]; omega) (by rw [HLP.out]; omega) (by rw [HLT.out]; omega))
                  have HO' := Lib.hid (HO.out.add (pn 6 (mb : Int) 0 0) 1 true)
                  have HS' := Lib.hid (show (x.add (pn 6 (mb : Int) 0 0) 1 true).p.length + (x.add (pn 6 (mb : Int) 0 0) 1 true).o.length ≤ 24 by have h9 := PS.add_lens x (pn 6 (mb : Int) 0 0) (take := 1) true (by rw [HLO.out]; omega); rw [HLO.out, HLP.out] at h9; omega)
                  have HN' := Lib.hid (show goPl l ⟨[], [], []⟩ = goPl (l.drop (i + 1)) (x.add (pn 6 (mb : Int) 0 0) 1 true) by rw [HNX.out]; congr 1; unfold stepPl; rw [if_neg (show ¬ (withinI n 16 < 4 ∧ 2 ≤ x.o.length) by rw [HK.out, HLO.out]; omega), if_pos (show withinI n 16 < 6 ∧ 1 ≤ x.o.length ∧ x.st x.tb = false by rw [HK.out, HLO.out]; exact ⟨by omega, by omega, HSB.out⟩), HTB.out])
                  go_wp2_with (go_at_call 7; refine (within_c _ _ _ (by decide)).mono ?_; rintro e w3 ⟨rfl, rfl⟩; try rw [HK.out])
                  go_quiet (fail)
                  go_wp2_with (first | (go_at_call 7; refine (within_c _ _ _ (by decide)).mono ?_; rintro e w3 ⟨rfl, rfl⟩; try rw [HK.out]) | (go_at_call 38; refine (HA.out _ ?_).mono ?_; exact (Bel.refl _).drewN _; rintro e w4 ⟨rfl, vO', vP', vT', hp4⟩))
                  go_roundw
                  case rel => exact ⟨i + 1, _, x.add (pn 6 (mb : Int) 0 0) 1 true, vO', vP', vT', rfl, by omega, by go_num, hp4, HO'.out, HS'.out, HN'.out⟩
                  case measure => simp [intOf]; omega
                · have d2 : decide (K < 2) = false := decide_eq_false (by omega)
                  have e2 : (K == 2) = true := by simp; omega
                  have e3 : (K == 3) = false := by simp; omega
                  have d6 : decide (K < 6) = true := decide_eq_true (by omega)
                  have e6 : (K == 6) = false := by simp; omega
                  have e7 : (K == 7) = false := by simp; omega
                  have d13 : decide (13 < K) = false := decide_eq_false (by omega)
                  have g2 : decide ((2 : Int) ≤ (lo : Int)) = false := decide_eq_false (by omega)
                  have g1 : decide ((1 : Int) ≤ (lo : Int)) = true := decide_eq_true (by omega)
                  have HA := Lib.hid (show ∀ W', Bel W W' → Calls Tryz.prog 38 #[.agg #[.int .i64 6, .int .i64 (mb : Int), .int .i64 0, .int .i64 0, .string { data := #[] }], .int .i64 1, .bool true, .pointer (some ⟨w.heap.size + 1, 0, none⟩), .pointer (some ⟨w.heap.size, 0, none⟩), .pointer (some ⟨w.heap.size + 1 + 1, 0, none⟩)] W' fun e w' => e = .returned (.tuple #[]) ∧ ∃ vO' vP' vT', PBox w w' (w.heap.size + 1) w.heap.size (w.heap.size + 2) vO' vP' vT' (x.add (pn 6 (mb : Int) 0 0) 1 true) from fun W' hW => patAdd_c w W' _ _ _ _ _ _ x (pn 6 (mb : Int) 0 0) 1 true (HP.out.to hW) (by rw [HLO.out]; omega) (by rw [HLO.out]; omega) (by rw [HLP.out]; omega) (by rw [HLT.out]; omega))
                  have HO' := Lib.hid (HO.out.add (pn 6 (mb : Int) 0 0) 1 true)
                  have HS' := Lib.hid (show (x.add (pn 6 (mb : Int) 0 0) 1 true).p.length + (x.add (pn 6 (mb : Int) 0 0) 1 true).o.length ≤ 24 by have h9 := PS.add_lens x (pn 6 (mb : Int) 0 0) (take := 1) true (by rw [HLO.out]; omega); rw [HLO.out, HLP.out] at h9; omega)
                  have HN' := Lib.hid (show goPl l ⟨[], [], []⟩ = goPl (l.drop (i + 1)) (x.add (pn 6 (mb : Int) 0 0) 1 true) by rw [HNX.out]; congr 1; unfold stepPl; rw [if_neg (show ¬ (withinI n 16 < 4 ∧ 2 ≤ x.o.length) by rw [HK.out, HLO.out]; omega), if_pos (show withinI n 16 < 6 ∧ 1 ≤ x.o.length ∧ x.st x.tb = false by rw [HK.out, HLO.out]; exact ⟨by omega, by omega, HSB.out⟩), HTB.out])
                  go_wp2_with (go_at_call 7; refine (within_c _ _ _ (by decide)).mono ?_; rintro e w3 ⟨rfl, rfl⟩; try rw [HK.out])
                  go_quiet (fail)
                  go_wp2_with (first | (go_at_call 7; refine (within_c _ _ _ (by decide)).mono ?_; rintro e w3 ⟨rfl, rfl⟩; try rw [HK.out]) | (go_at_call 38; refine (HA.out _ ?_).mono ?_; exact (Bel.refl _).drewN _; rintro e w4 ⟨rfl, vO', vP', vT', hp4⟩))
                  go_roundw
                  case rel => exact ⟨i + 1, _, x.add (pn 6 (mb : Int) 0 0) 1 true, vO', vP', vT', rfl, by omega, by go_num, hp4, HO'.out, HS'.out, HN'.out⟩
                  case measure => simp [intOf]; omega
                · have d2 : decide (K < 2) = false := decide_eq_false (by omega)
                  have e2 : (K == 2) = false := by simp; omega
                  have e3 : (K == 3) = true := by simp; omega
                  have d6 : decide (K < 6) = true := decide_eq_true (by omega)
                  have e6 : (K == 6) = false := by simp; omega
                  have e7 : (K == 7) = false := by simp; omega
                  have d13 : decide (13 < K) = false := decide_eq_false (by omega)
                  have g2 : decide ((2 : Int) ≤ (lo : Int)) = false := decide_eq_false (by omega)
                  have g1 : decide ((1 : Int) ≤ (lo : Int)) = true := decide_eq_true (by omega)
                  have HA := Lib.hid (show ∀ W', Bel W W' → Calls Tryz.prog 38 #[.agg #[.int .i64 6, .int .i64 (mb : Int), .int .i64 0, .int .i64 0, .string { data := #[] }], .int .i64 1, .bool true, .pointer (some ⟨w.heap.size + 1, 0, none⟩), .pointer (some ⟨w.heap.size, 0, none⟩), .pointer (some ⟨w.heap.size + 1 + 1, 0, none⟩)] W' fun e w' => e = .returned (.tuple #[]) ∧ ∃ vO' vP' vT', PBox w w' (w.heap.size + 1) w.heap.size (w.heap.size + 2) vO' vP' vT' (x.add (pn 6 (mb : Int) 0 0) 1 true) from fun W' hW => patAdd_c w W' _ _ _ _ _ _ x (pn 6 (mb : Int) 0 0) 1 true (HP.out.to hW) (by rw [HLO.out]; omega) (by rw [HLO.out]; omega) (by rw [HLP.out]; omega) (by rw [HLT.out]; omega))
                  have HO' := Lib.hid (HO.out.add (pn 6 (mb : Int) 0 0) 1 true)
                  have HS' := Lib.hid (show (x.add (pn 6 (mb : Int) 0 0) 1 true).p.length + (x.add (pn 6 (mb : Int) 0 0) 1 true).o.length ≤ 24 by have h9 := PS.add_lens x (pn 6 (mb : Int) 0 0) (take := 1) true (by rw [HLO.out]; omega); rw [HLO.out, HLP.out] at h9; omega)
                  have HN' := Lib.hid (show goPl l ⟨[], [], []⟩ = goPl (l.drop (i + 1)) (x.add (pn 6 (mb : Int) 0 0) 1 true) by rw [HNX.out]; congr 1; unfold stepPl; rw [if_neg (show ¬ (withinI n 16 < 4 ∧ 2 ≤ x.o.length) by rw [HK.out, HLO.out]; omega), if_pos (show withinI n 16 < 6 ∧ 1 ≤ x.o.length ∧ x.st x.tb = false by rw [HK.out, HLO.out]; exact ⟨by omega, by omega, HSB.out⟩), HTB.out])
                  go_wp2_with (go_at_call 7; refine (within_c _ _ _ (by decide)).mono ?_; rintro e w3 ⟨rfl, rfl⟩; try rw [HK.out])
                  go_quiet (fail)
                  go_wp2_with (first | (go_at_call 7; refine (within_c _ _ _ (by decide)).mono ?_; rintro e w3 ⟨rfl, rfl⟩; try rw [HK.out]) | (go_at_call 38; refine (HA.out _ ?_).mono ?_; exact (Bel.refl _).drewN _; rintro e w4 ⟨rfl, vO', vP', vT', hp4⟩))
                  go_roundw
                  case rel => exact ⟨i + 1, _, x.add (pn 6 (mb : Int) 0 0) 1 true, vO', vP', vT', rfl, by omega, by go_num, hp4, HO'.out, HS'.out, HN'.out⟩
                  case measure => simp [intOf]; omega
              | true =>
                rcases (show K < 2 ∨ K = 2 ∨ K = 3 by omega) with hk | hk | hk
                · have d2 : decide (K < 2) = true := decide_eq_true (by omega)
                  have e2 : (K == 2) = false := by simp; omega
                  have e3 : (K == 3) = false := by simp; omega
                  have d6 : decide (K < 6) = true := decide_eq_true (by omega)
                  have e6 : (K == 6) = false := by simp; omega
                  have e7 : (K == 7) = false := by simp; omega
                  have d13 : decide (13 < K) = false := decide_eq_false (by omega)
                  have g2 : decide ((2 : Int) ≤ (lo : Int)) = false := decide_eq_false (by omega)
                  have g1 : decide ((1 : Int) ≤ (lo : Int)) = true := decide_eq_true (by omega)
                  have HA := Lib.hid (show ∀ W', Bel W W' → Calls Tryz.prog 38 #[.agg #[.int .i64 3, .int .i64 1, .int .i64 0, .int .i64 (withinI (n.tdiv 64) 4), .string { data := #[] }], .int .i64 0, .bool false, .pointer (some ⟨w.heap.size + 1, 0, none⟩), .pointer (some ⟨w.heap.size, 0, none⟩), .pointer (some ⟨w.heap.size + 1 + 1, 0, none⟩)] W' fun e w' => e = .returned (.tuple #[]) ∧ ∃ vO' vP' vT', PBox w w' (w.heap.size + 1) w.heap.size (w.heap.size + 2) vO' vP' vT' (x.add (pn 3 1 0 (withinI (n.tdiv 64) 4)) 0 false) from fun W' hW => patAdd_c w W' _ _ _ _ _ _ x (pn 3 1 0 (withinI (n.tdiv 64) 4)) 0 false (HP.out.to hW) (by rw [HLO.out]; omega) (by rw [HLO.out]; omega) (by rw [HLP.out]; omega) (by rw [HLT.out]; omega))
                  have HO' := Lib.hid (HO.out.add (pn 3 1 0 (withinI (n.tdiv 64) 4)) 0 false)
                  have HS' := Lib.hid (show (x.add (pn 3 1 0 (withinI (n.tdiv 64) 4)) 0 false).p.length + (x.add (pn 3 1 0 (withinI (n.tdiv 64) 4)) 0 false).o.length ≤ 24 by have h9 := PS.add_lens x (pn 3 1 0 (withinI (n.tdiv 64) 4)) (take := 0) false (by rw [HLO.out]; omega); rw [HLO.out, HLP.out] at h9; omega)
                  have HN' := Lib.hid (show goPl l ⟨[], [], []⟩ = goPl (l.drop (i + 1)) (x.add (pn 3 1 0 (withinI (n.tdiv 64) 4)) 0 false) by rw [HNX.out]; congr 1; unfold stepPl; rw [if_neg (show ¬ (withinI n 16 < 4 ∧ 2 ≤ x.o.length) by rw [HK.out, HLO.out]; omega), if_neg (show ¬ (withinI n 16 < 6 ∧ 1 ≤ x.o.length ∧ x.st x.tb = false) by rw [HK.out, HLO.out]; rw [HSB.out]; simp), if_neg (by rw [HK.out]; omega), if_neg (by rw [HK.out]; omega), show manyN n = 1 by unfold manyN; rw [HK.out]; exact if_neg (by omega)])
                  go_wp2_with (go_at_call 7; refine (within_c _ _ _ (by decide)).mono ?_; rintro e w3 ⟨rfl, rfl⟩; try rw [HK.out])
                  go_quiet (fail)
                  go_wp2_with (first | (go_at_call 7; refine (within_c _ _ _ (by decide)).mono ?_; rintro e w3 ⟨rfl, rfl⟩; try rw [HK.out]) | (go_at_call 38; refine (HA.out _ ?_).mono ?_; exact (Bel.refl _).drewN _; rintro e w4 ⟨rfl, vO', vP', vT', hp4⟩))
                  go_roundw
                  case rel => exact ⟨i + 1, _, x.add (pn 3 1 0 (withinI (n.tdiv 64) 4)) 0 false, vO', vP', vT', rfl, by omega, by go_num, hp4, HO'.out, HS'.out, HN'.out⟩
                  case measure => simp [intOf]; omega
                · have d2 : decide (K < 2) = false := decide_eq_false (by omega)
                  have e2 : (K == 2) = true := by simp; omega
                  have e3 : (K == 3) = false := by simp; omega
                  have d6 : decide (K < 6) = true := decide_eq_true (by omega)
                  have e6 : (K == 6) = false := by simp; omega
                  have e7 : (K == 7) = false := by simp; omega
                  have d13 : decide (13 < K) = false := decide_eq_false (by omega)
                  have g2 : decide ((2 : Int) ≤ (lo : Int)) = false := decide_eq_false (by omega)
                  have g1 : decide ((1 : Int) ≤ (lo : Int)) = true := decide_eq_true (by omega)
                  have HA := Lib.hid (show ∀ W', Bel W W' → Calls Tryz.prog 38 #[.agg #[.int .i64 3, .int .i64 1, .int .i64 0, .int .i64 (withinI (n.tdiv 64) 4), .string { data := #[] }], .int .i64 0, .bool false, .pointer (some ⟨w.heap.size + 1, 0, none⟩), .pointer (some ⟨w.heap.size, 0, none⟩), .pointer (some ⟨w.heap.size + 1 + 1, 0, none⟩)] W' fun e w' => e = .returned (.tuple #[]) ∧ ∃ vO' vP' vT', PBox w w' (w.heap.size + 1) w.heap.size (w.heap.size + 2) vO' vP' vT' (x.add (pn 3 1 0 (withinI (n.tdiv 64) 4)) 0 false) from fun W' hW => patAdd_c w W' _ _ _ _ _ _ x (pn 3 1 0 (withinI (n.tdiv 64) 4)) 0 false (HP.out.to hW) (by rw [HLO.out]; omega) (by rw [HLO.out]; omega) (by rw [HLP.out]; omega) (by rw [HLT.out]; omega))
                  have HO' := Lib.hid (HO.out.add (pn 3 1 0 (withinI (n.tdiv 64) 4)) 0 false)
                  have HS' := Lib.hid (show (x.add (pn 3 1 0 (withinI (n.tdiv 64) 4)) 0 false).p.length + (x.add (pn 3 1 0 (withinI (n.tdiv 64) 4)) 0 false).o.length ≤ 24 by have h9 := PS.add_lens x (pn 3 1 0 (withinI (n.tdiv 64) 4)) (take := 0) false (by rw [HLO.out]; omega); rw [HLO.out, HLP.out] at h9; omega)
                  have HN' := Lib.hid (show goPl l ⟨[], [], []⟩ = goPl (l.drop (i + 1)) (x.add (pn 3 1 0 (withinI (n.tdiv 64) 4)) 0 false) by rw [HNX.out]; congr 1; unfold stepPl; rw [if_neg (show ¬ (withinI n 16 < 4 ∧ 2 ≤ x.o.length) by rw [HK.out, HLO.out]; omega), if_neg (show ¬ (withinI n 16 < 6 ∧ 1 ≤ x.o.length ∧ x.st x.tb = false) by rw [HK.out, HLO.out]; rw [HSB.out]; simp), if_neg (by rw [HK.out]; omega), if_neg (by rw [HK.out]; omega), show manyN n = 1 by unfold manyN; rw [HK.out]; exact if_neg (by omega)])
                  go_wp2_with (go_at_call 7; refine (within_c _ _ _ (by decide)).mono ?_; rintro e w3 ⟨rfl, rfl⟩; try rw [HK.out])
                  go_quiet (fail)
                  go_wp2_with (first | (go_at_call 7; refine (within_c _ _ _ (by decide)).mono ?_; rintro e w3 ⟨rfl, rfl⟩; try rw [HK.out]) | (go_at_call 38; refine (HA.out _ ?_).mono ?_; exact (Bel.refl _).drewN _; rintro e w4 ⟨rfl, vO', vP', vT', hp4⟩))
                  go_roundw
                  case rel => exact ⟨i + 1, _, x.add (pn 3 1 0 (withinI (n.tdiv 64) 4)) 0 false, vO', vP', vT', rfl, by omega, by go_num, hp4, HO'.out, HS'.out, HN'.out⟩
                  case measure => simp [intOf]; omega
                · have d2 : decide (K < 2) = false := decide_eq_false (by omega)
                  have e2 : (K == 2) = false := by simp; omega
                  have e3 : (K == 3) = true := by simp; omega
                  have d6 : decide (K < 6) = true := decide_eq_true (by omega)
                  have e6 : (K == 6) = false := by simp; omega
                  have e7 : (K == 7) = false := by simp; omega
                  have d13 : decide (13 < K) = false := decide_eq_false (by omega)
                  have g2 : decide ((2 : Int) ≤ (lo : Int)) = false := decide_eq_false (by omega)
                  have g1 : decide ((1 : Int) ≤ (lo : Int)) = true := decide_eq_true (by omega)
                  have HA := Lib.hid (show ∀ W', Bel W W' → Calls Tryz.prog 38 #[.agg #[.int .i64 3, .int .i64 1, .int .i64 0, .int .i64 (withinI (n.tdiv 64) 4), .string { data := #[] }], .int .i64 0, .bool false, .pointer (some ⟨w.heap.size + 1, 0, none⟩), .pointer (some ⟨w.heap.size, 0, none⟩), .pointer (some ⟨w.heap.size + 1 + 1, 0, none⟩)] W' fun e w' => e = .returned (.tuple #[]) ∧ ∃ vO' vP' vT', PBox w w' (w.heap.size + 1) w.heap.size (w.heap.size + 2) vO' vP' vT' (x.add (pn 3 1 0 (withinI (n.tdiv 64) 4)) 0 false) from fun W' hW => patAdd_c w W' _ _ _ _ _ _ x (pn 3 1 0 (withinI (n.tdiv 64) 4)) 0 false (HP.out.to hW) (by rw [HLO.out]; omega) (by rw [HLO.out]; omega) (by rw [HLP.out]; omega) (by rw [HLT.out]; omega))
                  have HO' := Lib.hid (HO.out.add (pn 3 1 0 (withinI (n.tdiv 64) 4)) 0 false)
                  have HS' := Lib.hid (show (x.add (pn 3 1 0 (withinI (n.tdiv 64) 4)) 0 false).p.length + (x.add (pn 3 1 0 (withinI (n.tdiv 64) 4)) 0 false).o.length ≤ 24 by have h9 := PS.add_lens x (pn 3 1 0 (withinI (n.tdiv 64) 4)) (take := 0) false (by rw [HLO.out]; omega); rw [HLO.out, HLP.out] at h9; omega)
                  have HN' := Lib.hid (show goPl l ⟨[], [], []⟩ = goPl (l.drop (i + 1)) (x.add (pn 3 1 0 (withinI (n.tdiv 64) 4)) 0 false) by rw [HNX.out]; congr 1; unfold stepPl; rw [if_neg (show ¬ (withinI n 16 < 4 ∧ 2 ≤ x.o.length) by rw [HK.out, HLO.out]; omega), if_neg (show ¬ (withinI n 16 < 6 ∧ 1 ≤ x.o.length ∧ x.st x.tb = false) by rw [HK.out, HLO.out]; rw [HSB.out]; simp), if_neg (by rw [HK.out]; omega), if_neg (by rw [HK.out]; omega), show manyN n = 1 by unfold manyN; rw [HK.out]; exact if_neg (by omega)])
                  go_wp2_with (go_at_call 7; refine (within_c _ _ _ (by decide)).mono ?_; rintro e w3 ⟨rfl, rfl⟩; try rw [HK.out])
                  go_quiet (fail)
                  go_wp2_with (first | (go_at_call 7; refine (within_c _ _ _ (by decide)).mono ?_; rintro e w3 ⟨rfl, rfl⟩; try rw [HK.out]) | (go_at_call 38; refine (HA.out _ ?_).mono ?_; exact (Bel.refl _).drewN _; rintro e w4 ⟨rfl, vO', vP', vT', hp4⟩))
                  go_roundw
                  case rel => exact ⟨i + 1, _, x.add (pn 3 1 0 (withinI (n.tdiv 64) 4)) 0 false, vO', vP', vT', rfl, by omega, by go_num, hp4, HO'.out, HS'.out, HN'.out⟩
                  case measure => simp [intOf]; omega
            · skip
              rcases (show K < 2 ∨ K = 2 ∨ K = 3 by omega) with hk | hk | hk
              · have d2 : decide (K < 2) = true := decide_eq_true (by omega)
                have e2 : (K == 2) = false := by simp; omega
                have e3 : (K == 3) = false := by simp; omega
                have d6 : decide (K < 6) = true := decide_eq_true (by omega)
                have e6 : (K == 6) = false := by simp; omega
                have e7 : (K == 7) = false := by simp; omega
                have d13 : decide (13 < K) = false := decide_eq_false (by omega)
                have g2 : decide ((2 : Int) ≤ (lo : Int)) = false := decide_eq_false (by omega)
                have g1 : decide ((1 : Int) ≤ (lo : Int)) = false := decide_eq_false (by omega)
                have HA := Lib.hid (show ∀ W', Bel W W' → Calls Tryz.prog 38 #[.agg #[.int .i64 3, .int .i64 1, .int .i64 0, .int .i64 (withinI (n.tdiv 64) 4), .string { data := #[] }], .int .i64 0, .bool false, .pointer (some ⟨w.heap.size + 1, 0, none⟩), .pointer (some ⟨w.heap.size, 0, none⟩), .pointer (some ⟨w.heap.size + 1 + 1, 0, none⟩)] W' fun e w' => e = .returned (.tuple #[]) ∧ ∃ vO' vP' vT', PBox w w' (w.heap.size + 1) w.heap.size (w.heap.size + 2) vO' vP' vT' (x.add (pn 3 1 0 (withinI (n.tdiv 64) 4)) 0 false) from fun W' hW => patAdd_c w W' _ _ _ _ _ _ x (pn 3 1 0 (withinI (n.tdiv 64) 4)) 0 false (HP.out.to hW) (by rw [HLO.out]; omega) (by rw [HLO.out]; omega) (by rw [HLP.out]; omega) (by rw [HLT.out]; omega))
                have HO' := Lib.hid (HO.out.add (pn 3 1 0 (withinI (n.tdiv 64) 4)) 0 false)
                have HS' := Lib.hid (show (x.add (pn 3 1 0 (withinI (n.tdiv 64) 4)) 0 false).p.length + (x.add (pn 3 1 0 (withinI (n.tdiv 64) 4)) 0 false).o.length ≤ 24 by have h9 := PS.add_lens x (pn 3 1 0 (withinI (n.tdiv 64) 4)) (take := 0) false (by rw [HLO.out]; omega); rw [HLO.out, HLP.out] at h9; omega)
                have HN' := Lib.hid (show goPl l ⟨[], [], []⟩ = goPl (l.drop (i + 1)) (x.add (pn 3 1 0 (withinI (n.tdiv 64) 4)) 0 false) by rw [HNX.out]; congr 1; unfold stepPl; rw [if_neg (show ¬ (withinI n 16 < 4 ∧ 2 ≤ x.o.length) by rw [HK.out, HLO.out]; omega), if_neg (show ¬ (withinI n 16 < 6 ∧ 1 ≤ x.o.length ∧ x.st x.tb = false) by rw [HK.out, HLO.out]; omega), if_neg (by rw [HK.out]; omega), if_neg (by rw [HK.out]; omega), show manyN n = 1 by unfold manyN; rw [HK.out]; exact if_neg (by omega)])
                go_wp2_with (go_at_call 7; refine (within_c _ _ _ (by decide)).mono ?_; rintro e w3 ⟨rfl, rfl⟩; try rw [HK.out])
                go_quiet (fail)
                go_wp2_with (first | (go_at_call 7; refine (within_c _ _ _ (by decide)).mono ?_; rintro e w3 ⟨rfl, rfl⟩; try rw [HK.out]) | (go_at_call 38; refine (HA.out _ ?_).mono ?_; exact (Bel.refl _).drewN _; rintro e w4 ⟨rfl, vO', vP', vT', hp4⟩))
                go_roundw
                case rel => exact ⟨i + 1, _, x.add (pn 3 1 0 (withinI (n.tdiv 64) 4)) 0 false, vO', vP', vT', rfl, by omega, by go_num, hp4, HO'.out, HS'.out, HN'.out⟩
                case measure => simp [intOf]; omega
              · have d2 : decide (K < 2) = false := decide_eq_false (by omega)
                have e2 : (K == 2) = true := by simp; omega
                have e3 : (K == 3) = false := by simp; omega
                have d6 : decide (K < 6) = true := decide_eq_true (by omega)
                have e6 : (K == 6) = false := by simp; omega
                have e7 : (K == 7) = false := by simp; omega
                have d13 : decide (13 < K) = false := decide_eq_false (by omega)
                have g2 : decide ((2 : Int) ≤ (lo : Int)) = false := decide_eq_false (by omega)
                have g1 : decide ((1 : Int) ≤ (lo : Int)) = false := decide_eq_false (by omega)
                have HA := Lib.hid (show ∀ W', Bel W W' → Calls Tryz.prog 38 #[.agg #[.int .i64 3, .int .i64 1, .int .i64 0, .int .i64 (withinI (n.tdiv 64) 4), .string { data := #[] }], .int .i64 0, .bool false, .pointer (some ⟨w.heap.size + 1, 0, none⟩), .pointer (some ⟨w.heap.size, 0, none⟩), .pointer (some ⟨w.heap.size + 1 + 1, 0, none⟩)] W' fun e w' => e = .returned (.tuple #[]) ∧ ∃ vO' vP' vT', PBox w w' (w.heap.size + 1) w.heap.size (w.heap.size + 2) vO' vP' vT' (x.add (pn 3 1 0 (withinI (n.tdiv 64) 4)) 0 false) from fun W' hW => patAdd_c w W' _ _ _ _ _ _ x (pn 3 1 0 (withinI (n.tdiv 64) 4)) 0 false (HP.out.to hW) (by rw [HLO.out]; omega) (by rw [HLO.out]; omega) (by rw [HLP.out]; omega) (by rw [HLT.out]; omega))
                have HO' := Lib.hid (HO.out.add (pn 3 1 0 (withinI (n.tdiv 64) 4)) 0 false)
                have HS' := Lib.hid (show (x.add (pn 3 1 0 (withinI (n.tdiv 64) 4)) 0 false).p.length + (x.add (pn 3 1 0 (withinI (n.tdiv 64) 4)) 0 false).o.length ≤ 24 by have h9 := PS.add_lens x (pn 3 1 0 (withinI (n.tdiv 64) 4)) (take := 0) false (by rw [HLO.out]; omega); rw [HLO.out, HLP.out] at h9; omega)
                have HN' := Lib.hid (show goPl l ⟨[], [], []⟩ = goPl (l.drop (i + 1)) (x.add (pn 3 1 0 (withinI (n.tdiv 64) 4)) 0 false) by rw [HNX.out]; congr 1; unfold stepPl; rw [if_neg (show ¬ (withinI n 16 < 4 ∧ 2 ≤ x.o.length) by rw [HK.out, HLO.out]; omega), if_neg (show ¬ (withinI n 16 < 6 ∧ 1 ≤ x.o.length ∧ x.st x.tb = false) by rw [HK.out, HLO.out]; omega), if_neg (by rw [HK.out]; omega), if_neg (by rw [HK.out]; omega), show manyN n = 1 by unfold manyN; rw [HK.out]; exact if_neg (by omega)])
                go_wp2_with (go_at_call 7; refine (within_c _ _ _ (by decide)).mono ?_; rintro e w3 ⟨rfl, rfl⟩; try rw [HK.out])
                go_quiet (fail)
                go_wp2_with (first | (go_at_call 7; refine (within_c _ _ _ (by decide)).mono ?_; rintro e w3 ⟨rfl, rfl⟩; try rw [HK.out]) | (go_at_call 38; refine (HA.out _ ?_).mono ?_; exact (Bel.refl _).drewN _; rintro e w4 ⟨rfl, vO', vP', vT', hp4⟩))
                go_roundw
                case rel => exact ⟨i + 1, _, x.add (pn 3 1 0 (withinI (n.tdiv 64) 4)) 0 false, vO', vP', vT', rfl, by omega, by go_num, hp4, HO'.out, HS'.out, HN'.out⟩
                case measure => simp [intOf]; omega
              · have d2 : decide (K < 2) = false := decide_eq_false (by omega)
                have e2 : (K == 2) = false := by simp; omega
                have e3 : (K == 3) = true := by simp; omega
                have d6 : decide (K < 6) = true := decide_eq_true (by omega)
                have e6 : (K == 6) = false := by simp; omega
                have e7 : (K == 7) = false := by simp; omega
                have d13 : decide (13 < K) = false := decide_eq_false (by omega)
                have g2 : decide ((2 : Int) ≤ (lo : Int)) = false := decide_eq_false (by omega)
                have g1 : decide ((1 : Int) ≤ (lo : Int)) = false := decide_eq_false (by omega)
                have HA := Lib.hid (show ∀ W', Bel W W' → Calls Tryz.prog 38 #[.agg #[.int .i64 3, .int .i64 1, .int .i64 0, .int .i64 (withinI (n.tdiv 64) 4), .string { data := #[] }], .int .i64 0, .bool false, .pointer (some ⟨w.heap.size + 1, 0, none⟩), .pointer (some ⟨w.heap.size, 0, none⟩), .pointer (some ⟨w.heap.size + 1 + 1, 0, none⟩)] W' fun e w' => e = .returned (.tuple #[]) ∧ ∃ vO' vP' vT', PBox w w' (w.heap.size + 1) w.heap.size (w.heap.size + 2) vO' vP' vT' (x.add (pn 3 1 0 (withinI (n.tdiv 64) 4)) 0 false) from fun W' hW => patAdd_c w W' _ _ _ _ _ _ x (pn 3 1 0 (withinI (n.tdiv 64) 4)) 0 false (HP.out.to hW) (by rw [HLO.out]; omega) (by rw [HLO.out]; omega) (by rw [HLP.out]; omega) (by rw [HLT.out]; omega))
                have HO' := Lib.hid (HO.out.add (pn 3 1 0 (withinI (n.tdiv 64) 4)) 0 false)
                have HS' := Lib.hid (show (x.add (pn 3 1 0 (withinI (n.tdiv 64) 4)) 0 false).p.length + (x.add (pn 3 1 0 (withinI (n.tdiv 64) 4)) 0 false).o.length ≤ 24 by have h9 := PS.add_lens x (pn 3 1 0 (withinI (n.tdiv 64) 4)) (take := 0) false (by rw [HLO.out]; omega); rw [HLO.out, HLP.out] at h9; omega)
                have HN' := Lib.hid (show goPl l ⟨[], [], []⟩ = goPl (l.drop (i + 1)) (x.add (pn 3 1 0 (withinI (n.tdiv 64) 4)) 0 false) by rw [HNX.out]; congr 1; unfold stepPl; rw [if_neg (show ¬ (withinI n 16 < 4 ∧ 2 ≤ x.o.length) by rw [HK.out, HLO.out]; omega), if_neg (show ¬ (withinI n 16 < 6 ∧ 1 ≤ x.o.length ∧ x.st x.tb = false) by rw [HK.out, HLO.out]; omega), if_neg (by rw [HK.out]; omega), if_neg (by rw [HK.out]; omega), show manyN n = 1 by unfold manyN; rw [HK.out]; exact if_neg (by omega)])
                go_wp2_with (go_at_call 7; refine (within_c _ _ _ (by decide)).mono ?_; rintro e w3 ⟨rfl, rfl⟩; try rw [HK.out])
                go_quiet (fail)
                go_wp2_with (first | (go_at_call 7; refine (within_c _ _ _ (by decide)).mono ?_; rintro e w3 ⟨rfl, rfl⟩; try rw [HK.out]) | (go_at_call 38; refine (HA.out _ ?_).mono ?_; exact (Bel.refl _).drewN _; rintro e w4 ⟨rfl, vO', vP', vT', hp4⟩))
                go_roundw
                case rel => exact ⟨i + 1, _, x.add (pn 3 1 0 (withinI (n.tdiv 64) 4)) 0 false, vO', vP', vT', rfl, by omega, by go_num, hp4, HO'.out, HS'.out, HN'.out⟩
                case measure => simp [intOf]; omega
        · by_cases c5 : K ≤ 5
          · by_cases t1 : 1 ≤ lo
            · obtain ⟨go, rfl, _, _⟩ := HP.out.rO.addr (by rw [HLO.out]; omega)
              obtain ⟨gs, rfl, _, _⟩ := HP.out.rT.addr (by rw [HLT.out]; omega)
              obtain ⟨mb, hmb, hmbl, HTB0, ob0, sb, HSB0, tb0⟩ := pbox_top HP.out HO.out HLO.out HLT.out (k := 1) (by omega) (by omega)
              have HTB := Lib.hid (show x.tb = (mb : Int) from HTB0.out)
              have HSB := Lib.hid (show x.st x.tb = sb from HSB0.out)
              clear HTB0 HSB0
              have ew1 : IntKind.i64.wrap ((lo : Int) - 1) = ((lo - 1 : Nat) : Int) := by rw [IntKind.wrap_i64]; omega
              cases sb with
              | false =>
                have d2 : decide (K < 2) = false := decide_eq_false (by omega)
                have e2 : (K == 2) = false := by simp; omega
                have e3 : (K == 3) = false := by simp; omega
                have d6 : decide (K < 6) = true := decide_eq_true (by omega)
                have e6 : (K == 6) = false := by simp; omega
                have e7 : (K == 7) = false := by simp; omega
                have d13 : decide (13 < K) = false := decide_eq_false (by omega)
                have g1 : decide ((1 : Int) ≤ (lo : Int)) = true := decide_eq_true (by omega)
                have HA := Lib.hid (show ∀ W', Bel W W' → Calls Tryz.prog 38 #[.agg #[.int .i64 6, .int .i64 (mb : Int), .int .i64 0, .int .i64 0, .string { data := #[] }], .int .i64 1, .bool true, .pointer (some ⟨w.heap.size + 1, 0, none⟩), .pointer (some ⟨w.heap.size, 0, none⟩), .pointer (some ⟨w.heap.size + 1 + 1, 0, none⟩)] W' fun e w' => e = .returned (.tuple #[]) ∧ ∃ vO' vP' vT', PBox w w' (w.heap.size + 1) w.heap.size (w.heap.size + 2) vO' vP' vT' (x.add (pn 6 (mb : Int) 0 0) 1 true) from fun W' hW => patAdd_c w W' _ _ _ _ _ _ x (pn 6 (mb : Int) 0 0) 1 true (HP.out.to hW) (by rw [HLO.out]; omega) (by rw [HLO.out]; omega) (by rw [HLP.out]; omega) (by rw [HLT.out]; omega))
                have HO' := Lib.hid (HO.out.add (pn 6 (mb : Int) 0 0) 1 true)
                have HS' := Lib.hid (show (x.add (pn 6 (mb : Int) 0 0) 1 true).p.length + (x.add (pn 6 (mb : Int) 0 0) 1 true).o.length ≤ 24 by have h9 := PS.add_lens x (pn 6 (mb : Int) 0 0) (take := 1) true (by rw [HLO.out]; omega); rw [HLO.out, HLP.out] at h9; omega)
                have HN' := Lib.hid (show goPl l ⟨[], [], []⟩ = goPl (l.drop (i + 1)) (x.add (pn 6 (mb : Int) 0 0) 1 true) by rw [HNX.out]; congr 1; unfold stepPl; rw [if_neg (show ¬ (withinI n 16 < 4 ∧ 2 ≤ x.o.length) by rw [HK.out, HLO.out]; omega), if_pos (show withinI n 16 < 6 ∧ 1 ≤ x.o.length ∧ x.st x.tb = false by rw [HK.out, HLO.out]; exact ⟨by omega, by omega, HSB.out⟩), HTB.out])
                go_wp2_with (go_at_call 7; refine (within_c _ _ _ (by decide)).mono ?_; rintro e w3 ⟨rfl, rfl⟩; try rw [HK.out])
                go_quiet (fail)
                go_wp2_with (first | (go_at_call 7; refine (within_c _ _ _ (by decide)).mono ?_; rintro e w3 ⟨rfl, rfl⟩; try rw [HK.out]) | (go_at_call 38; refine (HA.out _ ?_).mono ?_; exact (Bel.refl _).drewN _; rintro e w4 ⟨rfl, vO', vP', vT', hp4⟩))
                go_roundw
                case rel => exact ⟨i + 1, _, x.add (pn 6 (mb : Int) 0 0) 1 true, vO', vP', vT', rfl, by omega, by go_num, hp4, HO'.out, HS'.out, HN'.out⟩
                case measure => simp [intOf]; omega
              | true =>
                have d2 : decide (K < 2) = false := decide_eq_false (by omega)
                have e2 : (K == 2) = false := by simp; omega
                have e3 : (K == 3) = false := by simp; omega
                have d6 : decide (K < 6) = true := decide_eq_true (by omega)
                have e6 : (K == 6) = false := by simp; omega
                have e7 : (K == 7) = false := by simp; omega
                have d13 : decide (13 < K) = false := decide_eq_false (by omega)
                have g1 : decide ((1 : Int) ≤ (lo : Int)) = true := decide_eq_true (by omega)
                have HA := Lib.hid (show ∀ W', Bel W W' → Calls Tryz.prog 38 #[.agg #[.int .i64 3, .int .i64 1, .int .i64 0, .int .i64 (withinI (n.tdiv 64) 4), .string { data := #[] }], .int .i64 0, .bool false, .pointer (some ⟨w.heap.size + 1, 0, none⟩), .pointer (some ⟨w.heap.size, 0, none⟩), .pointer (some ⟨w.heap.size + 1 + 1, 0, none⟩)] W' fun e w' => e = .returned (.tuple #[]) ∧ ∃ vO' vP' vT', PBox w w' (w.heap.size + 1) w.heap.size (w.heap.size + 2) vO' vP' vT' (x.add (pn 3 1 0 (withinI (n.tdiv 64) 4)) 0 false) from fun W' hW => patAdd_c w W' _ _ _ _ _ _ x (pn 3 1 0 (withinI (n.tdiv 64) 4)) 0 false (HP.out.to hW) (by rw [HLO.out]; omega) (by rw [HLO.out]; omega) (by rw [HLP.out]; omega) (by rw [HLT.out]; omega))
                have HO' := Lib.hid (HO.out.add (pn 3 1 0 (withinI (n.tdiv 64) 4)) 0 false)
                have HS' := Lib.hid (show (x.add (pn 3 1 0 (withinI (n.tdiv 64) 4)) 0 false).p.length + (x.add (pn 3 1 0 (withinI (n.tdiv 64) 4)) 0 false).o.length ≤ 24 by have h9 := PS.add_lens x (pn 3 1 0 (withinI (n.tdiv 64) 4)) (take := 0) false (by rw [HLO.out]; omega); rw [HLO.out, HLP.out] at h9; omega)
                have HN' := Lib.hid (show goPl l ⟨[], [], []⟩ = goPl (l.drop (i + 1)) (x.add (pn 3 1 0 (withinI (n.tdiv 64) 4)) 0 false) by rw [HNX.out]; congr 1; unfold stepPl; rw [if_neg (show ¬ (withinI n 16 < 4 ∧ 2 ≤ x.o.length) by rw [HK.out, HLO.out]; omega), if_neg (show ¬ (withinI n 16 < 6 ∧ 1 ≤ x.o.length ∧ x.st x.tb = false) by rw [HK.out, HLO.out]; rw [HSB.out]; simp), if_neg (by rw [HK.out]; omega), if_neg (by rw [HK.out]; omega), show manyN n = 1 by unfold manyN; rw [HK.out]; exact if_neg (by omega)])
                go_wp2_with (go_at_call 7; refine (within_c _ _ _ (by decide)).mono ?_; rintro e w3 ⟨rfl, rfl⟩; try rw [HK.out])
                go_quiet (fail)
                go_wp2_with (first | (go_at_call 7; refine (within_c _ _ _ (by decide)).mono ?_; rintro e w3 ⟨rfl, rfl⟩; try rw [HK.out]) | (go_at_call 38; refine (HA.out _ ?_).mono ?_; exact (Bel.refl _).drewN _; rintro e w4 ⟨rfl, vO', vP', vT', hp4⟩))
                go_roundw
                case rel => exact ⟨i + 1, _, x.add (pn 3 1 0 (withinI (n.tdiv 64) 4)) 0 false, vO', vP', vT', rfl, by omega, by go_num, hp4, HO'.out, HS'.out, HN'.out⟩
                case measure => simp [intOf]; omega
            · have d2 : decide (K < 2) = false := decide_eq_false (by omega)
              have e2 : (K == 2) = false := by simp; omega
              have e3 : (K == 3) = false := by simp; omega
              have d6 : decide (K < 6) = true := decide_eq_true (by omega)
              have e6 : (K == 6) = false := by simp; omega
              have e7 : (K == 7) = false := by simp; omega
              have d13 : decide (13 < K) = false := decide_eq_false (by omega)
              have g2 : decide ((2 : Int) ≤ (lo : Int)) = false := decide_eq_false (by omega)
              have g1 : decide ((1 : Int) ≤ (lo : Int)) = false := decide_eq_false (by omega)
              have HA := Lib.hid (show ∀ W', Bel W W' → Calls Tryz.prog 38 #[.agg #[.int .i64 3, .int .i64 1, .int .i64 0, .int .i64 (withinI (n.tdiv 64) 4), .string { data := #[] }], .int .i64 0, .bool false, .pointer (some ⟨w.heap.size + 1, 0, none⟩), .pointer (some ⟨w.heap.size, 0, none⟩), .pointer (some ⟨w.heap.size + 1 + 1, 0, none⟩)] W' fun e w' => e = .returned (.tuple #[]) ∧ ∃ vO' vP' vT', PBox w w' (w.heap.size + 1) w.heap.size (w.heap.size + 2) vO' vP' vT' (x.add (pn 3 1 0 (withinI (n.tdiv 64) 4)) 0 false) from fun W' hW => patAdd_c w W' _ _ _ _ _ _ x (pn 3 1 0 (withinI (n.tdiv 64) 4)) 0 false (HP.out.to hW) (by rw [HLO.out]; omega) (by rw [HLO.out]; omega) (by rw [HLP.out]; omega) (by rw [HLT.out]; omega))
              have HO' := Lib.hid (HO.out.add (pn 3 1 0 (withinI (n.tdiv 64) 4)) 0 false)
              have HS' := Lib.hid (show (x.add (pn 3 1 0 (withinI (n.tdiv 64) 4)) 0 false).p.length + (x.add (pn 3 1 0 (withinI (n.tdiv 64) 4)) 0 false).o.length ≤ 24 by have h9 := PS.add_lens x (pn 3 1 0 (withinI (n.tdiv 64) 4)) (take := 0) false (by rw [HLO.out]; omega); rw [HLO.out, HLP.out] at h9; omega)
              have HN' := Lib.hid (show goPl l ⟨[], [], []⟩ = goPl (l.drop (i + 1)) (x.add (pn 3 1 0 (withinI (n.tdiv 64) 4)) 0 false) by rw [HNX.out]; congr 1; unfold stepPl; rw [if_neg (show ¬ (withinI n 16 < 4 ∧ 2 ≤ x.o.length) by rw [HK.out, HLO.out]; omega), if_neg (show ¬ (withinI n 16 < 6 ∧ 1 ≤ x.o.length ∧ x.st x.tb = false) by rw [HK.out, HLO.out]; omega), if_neg (by rw [HK.out]; omega), if_neg (by rw [HK.out]; omega), show manyN n = 1 by unfold manyN; rw [HK.out]; exact if_neg (by omega)])
              go_wp2_with (go_at_call 7; refine (within_c _ _ _ (by decide)).mono ?_; rintro e w3 ⟨rfl, rfl⟩; try rw [HK.out])
              go_quiet (fail)
              go_wp2_with (first | (go_at_call 7; refine (within_c _ _ _ (by decide)).mono ?_; rintro e w3 ⟨rfl, rfl⟩; try rw [HK.out]) | (go_at_call 38; refine (HA.out _ ?_).mono ?_; exact (Bel.refl _).drewN _; rintro e w4 ⟨rfl, vO', vP', vT', hp4⟩))
              go_roundw
              case rel => exact ⟨i + 1, _, x.add (pn 3 1 0 (withinI (n.tdiv 64) 4)) 0 false, vO', vP', vT', rfl, by omega, by go_num, hp4, HO'.out, HS'.out, HN'.out⟩
              case measure => simp [intOf]; omega
          · rcases (show K = 6 ∨ K = 7 ∨ (7 < K ∧ K ≤ 13) ∨ 13 < K by omega) with hk | hk | hk | hk
            · have d2 : decide (K < 2) = false := decide_eq_false (by omega)
              have e2 : (K == 2) = false := by simp; omega
              have e3 : (K == 3) = false := by simp; omega
              have d6 : decide (K < 6) = false := decide_eq_false (by omega)
              have e6 : (K == 6) = true := by simp; omega
              have e7 : (K == 7) = false := by simp; omega
              have d13 : decide (13 < K) = false := decide_eq_false (by omega)
              have HA := Lib.hid (show ∀ W', Bel W W' → Calls Tryz.prog 38 #[.agg #[.int .i64 1, .int .i64 0, .int .i64 0, .int .i64 0, .string { data := #[] }], .int .i64 0, .bool false, .pointer (some ⟨w.heap.size + 1, 0, none⟩), .pointer (some ⟨w.heap.size, 0, none⟩), .pointer (some ⟨w.heap.size + 1 + 1, 0, none⟩)] W' fun e w' => e = .returned (.tuple #[]) ∧ ∃ vO' vP' vT', PBox w w' (w.heap.size + 1) w.heap.size (w.heap.size + 2) vO' vP' vT' (x.add (pn 1 0 0 0) 0 false) from fun W' hW => patAdd_c w W' _ _ _ _ _ _ x (pn 1 0 0 0) 0 false (HP.out.to hW) (by rw [HLO.out]; omega) (by rw [HLO.out]; omega) (by rw [HLP.out]; omega) (by rw [HLT.out]; omega))
              have HO' := Lib.hid (HO.out.add (pn 1 0 0 0) 0 false)
              have HS' := Lib.hid (show (x.add (pn 1 0 0 0) 0 false).p.length + (x.add (pn 1 0 0 0) 0 false).o.length ≤ 24 by have h9 := PS.add_lens x (pn 1 0 0 0) (take := 0) false (by rw [HLO.out]; omega); rw [HLO.out, HLP.out] at h9; omega)
              have HN' := Lib.hid (show goPl l ⟨[], [], []⟩ = goPl (l.drop (i + 1)) (x.add (pn 1 0 0 0) 0 false) by rw [HNX.out]; congr 1; unfold stepPl; rw [if_neg (show ¬ (withinI n 16 < 4 ∧ 2 ≤ x.o.length) by rw [HK.out, HLO.out]; omega), if_neg (show ¬ (withinI n 16 < 6 ∧ 1 ≤ x.o.length ∧ x.st x.tb = false) by rw [HK.out, HLO.out]; omega), if_pos (by rw [HK.out]; exact hk)])
              go_wp2_with (go_at_call 7; refine (within_c _ _ _ (by decide)).mono ?_; rintro e w3 ⟨rfl, rfl⟩; try rw [HK.out])
              go_quiet (fail)
              go_wp2_with (first | (go_at_call 7; refine (within_c _ _ _ (by decide)).mono ?_; rintro e w3 ⟨rfl, rfl⟩; try rw [HK.out]) | (go_at_call 38; refine (HA.out _ ?_).mono ?_; exact (Bel.refl _).drewN _; rintro e w4 ⟨rfl, vO', vP', vT', hp4⟩))
              go_roundw
              case rel => exact ⟨i + 1, _, x.add (pn 1 0 0 0) 0 false, vO', vP', vT', rfl, by omega, by go_num, hp4, HO'.out, HS'.out, HN'.out⟩
              case measure => simp [intOf]; omega
            · have d2 : decide (K < 2) = false := decide_eq_false (by omega)
              have e2 : (K == 2) = false := by simp; omega
              have e3 : (K == 3) = false := by simp; omega
              have d6 : decide (K < 6) = false := decide_eq_false (by omega)
              have e6 : (K == 6) = false := by simp; omega
              have e7 : (K == 7) = true := by simp; omega
              have d13 : decide (13 < K) = false := decide_eq_false (by omega)
              have HA := Lib.hid (show ∀ W', Bel W W' → Calls Tryz.prog 38 #[.agg #[.int .i64 2, .int .i64 0, .int .i64 0, .int .i64 0, .string { data := #[] }], .int .i64 0, .bool false, .pointer (some ⟨w.heap.size + 1, 0, none⟩), .pointer (some ⟨w.heap.size, 0, none⟩), .pointer (some ⟨w.heap.size + 1 + 1, 0, none⟩)] W' fun e w' => e = .returned (.tuple #[]) ∧ ∃ vO' vP' vT', PBox w w' (w.heap.size + 1) w.heap.size (w.heap.size + 2) vO' vP' vT' (x.add (pn 2 0 0 0) 0 false) from fun W' hW => patAdd_c w W' _ _ _ _ _ _ x (pn 2 0 0 0) 0 false (HP.out.to hW) (by rw [HLO.out]; omega) (by rw [HLO.out]; omega) (by rw [HLP.out]; omega) (by rw [HLT.out]; omega))
              have HO' := Lib.hid (HO.out.add (pn 2 0 0 0) 0 false)
              have HS' := Lib.hid (show (x.add (pn 2 0 0 0) 0 false).p.length + (x.add (pn 2 0 0 0) 0 false).o.length ≤ 24 by have h9 := PS.add_lens x (pn 2 0 0 0) (take := 0) false (by rw [HLO.out]; omega); rw [HLO.out, HLP.out] at h9; omega)
              have HN' := Lib.hid (show goPl l ⟨[], [], []⟩ = goPl (l.drop (i + 1)) (x.add (pn 2 0 0 0) 0 false) by rw [HNX.out]; congr 1; unfold stepPl; rw [if_neg (show ¬ (withinI n 16 < 4 ∧ 2 ≤ x.o.length) by rw [HK.out, HLO.out]; omega), if_neg (show ¬ (withinI n 16 < 6 ∧ 1 ≤ x.o.length ∧ x.st x.tb = false) by rw [HK.out, HLO.out]; omega), if_neg (by rw [HK.out]; omega), if_pos (by rw [HK.out]; exact hk)])
              go_wp2_with (go_at_call 7; refine (within_c _ _ _ (by decide)).mono ?_; rintro e w3 ⟨rfl, rfl⟩; try rw [HK.out])
              go_quiet (fail)
              go_wp2_with (first | (go_at_call 7; refine (within_c _ _ _ (by decide)).mono ?_; rintro e w3 ⟨rfl, rfl⟩; try rw [HK.out]) | (go_at_call 38; refine (HA.out _ ?_).mono ?_; exact (Bel.refl _).drewN _; rintro e w4 ⟨rfl, vO', vP', vT', hp4⟩))
              go_roundw
              case rel => exact ⟨i + 1, _, x.add (pn 2 0 0 0) 0 false, vO', vP', vT', rfl, by omega, by go_num, hp4, HO'.out, HS'.out, HN'.out⟩
              case measure => simp [intOf]; omega
            · have d2 : decide (K < 2) = false := decide_eq_false (by omega)
              have e2 : (K == 2) = false := by simp; omega
              have e3 : (K == 3) = false := by simp; omega
              have d6 : decide (K < 6) = false := decide_eq_false (by omega)
              have e6 : (K == 6) = false := by simp; omega
              have e7 : (K == 7) = false := by simp; omega
              have d13 : decide (13 < K) = false := decide_eq_false (by omega)
              have HA := Lib.hid (show ∀ W', Bel W W' → Calls Tryz.prog 38 #[.agg #[.int .i64 3, .int .i64 1, .int .i64 0, .int .i64 (withinI (n.tdiv 64) 4), .string { data := #[] }], .int .i64 0, .bool false, .pointer (some ⟨w.heap.size + 1, 0, none⟩), .pointer (some ⟨w.heap.size, 0, none⟩), .pointer (some ⟨w.heap.size + 1 + 1, 0, none⟩)] W' fun e w' => e = .returned (.tuple #[]) ∧ ∃ vO' vP' vT', PBox w w' (w.heap.size + 1) w.heap.size (w.heap.size + 2) vO' vP' vT' (x.add (pn 3 1 0 (withinI (n.tdiv 64) 4)) 0 false) from fun W' hW => patAdd_c w W' _ _ _ _ _ _ x (pn 3 1 0 (withinI (n.tdiv 64) 4)) 0 false (HP.out.to hW) (by rw [HLO.out]; omega) (by rw [HLO.out]; omega) (by rw [HLP.out]; omega) (by rw [HLT.out]; omega))
              have HO' := Lib.hid (HO.out.add (pn 3 1 0 (withinI (n.tdiv 64) 4)) 0 false)
              have HS' := Lib.hid (show (x.add (pn 3 1 0 (withinI (n.tdiv 64) 4)) 0 false).p.length + (x.add (pn 3 1 0 (withinI (n.tdiv 64) 4)) 0 false).o.length ≤ 24 by have h9 := PS.add_lens x (pn 3 1 0 (withinI (n.tdiv 64) 4)) (take := 0) false (by rw [HLO.out]; omega); rw [HLO.out, HLP.out] at h9; omega)
              have HN' := Lib.hid (show goPl l ⟨[], [], []⟩ = goPl (l.drop (i + 1)) (x.add (pn 3 1 0 (withinI (n.tdiv 64) 4)) 0 false) by rw [HNX.out]; congr 1; unfold stepPl; rw [if_neg (show ¬ (withinI n 16 < 4 ∧ 2 ≤ x.o.length) by rw [HK.out, HLO.out]; omega), if_neg (show ¬ (withinI n 16 < 6 ∧ 1 ≤ x.o.length ∧ x.st x.tb = false) by rw [HK.out, HLO.out]; omega), if_neg (by rw [HK.out]; omega), if_neg (by rw [HK.out]; omega), show manyN n = 1 by unfold manyN; rw [HK.out]; exact if_neg (by omega)])
              go_wp2_with (go_at_call 7; refine (within_c _ _ _ (by decide)).mono ?_; rintro e w3 ⟨rfl, rfl⟩; try rw [HK.out])
              go_quiet (fail)
              go_wp2_with (first | (go_at_call 7; refine (within_c _ _ _ (by decide)).mono ?_; rintro e w3 ⟨rfl, rfl⟩; try rw [HK.out]) | (go_at_call 38; refine (HA.out _ ?_).mono ?_; exact (Bel.refl _).drewN _; rintro e w4 ⟨rfl, vO', vP', vT', hp4⟩))
              go_roundw
              case rel => exact ⟨i + 1, _, x.add (pn 3 1 0 (withinI (n.tdiv 64) 4)) 0 false, vO', vP', vT', rfl, by omega, by go_num, hp4, HO'.out, HS'.out, HN'.out⟩
              case measure => simp [intOf]; omega
            · have d2 : decide (K < 2) = false := decide_eq_false (by omega)
              have e2 : (K == 2) = false := by simp; omega
              have e3 : (K == 3) = false := by simp; omega
              have d6 : decide (K < 6) = false := decide_eq_false (by omega)
              have e6 : (K == 6) = false := by simp; omega
              have e7 : (K == 7) = false := by simp; omega
              have d13 : decide (13 < K) = true := decide_eq_true (by omega)
              have hw5 := withinI_range (v := n.tdiv 16) (n := 5) (by omega)
              have HA := Lib.hid (show ∀ W', Bel W W' → Calls Tryz.prog 38 #[.agg #[.int .i64 3, .int .i64 (1 + withinI (n.tdiv 16) 5), .int .i64 0, .int .i64 (withinI (n.tdiv 64) 4), .string { data := #[] }], .int .i64 0, .bool false, .pointer (some ⟨w.heap.size + 1, 0, none⟩), .pointer (some ⟨w.heap.size, 0, none⟩), .pointer (some ⟨w.heap.size + 1 + 1, 0, none⟩)] W' fun e w' => e = .returned (.tuple #[]) ∧ ∃ vO' vP' vT', PBox w w' (w.heap.size + 1) w.heap.size (w.heap.size + 2) vO' vP' vT' (x.add (pn 3 (1 + withinI (n.tdiv 16) 5) 0 (withinI (n.tdiv 64) 4)) 0 false) from fun W' hW => patAdd_c w W' _ _ _ _ _ _ x (pn 3 (1 + withinI (n.tdiv 16) 5) 0 (withinI (n.tdiv 64) 4)) 0 false (HP.out.to hW) (by rw [HLO.out]; omega) (by rw [HLO.out]; omega) (by rw [HLP.out]; omega) (by rw [HLT.out]; omega))
              have HO' := Lib.hid (HO.out.add (pn 3 (1 + withinI (n.tdiv 16) 5) 0 (withinI (n.tdiv 64) 4)) 0 false)
              have HS' := Lib.hid (show (x.add (pn 3 (1 + withinI (n.tdiv 16) 5) 0 (withinI (n.tdiv 64) 4)) 0 false).p.length + (x.add (pn 3 (1 + withinI (n.tdiv 16) 5) 0 (withinI (n.tdiv 64) 4)) 0 false).o.length ≤ 24 by have h9 := PS.add_lens x (pn 3 (1 + withinI (n.tdiv 16) 5) 0 (withinI (n.tdiv 64) 4)) (take := 0) false (by rw [HLO.out]; omega); rw [HLO.out, HLP.out] at h9; omega)
              have HN' := Lib.hid (show goPl l ⟨[], [], []⟩ = goPl (l.drop (i + 1)) (x.add (pn 3 (1 + withinI (n.tdiv 16) 5) 0 (withinI (n.tdiv 64) 4)) 0 false) by rw [HNX.out]; congr 1; unfold stepPl; rw [if_neg (show ¬ (withinI n 16 < 4 ∧ 2 ≤ x.o.length) by rw [HK.out, HLO.out]; omega), if_neg (show ¬ (withinI n 16 < 6 ∧ 1 ≤ x.o.length ∧ x.st x.tb = false) by rw [HK.out, HLO.out]; omega), if_neg (by rw [HK.out]; omega), if_neg (by rw [HK.out]; omega), show manyN n = (1 + withinI (n.tdiv 16) 5) by unfold manyN; rw [HK.out]; exact if_pos (by omega)])
              go_wp2_with (go_at_call 7; refine (within_c _ _ _ (by decide)).mono ?_; rintro e w3 ⟨rfl, rfl⟩; try rw [HK.out])
              go_quiet (fail)
              go_wp2_with (first | (go_at_call 7; refine (within_c _ _ _ (by decide)).mono ?_; rintro e w3 ⟨rfl, rfl⟩; try rw [HK.out]) | (go_at_call 38; refine (HA.out _ ?_).mono ?_; exact (Bel.refl _).drewN _; rintro e w4 ⟨rfl, vO', vP', vT', hp4⟩))
              go_roundw
              case rel => exact ⟨i + 1, _, x.add (pn 3 (1 + withinI (n.tdiv 16) 5) 0 (withinI (n.tdiv 64) 4)) 0 false, vO', vP', vT', rfl, by omega, by go_num, hp4, HO'.out, HS'.out, HN'.out⟩
              case measure => simp [intOf]; omega
    · obtain rfl : i = l.length := by omega
      have HE := Lib.hid (show goPl l ⟨[], [], []⟩ = x by rw [HG.out, List.drop_length]; rfl)
      clear hbel
      go_upto_region 28 with fail
      rename_i K1 hK1 K hK
      exact playPat_tail S _ c l w W H.out x _ _ _ HP.out HO.out (by rw [HLP.out, HLO.out]; exact hs) HE.out _ rfl _ _ hK1 hK
end Go.Proofs.YtmdcgekiiopohaaGreat

/- Walks: the small sets that the statements make of numbers. -/
namespace Go.Cb
open Go.RowKit
/-- The set that numbers make. -/
def playSem (l : List Int) : SemS := (normS (some (3000, 0, false)) (playPat (l.take 9)) 4).2.1.take 6
theorem rightS_take {s : SemS} (h : rightS s = true) (n : Nat) : rightS (s.take n) = true := by
  have h1 := rightS_iff.1 h
  exact rightS_iff.2 ⟨fun p hp => h1.each p (List.mem_of_mem_take hp), h1.up.sublist (List.take_sublist _ _)⟩
theorem SetOk.take {tags E : Int} {N M : Nat} {b : Bool} {s : SemS} (h : SetOk tags E N M b s) (n : Nat) : SetOk tags E N M b (s.take n) :=
  ⟨rightS_take h.right n, Nat.le_trans (by rw [List.length_take]; omega) h.size, fun x hx => h.per x (List.mem_of_mem_take hx), fun hb x hx => h.pts hb x (List.mem_of_mem_take hx), fun x hx => h.sm x (List.mem_of_mem_take hx)⟩
theorem playNorm_fit (l : List Int) (st : MSt) (h : chkP (playPat (l.take 9)) 4 = true) : NormFit (playPat (l.take 9)) [] st := norm_fit h (by decide) st
/-- What it is like: a right one of at most 6, of 4 tags, its numbers at most 120, at most 8 periods each. -/
theorem playSem_both (l : List Int) : SetOk 4 120 24 8 true (playSem l) ∧ PerLe 20 (playSem l) := by
  have key : SetOk 4 120 24 8 true (normS (some (3000, 0, false)) (playPat (l.take 9)) 4).2.1 ∧ PerLe 20 (normS (some (3000, 0, false)) (playPat (l.take 9)) 4).2.1 := by
    unfold normS
    split
    · rename_i hc
      obtain ⟨law, _, _⟩ := playPat_law (l.take 9)
      have hl : (l.take 9).length ≤ 9 := by rw [List.length_take]; omega
      obtain ⟨_, _, h3, h4⟩ := norm_ok (e := 5) hc.2.2 (by decide) 9 (by decide) (by decide) (by decide) (fun j x hj h6 => by have := law.star j x hj h6; omega) (fun x hx hk => law.tag x hx hk) (some (3000, 0, false))
      by_cases hz : (normF (playPat (l.take 9)) [] (some (3000, 0, false))).2.2 = 0
      · exact h3 hz
      · rw [h4 hz]
        exact ⟨SetOk.nil _ _ _ _ _, PerLe.nil _⟩
    · exact ⟨SetOk.nil _ _ _ _ _, PerLe.nil _⟩
  exact ⟨SetOk.take key.1 6, fun x hx => key.2 x (List.mem_of_mem_take hx)⟩
theorem playSem_ok (l : List Int) : SetOk 4 120 24 8 true (playSem l) ∧ (playSem l).length ≤ 6 := ⟨(playSem_both l).1, by unfold playSem; rw [List.length_take]; omega⟩
theorem playSem_per (l : List Int) : PerLe 20 (playSem l) := (playSem_both l).2
theorem DSem.take {t : TypeId} {b : Nat} {w : World} {A : Option Addr} {c n : Nat} {s : SemS} (h : DSem t b w (.slice A n c) s) (k : Nat) : DSem t b w (.slice A (s.take k).length c) (s.take k) := by
  obtain ⟨A', c', e, r⟩ := h
  injection e with e1 _ e3
  subst e1 e3
  exact ⟨A, c, rfl, r.take k⟩
end Go.Cb
namespace Go.Proofs.YtmdcgekiiopohaaGreat
open Go.RowKit Go.Cb Go.Sort
set_option maxRecDepth 100000 in
set_option maxHeartbeats 8000000 in
theorem playSemi_c (S : Nat → Prop) (A : Option Addr) (c : Nat) (l : List Int) (w : World) (h : Rd intT w S A c l) (hr : ∀ x ∈ l, -9223372036854775808 ≤ x ∧ x ≤ 9223372036854775807) (n : Nat) (hn : n = l.length) :
    Calls Tryz.prog 4 #[.slice A n c] w fun e w' => ∃ v, e = .returned v ∧ DSem 30 w.heap.size w' v (playSem l) ∧ Bel w w' := by
  subst hn
  have HM := Lib.hid (newMeter_s2 3000 w (by decide))
  have HX := Lib.hid (fun x (hx : x ∈ l.take 9) => hr x (List.mem_of_mem_take hx))
  have HL9 := Lib.hid (List.length_take_le 9 l)
  have HU0 := Lib.hid (show playSem l = (normS (some (3000, 0, false)) (playPat (l.take 9)) 4).2.1.take 6 from rfl)
  have HFIT := Lib.hid (fun hc => playNorm_fit l (some (3000, 0, false)) hc)
  have HC0 := Lib.hid (fun W (hW : Bel w W) => cutIntS_c S A c l 9 W (h.to hW) _ rfl (Nat.le_trans (Nat.mul_le_mul_right _ (List.length_take_le 9 l)) (by decide)) 9 rfl)
  clear h hr
  generalize l.take 9 = l9 at *
  go_enter Tryz.func4, Tryz.ntmps4
  go_wp2_with fail
  refine HM.out.mono ?_
  rintro e w1 ⟨g, rfl, hg, hm, hb1⟩
  have hgl := hm.lt
  have HM1 := Lib.hid (show Go.Cb.Met w1 82 g 3000 0 false from hm)
  have HC := Lib.hid (HC0.out w1 hb1)
  clear hm
  go_wp2_with fail
  refine HC.out.mono ?_
  rintro e w2 ⟨v2, rfl, ho2, hb2⟩
  obtain ⟨A2, c2, rfl, hr2⟩ := ho2.rdGe
  have HP := Lib.hid (playPat_c _ A2 c2 l9 w2 hr2 HX.out _ rfl)
  clear ho2 hr2 HC HM
  go_wp2_with fail
  refine HP.out.mono ?_
  rintro e w3 ⟨A3, c3, rfl, hr3, hb3⟩
  have hs2 := hb2.size
  have hs1 := hb1.size
  have HM3 := Lib.hid (show MetO w3 82 (.pointer (some ⟨g, 0, none⟩)) (some g) (some (3000, 0, false)) from ⟨g, rfl, rfl, (HM1.out.to hb2).to hb3, by decide, by decide, by decide⟩)
  have HN := Lib.hid (refNormS_c _ _ _ _ A3 c3 (playPat l9) 4 w3 HM3.out hr3 (fun k hk e => by have e2 : k = g := Option.some.inj e; unfold Ge at hk; omega) _ rfl HFIT.out)
  clear hr3 HP HM3 HM1
  go_wp2_with fail
  refine HN.out.mono ?_
  rintro e w4 ⟨v4, rfl, hd, _, hg4⟩
  obtain ⟨A4, c4, rfl, hr4⟩ := hd
  have hb4 : Bel w w4 := ((hb1.trans hb2).trans hb3).grown hg4 (fun k hk => by have e2 : g = k := Option.some.inj hk; omega)
  have hs3 := hb3.size
  have hD : DSem 30 w.heap.size w4 (.slice A4 (normS (some (3000, 0, false)) (playPat l9) 4).2.1.length c4) (normS (some (3000, 0, false)) (playPat l9) 4).2.1 := ⟨A4, c4, rfl, hr4.mono (fun k hk => by unfold Ge at *; omega)⟩
  have hcap := hr4.cap
  have HD := Lib.hid hD
  have HU := HU0
  clear HU0 HFIT HC0
  generalize (normS (some (3000, 0, false)) (playPat l9) 4).2.1 = s at *
  clear hr4 hg4 HN hD
  by_cases h6 : 6 < s.length
  · have d6 : decide ((6 : Int) < (s.length : Int)) = true := decide_eq_true (by omega)
    have HT := Lib.hid (show (s.take 6).length = 6 by rw [List.length_take]; omega)
    go_wp2
    go_ret
    rw [HU.out]
    have := HD.out.take 6
    rw [HT.out] at this
    exact ⟨_, rfl, this, hb4⟩
  · have d6 : decide ((6 : Int) < (s.length : Int)) = false := decide_eq_false (by omega)
    go_wp2
    go_ret
    rw [HU.out, List.take_of_length_le (by omega)]
    exact ⟨_, rfl, HD.out, hb4⟩
end Go.Proofs.YtmdcgekiiopohaaGreat

/- Walks: of no meter; what the statements of chapter 7 wake. -/
namespace Go.Proofs.YtmdcgekiiopohaaGreat
open Go.RowKit Go.Cb Go.Sort
theorem bel_none {w w' : World} (h : w.grownBy w' none) : Bel w w' := (Bel.refl w).grown h (fun k hk => by cases hk)
end Go.Proofs.YtmdcgekiiopohaaGreat

/- The library: worlds whose numbers alone have turned, in blocks from s on; blocks may have been made. -/
namespace Go.Cb
open Go.RowKit
structure Shp (s : Nat) (w w' : World) : Prop where
  os : w'.os = w.os
  tape : w'.tape = w.tape
  output : w'.output = w.output
  size : w.heap.size ≤ w'.heap.size
  block : ∀ k, k < s → w'.heap[k]? = w.heap[k]?
  cells : ∀ a v, w.cell? a = some v → (∀ i, v ≠ .int .i64 i) → w'.cell? a = some v
  ints : ∀ a i, w.cell? a = some (.int .i64 i) → ∃ j, w'.cell? a = some (.int .i64 j)
  frz : ∀ (a : Addr) v, w.cell? a = some v → w'.frozen? a = w.frozen? a
section
variable {s : Nat} {w w' a b c : World}
theorem Shp.refl (s : Nat) (w : World) : Shp s w w := ⟨rfl, rfl, rfl, Nat.le_refl _, fun _ _ => rfl, fun _ _ h _ => h, fun _ i h => ⟨i, h⟩, fun _ _ _ => rfl⟩
theorem Shp.has (h : Shp s a b) {x : Addr} {v : Value} (hx : a.cell? x = some v) : ∃ u, b.cell? x = some u := by
  by_cases e : ∃ i, v = .int .i64 i
  · obtain ⟨i, rfl⟩ := e
    obtain ⟨j, hj⟩ := h.ints x i hx
    exact ⟨_, hj⟩
  · exact ⟨v, h.cells x v hx (fun i e3 => e ⟨i, e3⟩)⟩
theorem Shp.trans (h : Shp s a b) (k : Shp s b c) : Shp s a c :=
  ⟨k.os.trans h.os, k.tape.trans h.tape, k.output.trans h.output, Nat.le_trans h.size k.size, fun i hi => (k.block i hi).trans (h.block i hi), fun x v hx hn => k.cells x v (h.cells x v hx hn) hn,
    fun x i hx => let ⟨j, hj⟩ := h.ints x i hx; k.ints x j hj, fun x v hx => by
      obtain ⟨u, hu⟩ := h.has hx
      exact (k.frz x u hu).trans (h.frz x v hx)⟩
theorem Shp.of (h : Bel a b) (hs : s ≤ a.heap.size) : Shp s a b :=
  ⟨h.out.os, h.out.tape, h.out.output, h.size, fun k hk => h.block (by omega), fun x v hx _ => cell_keep hx (h.block (World.block_lt_of_cell? a x hx)), fun x i hx => ⟨i, cell_keep hx (h.block (World.block_lt_of_cell? a x hx))⟩,
    fun x v hx => World.frozen?_of_block (w := a) (h.block (World.block_lt_of_cell? a x hx))⟩
theorem Shp.set {g i : Nat} {n m : Int} (hg : s ≤ g) (hc : w.cell? ⟨g, i, none⟩ = some (.int .i64 n)) : Shp s w (w.setCell ⟨g, i, none⟩ (.int .i64 m)) :=
  ⟨rfl, rfl, rfl, by simp [World.setCell], fun k hk => Below.heap_setCell w ⟨g, i, none⟩ _ k (by simp only; omega), fun x v hx hn => by
    by_cases e : (⟨g, i, none⟩ : Addr) = x
    · subst e
      rw [hc] at hx
      injection hx with hx
      exact absurd hx.symm (hn n)
    · rw [World.cell?_setCell_other _ _ _ _ e]; exact hx,
    fun x j hx => by
      by_cases e : (⟨g, i, none⟩ : Addr) = x
      · subst e
        exact ⟨m, World.cell?_setCell_same _ _ _ hx⟩
      · exact ⟨j, by rw [World.cell?_setCell_other _ _ _ _ e]; exact hx⟩,
    fun x v hx => World.frozen?_setCell _ _ _ _⟩
/-- A row of words that was, in a world whose numbers alone have turned: it has as many words, as long as they were, and they may be written to. -/
theorem Shp.slot {A : Option Addr} {cp : Nat} {xs : List Int} (h : Shp s w w') (hr : RdW w (Ge s) A cp xs) {i : Nat} (hi : i < xs.length) : ∃ g j, A = some ⟨g, 0, none⟩ ∧ s ≤ g ∧ w'.cell? ⟨g, i, none⟩ = some (.int .i64 j) ∧ w'.frozen? ⟨g, i, none⟩ = false := by
  obtain ⟨g, rfl, hf⟩ := hr.wr i hi
  obtain ⟨ad, cs, e, hS, hcs, hc⟩ := hr.rd.2.2 i _ (List.getElem?_eq_getElem hi)
  injection e with e
  subst e
  have h2 : cs = [.int .i64 xs[i]] := hcs
  have h3 := hc 0 (.int .i64 xs[i]) (by rw [h2]; rfl)
  rw [add_plain, show i * intT.sz + 0 = i by simp [intT, scalar]] at h3
  obtain ⟨j, hj⟩ := h.ints _ _ h3
  exact ⟨g, j, rfl, hS, hj, (h.frz _ _ h3).trans hf⟩
theorem Rd.rowW {S : Nat → Prop} {A : Option Addr} {cp : Nat} {xs : List (List Int)} (h : Rd wbT w S A cp xs) {k : Nat} (hk : k < xs.length) :
    ∃ ad B cb, A = some ad ∧ w.cell? (ad.add k) = some (.slice B xs[k].length cb) ∧ RdW w S B cb xs[k] := by
  obtain ⟨ad, cs, e, ⟨B, cb, he, hr⟩, hc⟩ := h.get (List.getElem?_eq_getElem hk)
  refine ⟨ad, B, cb, e, ?_, hr⟩
  have := hc 0 (.slice B xs[k].length cb) (by rw [he]; rfl)
  simpa [wbT] using this
theorem Rd.low {α : Type} {d : Ty α} {A : Option Addr} {cp : Nat} {xs : List α} (h : Rd d w (fun k => k < s) A cp xs) (hs : Shp s w w') : Rd d w' (fun k => k < s) A cp xs := h.step' (fun k hk => hs.block k hk)
theorem Bel.shp (h : Bel a b) (hs : Shp s b c) (ha : a.heap.size ≤ s) : Bel a c :=
  h.heap hs.os hs.tape hs.output hs.size (fun k hk => hs.block k (by omega))
theorem Box.low {t : TypeId} {g : Nat} {x y : Value} (h : Box w t g x y) (hs : Shp s w w') (hg : g < s) : Box w' t g x y := (hs.block g hg).trans h
end
end Go.Cb
