/- Walks: one letter more, the document's. -/
import Derived.Test.YtbfbhacdllhddaaAut10
set_option linter.unusedVariables false
set_option linter.unusedSimpArgs false
set_option linter.all false
namespace Go.Proofs.Ytbfbhacdllhddaa
open Go.RowKit Go.Cb Go.Sort
set_option maxRecDepth 100000 in
set_option maxHeartbeats 16000000 in
theorem refNext_c (mv : Value) (mb : Option Nat) (st : MSt) (S S' : Nat → Prop) (A B : Option Addr) (ca cb : Nat) (s : SemS) (l : List Itm) (letter : Int) (w : World) (hm : MetO w 58 mv mb st) (h : Rd linT w S A ca s) (hl : Rd itemT w S' B cb l) (hS : ∀ k, S k → some k ≠ mb) (hS' : ∀ k, S' k → some k ≠ mb)
    (n m : Nat) (hn : n = s.length) (hm2 : m = l.length) (hp : ∀ y ∈ s, y.2.length ≤ 8) (hlen : l.length * 256 ≤ 4398046511103) (h0 : 0 ≤ letter ∧ letter ≤ 18446744073709551615) :
    Calls Try.prog 13 #[mv, .slice A n ca, .slice B m cb, .int .u64 letter] w fun e w' => ∃ v, e = .returned (.tuple #[v, .int .i64 (nextS st s l letter).2.2]) ∧ DItm w.heap.size w' v (nextS st s l letter).2.1 ∧ MetO w' 58 mv mb (nextS st s l letter).1 ∧ w.grownBy w' mb := by
  subst hn hm2
  have lms := h.lenMax
  have HMB := Lib.hid (hm.at_)
  have HM := Lib.hid hm
  have HS := Lib.hid (show ∀ W, w.grownBy W mb → Rd linT W (Low w mb) A ca s from fun W hg => low_of h hS hg)
  have HL := Lib.hid (show ∀ W, w.grownBy W mb → Rd itemT W (Low w mb) B cb l from fun W hg => low_of hl hS' hg)
  have KR := Lib.hid (refRightItems_c _ _ _ _ _ _ _ _ _ h hl _ _ rfl rfl)
  have HP := Lib.hid hp
  clear hm h hl hS hS' hp
  cases hr : rightI s l with
  | false =>
    have Hu := Lib.hid (nextS_no (st := st) (letter := letter) hr)
    rw [hr] at KR
    clear hr
    go_enter Try.func13, Try.ntmps13
    go_wp2_with fail
    refine KR.out.mono ?_
    rintro e w1 ⟨rfl, hb1⟩
    go_wp2
    go_ret2
    rw [Hu.out]
    exact ⟨_, rfl, DItm.nil _ _, HM.out.grown hb1, bel_grown hb1⟩
  | true =>
    have HAT := Lib.hid (fun k x (hx : l[k]? = some x) => rightI_at hr hx)
    have HRS := Lib.hid (rightI_set hr)
    have HNB := Lib.hid (fun st' acc e (h2 : itemsF s letter l st [] = (st', acc, e)) he => nextS_bad (st := st) (letter := letter) hr h2 he)
    have HNO := Lib.hid (fun st' acc (h2 : itemsF s letter l st [] = (st', acc, 0)) => nextS_ok (st := st) (letter := letter) hr h2)
    rw [hr] at KR
    clear hr
    go_enter Try.func13, Try.ntmps13
    go_wp2_with fail
    refine KR.out.mono ?_
    rintro e w1 ⟨rfl, hb1⟩
    have HM1 := Lib.hid (HM.out.grown hb1)
    have HG1 := Lib.hid (bel_grown (row := mb) hb1)
    have hs1 := hb1.size
    clear hb1 KR
    go_wp2
    go_loopw [10, 25] (fun v10 v24 wr => ∃ (k : Nat) (W : World) (AO : Option Addr) (cO : Nat) (acc : List Itm) (st' : MSt) (out : List Itm), W = wr ∧ k ≤ l.length ∧ v24 = .int .i64 k ∧ v10 = .slice AO out.length cO ∧ Hid (out = acc.foldl (putO cmpItem) []) ∧ Hid (acc.length ≤ k * 256) ∧ Hid (itemsF s letter l st [] = itemsF s letter (l.drop k) st' acc) ∧ Hid (∀ y ∈ acc, rightB y.2 = true) ∧
        Own itemT 76 W w.heap.size (Ge w.heap.size) (.slice AO out.length cO) out ∧ Hid (MetO W 58 mv mb st') ∧ w.grownBy W mb) (fun _ v24 _ => l.length - (intOf v24).toNat)
    case atStart => exact ⟨0, _, none, 0, [], st, [], rfl, Nat.zero_le _, rfl, rfl, rfl, (Nat.zero_le _ : 0 ≤ 0 * 256), rfl, (fun y hy => by simp at hy : ∀ y ∈ ([] : List Itm), rightB y.2 = true), Own.nil _ _ _ _ _, HM1.out, HG1.out⟩
    case round =>
      clear HM1 HG1 hs1
      obtain ⟨k, W, AO, cO, acc, st', out, rfl, hk, rfl, rfl, HFO, HAL, HF, HAR, hO, HMW, hgW⟩ := hrel
      by_cases hlt : k < l.length
      · obtain ⟨ad2, Bx, cx, rfl, y0, y1, hrx⟩ := item_rd (HL.out W hgW) hlt
        obtain ⟨⟨jx, b⟩, hx⟩ : ∃ x, l[k] = x := ⟨_, rfl⟩
        have hx? : l[k]? = some (jx, b) := by rw [List.getElem?_eq_getElem hlt, hx]
        obtain ⟨j, hj, hjs, hrb⟩ := HAT.out k _ hx?
        dsimp only at hj hrb
        subst hj
        rw [hx] at y0 y1 hrx
        dsimp only at y0 y1 hrx
        obtain ⟨ad, A0, c0, A1, c1, rfl, x0, x1, _, hps⟩ := (HS.out W hgW).lrow hjs
        obtain ⟨⟨sb, ps⟩, hse⟩ : ∃ y, s[j] = y := ⟨_, rfl⟩
        have hgd : (s.getD ((j : Int)).toNat ([], [])).2 = ps := by rw [Int.toNat_natCast, getDs_of hjs, hse]
        have hp8 : ps.length ≤ 8 := by have := HP.out _ (List.getElem_mem hjs); rw [hse] at this; exact this
        have hpr : ∀ p ∈ ps, rightB p = true := fun p hp => by
          have h9 := rightS_each HRS.out (List.getElem_mem hjs)
          rw [hse] at h9
          exact ((rightL_iff.1 h9).2.each p hp).2
        rw [hse] at x0 x1 hps
        dsimp only at x0 x1 hps
        have HPR := Lib.hid hpr
        have HRB := Lib.hid hrb
        have HFA := Lib.hid (HF.out.trans (itemsF_at hx?))
        have HW := Lib.hid (fun acc' (r : List Itm) (h : (spendM st' ((2 ^ ps.length : Nat) : Int)).2 = false) => itemsF_work (s := s) (letter := letter) (x := ((j : Int), b)) (r := r) (acc := acc') hgd (by omega) h)
        have HBD := Lib.hid (fun acc' (r : List Itm) (h : (spendM st' ((2 ^ ps.length : Nat) : Int)).2 = true) h2 => itemsF_bad (s := s) (letter := letter) (x := ((j : Int), b)) (r := r) (acc := acc') hgd (by omega) h h2)
        have HNX := Lib.hid (fun acc' acc2 (r : List Itm) (h : (spendM st' ((2 ^ ps.length : Nat) : Int)).2 = true) h2 => itemsF_next (s := s) (letter := letter) (x := ((j : Int), b)) (r := r) (acc := acc') (acc' := acc2) hgd (by omega) h h2)
        have HX := Lib.hid hx?
        have hal : Bel W (W.alloc (.cells #[.int .i64 j, .slice Bx b.length cx] 76)) := (Bel.refl _).alloc _
        have X := Box.new W 76 (.int .i64 j) (.slice Bx b.length cx)
        obtain ⟨z0, z1, _, _⟩ := X.cells
        have xa1 := cell_keep x1 (hal.block (World.block_lt_of_cell? _ _ x1))
        have HO := Lib.hid (hO.to hal)
        have HG2 := Lib.hid (grown_trans hgW (bel_grown (row := mb) hal))
        have HM2 := Lib.hid (HMW.out.grown hal)
        have HRX := Lib.hid (fun W' (h : w.grownBy W' mb) => low_row hrx hgW h)
        have HPS := Lib.hid (fun W' (h : w.grownBy W' mb) => low_row hps hgW h)
        have pw := pow_8 hp8
        have hsW := hgW.size
        have hdg : decide (((ps.length : Nat) : Int) > 20) = false := decide_eq_false (by omega)
        obtain ⟨P, hP⟩ : ∃ P : Nat, 2 ^ ps.length = P := ⟨_, rfl⟩
        have hwr : wrap64 ((2 : Int) ^ ps.length) = (P : Int) := by
          rw [← hP]
          have : ((2 ^ ps.length : Nat) : Int) = (2 : Int) ^ ps.length := by push_cast; rfl
          rw [← this]
          unfold wrap64
          omega
        rw [hP] at pw HW HBD HNX
        have HOT := Lib.hid (fun g (hg : (Value.slice AO out.length cO).ownBlock = some g) => (show g ≠ W.heap.size from fun e => by have := hO.lt hg; omega))
        have HXB := Lib.hid X
        have hTG : w.heap.size ≤ W.heap.size := hsW
        clear hx hx? hrb hse hgd hpr hO hrx hps HMW hgW x0 x1 hP X
        go_wp2_with fail
        refine (spendM_s2 mv mb st' P _ HM2.out).mono ?_
        rintro e w2 ⟨rfl, hm2, hg2, hz2⟩
        have HO2 := Lib.hid (own_spent HO.out hg2 HMB.out)
        have HX2 := Lib.hid (show Go.Cb.Box w2 76 W.heap.size (.int .i64 j) (.slice Bx b.length cx) from (hg2.block W.heap.size HXB.out.lt (fun e => by have := HMB.out _ e.symm; omega)).trans HXB.out)
        have HG3 := Lib.hid (grown_trans HG2.out hg2)
        have HM3 := Lib.hid hm2
        have hs2 := hg2.size
        clear hg2 hm2 HO HG2 HM2 HXB hz2 z0 z1 xa1
        generalize W.heap.size = TG at *
        obtain ⟨st2, hst2⟩ : ∃ st2, (spendM st' (P : Int)).1 = st2 := ⟨_, rfl⟩
        rw [hst2] at HM3 HW HBD HNX
        clear hst2
        cases hsp : (spendM st' (P : Int)).2 with
        | false =>
          have HR := Lib.hid (HNB.out _ _ _ (HFA.out.trans (HW.out acc (l.drop (k + 1)) hsp)) (by decide))
          clear hsp HBD HNX
          go_wp2_with fail
          go_ret2
          rw [HR.out]
          exact ⟨_, rfl, DItm.nil _ _, HM3.out, HG3.out⟩
        | true =>
          have HBD2 := Lib.hid (fun h2 => HNB.out _ _ _ (HFA.out.trans (HBD.out acc (l.drop (k + 1)) hsp h2)) (by decide))
          have HNX2 := Lib.hid (fun acc2 h2 => HFA.out.trans (HNX.out acc acc2 (l.drop (k + 1)) hsp h2))
          clear hsp HBD HNX HW
          go_wp2
          go_loopw [10, 14] (fun v10 v46 wr => ∃ (q : Nat) (W3 : World) (AQ : Option Addr) (cQ : Nat) (acc2 out2 : List Itm), W3 = wr ∧ q ≤ P ∧ v46 = .int .i64 q ∧ v10 = .slice AQ out2.length cQ ∧ Hid (out2 = acc2.foldl (putO cmpItem) []) ∧ Hid (acc2.length ≤ k * 256 + q) ∧ Hid (stepsF j b ps letter (List.range P) acc = stepsF j b ps letter ((List.range P).drop q) acc2) ∧ Hid (∀ y ∈ acc2, rightB y.2 = true) ∧
              Own itemT 76 W3 w.heap.size (Ge w.heap.size) (.slice AQ out2.length cQ) out2 ∧ Go.Cb.Box W3 76 TG (.int .i64 j) (.slice Bx b.length cx) ∧ Hid (∀ g, (Value.slice AQ out2.length cQ).ownBlock = some g → g ≠ TG) ∧ Hid (MetO W3 58 mv mb st2) ∧ Hid (w.grownBy W3 mb)) (fun _ v46 _ => P - (intOf v46).toNat)
          case atStart => exact ⟨0, _, AO, cO, acc, out, rfl, Nat.zero_le _, rfl, rfl, HFO.out, HAL.out, rfl, HAR.out, HO2.out, HX2.out, HOT.out, HM3.out, HG3.out⟩
          case round =>
            clear HO2 HX2 HOT HM3 HG3 hs2
            obtain ⟨q, W3, AQ, cQ, acc2, out2, rfl, hq, rfl, rfl, HFO2, HAL2, HSF, HAR2, hO, hX, HOT, HM3, HG3⟩ := hrel
            by_cases hqP : q < P
            · obtain ⟨z0, z1, _, _⟩ := hX.cells
              have Q := chosen_c _ _ _ _ _ _ b ps q W3 (HRX.out W3 HG3.out) (HPS.out W3 HG3.out) _ _ rfl rfl HRB.out (by omega) (by omega)
              have h3s := HG3.out.size
              cases hpk : pickF q ps 0 b with
              | none =>
                rw [hpk] at Q
                simp only [Option.elim_none, Option.isSome_none] at Q
                have HR := Lib.hid (HBD2.out (HSF.out.trans (stepsF_none hqP hpk)))
                have HQ := Lib.hid Q
                clear Q hpk
                go_wp2_with fail
                refine HQ.out.mono ?_
                rintro e w4 ⟨v4, rfl, _, hb4⟩
                go_wp2
                go_ret2
                rw [HR.out]
                exact ⟨_, rfl, DItm.nil _ _, HM3.out.grown hb4, grown_trans HG3.out (bel_grown hb4)⟩
              | some hb =>
                have HST := Lib.hid (HSF.out.trans (stepsF_some (letter := letter) (acc := acc2) hqP hpk))
                have hhbr := pickF_right HRB.out hpk
                rw [hpk] at Q
                simp only [Option.elim_some, Option.isSome_some, id] at Q
                have HQ := Lib.hid Q
                have HHBR := Lib.hid hhbr
                clear Q hpk hhbr
                obtain ⟨z, hz⟩ : ∃ z, lettI hb 0 = z := ⟨_, rfl⟩
                obtain ⟨half, hhf⟩ : ∃ half, halfB hb = half := ⟨_, rfl⟩
                have HHR := Lib.hid (show rightB half = true by rw [← hhf]; exact halfB_right hb)
                rw [hhf, hz] at HST
                have HX9 := Lib.hid hX
                have HO9 := Lib.hid hO
                have HZ := Lib.hid hz
                have HHF := Lib.hid hhf
                clear hO hX hz hhf
                go_wp2_with fail
                refine HQ.out.mono ?_
                rintro e w4 ⟨v4, rfl, ⟨A4, c4, rfl, hr4⟩, hb4⟩
                have Q2 := halved_c _ _ _ hb w4 hr4 _ rfl HHBR.out
                rw [HZ.out, HHF.out] at Q2
                have HQ2 := Lib.hid Q2
                clear Q2 hr4 HQ
                clear z0 z1
                obtain ⟨z0, z1, _, _⟩ := (HX9.out.to hb4).cells
                go_wp2_with fail
                refine HQ2.out.mono ?_
                rintro e w5 ⟨v5, rfl, ⟨A5, c5, rfl, hr5⟩, hb5⟩
                have hb45 := hb4.trans hb5
                have hsz4 := hb4.size
                have hsz5 := hb45.size
                have HX5 := Lib.hid (HX9.out.to hb45)
                have HO5 := Lib.hid (HO9.out.to hb45)
                have HOL := Lib.hid (fun k hk => HO9.out.lt (k := k) hk)
                have HG5 := Lib.hid (grown_trans HG3.out (bel_grown (row := mb) hb45))
                have HM5 := Lib.hid (HM3.out.grown hb45)
                clear z0 z1
                obtain ⟨z0, z1, _, _⟩ := HX5.out.cells
                by_cases hzl : z = letter
                · have hze : (z == letter) = true := by simp [hzl]
                  have HST2 := Lib.hid (HST.out.trans (by rw [if_pos hzl]))
                  clear hzl HST HO9 HX9 HQ2
                  have hal2 := HAL2.out
                  have hlb : k * 256 + 256 ≤ l.length * 256 := by
                    rw [← Nat.succ_mul]; exact Nat.mul_le_mul_right _ hlt
                  have hacc : acc2.length + 1 ≤ 4398046511103 := by omega
                  have hol : out2.length ≤ acc2.length := by rw [HFO2.out]; have := foldl_putO_length (f := cmpItem) acc2 []; simpa using this
                  have Q3 := putItem_c w.heap.size _ cQ c5 AQ A5 out2 ((j : Int), half) w5 HO5.out rfl (by omega) _ rfl (hr5.mono (fun k hk => ⟨by unfold Ge at *; omega, fun e => by have := HOL.out k e.symm; unfold Ge at hk; omega⟩)) (by rw [HFO2.out]; exact (foldl_putO itemO GoodO.nil HAR2.out).1) HHR.out (by omega)
                  rw [show putO cmpItem out2 ((j : Int), half) = (acc2 ++ [((j : Int), half)]).foldl (putO cmpItem) [] by rw [List.foldl_append, ← HFO2.out]; rfl] at Q3
                  obtain ⟨out3, ho3⟩ : ∃ out3, (acc2 ++ [((j : Int), half)]).foldl (putO cmpItem) [] = out3 := ⟨_, rfl⟩
                  rw [ho3] at Q3
                  have HO3 := Lib.hid ho3.symm
                  have HQ3 := Lib.hid Q3
                  clear Q3 ho3 hr5 hal2 hol hacc
                  go_wp2_with fail
                  refine HQ3.out.mono ?_
                  rintro e w6 ⟨v6, rfl, ho6, hg6, hn6⟩
                  obtain ⟨A6, c6, rfl⟩ := ho6.form
                  have HX6 : Go.Cb.Box w6 76 TG (.int .i64 j) (.slice Bx b.length cx) := (hg6.block TG HX5.out.lt (fun e => HOT.out TG e.symm rfl)).trans HX5.out
                  have HM6 : MetO w6 58 mv mb st2 := HM5.out.row hg6 (fun g hg e => by have := HMB.out g hg; have := HO5.out.ge e; omega)
                  have HG6 := grown_own HG5.out hg6 (fun g e => HO5.out.ge e)
                  have HOT6 : ∀ g, (Value.slice A6 out3.length c6).ownBlock = some g → g ≠ TG := fun g hg => by
                    rcases hn6 with e | ⟨g9, e, he9⟩
                    · exact HOT.out g (e.symm.trans hg)
                    · have := HX5.out.lt
                      rw [hg] at e
                      injection e with e
                      omega
                  clear hn6 hg6 HQ3
                  go_wp2
                  go_roundw
                  case rel => exact ⟨q + 1, _, A6, c6, acc2 ++ [((j : Int), half)], out3, rfl, by omega, by go_num, rfl, HO3.out, (by have := HAL2.out; rw [List.length_append, List.length_singleton]; omega : (acc2 ++ [((j : Int), half)]).length ≤ k * 256 + (q + 1)), HST2.out, (fun y hy => by
                    rcases List.mem_append.1 hy with hy | hy
                    · exact HAR2.out y hy
                    · obtain rfl : y = ((j : Int), half) := by simpa using hy
                      exact HHR.out : ∀ y ∈ acc2 ++ [((j : Int), half)], rightB y.2 = true), ho6, HX6, HOT6, HM6, HG6⟩
                  case measure => simp [intOf]; omega
                · have hze : (z == letter) = false := by simp [hzl]
                  have HST2 := Lib.hid (HST.out.trans (by rw [if_neg hzl]))
                  clear hzl HST hr5 HQ2
                  go_wp2
                  go_roundw
                  case rel => exact ⟨q + 1, _, AQ, cQ, acc2, out2, rfl, by omega, by go_num, rfl, HFO2.out, (by have := HAL2.out; omega : acc2.length ≤ k * 256 + (q + 1)), HST2.out, HAR2.out, HO5.out, HX5.out, HOT.out, HM5.out, HG5.out⟩
                  case measure => simp [intOf]; omega
            · obtain rfl : q = P := by omega
              have HN := Lib.hid (HNX2.out acc2 (HSF.out.trans stepsF_end))
              have hal2 := HAL2.out
              go_wp2
              go_roundw
              case rel => exact ⟨k + 1, _, AQ, cQ, acc2, st2, out2, rfl, by omega, by go_num, rfl, HFO2.out, (by omega : acc2.length ≤ (k + 1) * 256), HN.out, HAR2.out, hO, HM3.out, HG3.out⟩
              case measure => simp [intOf]; omega
      · obtain rfl : k = l.length := by omega
        have HR := Lib.hid (HNO.out st' acc (HF.out.trans (by rw [List.drop_length]; rfl)))
        have HDI := Lib.hid (show DItm w.heap.size W _ _ from hO.rdGe)
        have HGW := Lib.hid hgW
        clear HNB HNO HF HAT hO hgW
        go_wp2
        go_ret2
        rw [HR.out, ← HFO.out]
        exact ⟨_, rfl, HDI.out, HMW.out, HGW.out⟩
end Go.Proofs.Ytbfbhacdllhddaa
