/- Walks: one letter more. -/
import Derived.Test.YtmdcgekiiopohaaGreatAut8
import Derived.Test.YtmdcgekiiopohaaGreatAut6
import Derived.Test.YtmdcgekiiopohaaGreatAut3
import Derived.Test.YtmdcgekiiopohaaGreatPureJ
import Derived.Test.YtmdcgekiiopohaaGreatMI
set_option linter.unusedVariables false
set_option linter.unusedSimpArgs false
set_option linter.all false
namespace Go.Cb
open Go.RowKit
section
variable {P : Program} {ops : Array Oper} {rest : List Oper} {o : Oper} {a : Act} {Q : Exit → Act → World → Prop}
/-- append(v, y) in a world in which a budget may have been spent: the row lies from b on; where the answer lies. -/
theorem wp_append1d {α : Type} (d : Ty α) {W : World} (b : Nat) (t e : TypeId) (z : Value) (bytes : Nat) (hgd : o.guard = none) (s x : Operand)
    (ho : o.op = .call { callee := .builtin .append, args := #[s, x], argTypes := #[t, t] })
    (ht : P.underlying t = some (.slice e)) (hinfo : (P.info? e).map (fun i => (i.zero, i.size, i.bytes)) = some (some z, d.sz, bytes)) (hz : z.cells.size = d.sz)
    (S : Nat → Prop) (v : Value) (xs : List α) (y : α) (cs : List Value) (N : Nat) (hN : N = W.heap.size) (hs : a.eval s = v) (hx : a.eval x = .slice (some ⟨N, 0, none⟩) 1 1) (HO : Own d e W b S v xs) (hb : b ≤ W.heap.size) (HR : d.rd W (fun k => S k ∧ some k ≠ v.ownBlock) y cs)
    (hl : xs.length + 1 ≤ maxLen) (hl2 : (xs.length + 1) * bytes ≤ 140737488355328)
    (h : ∀ v1 w1, Own d e w1 b S v1 (xs ++ [y]) → W.grownBy w1 v.ownBlock → (v1.ownBlock = v.ownBlock ∨ ∃ b, v1.ownBlock = some b ∧ W.heap.size ≤ b) → wpList P ops Q rest (a.put o.dst v1) w1) :
    wpList P ops Q (o :: rest) a (W.alloc (.cells cs.toArray e)) := by
  have hc := cutW_size hb
  refine wp_append1 d (w0 := cutW W b) t e z bytes hgd s x ho ht hinfo hz S v xs y cs hs (by rw [← hN]; exact hx) (by rw [hc]; exact HO) HR (cutW_bel hb) hl hl2 (fun v1 w1 h1 _ h3 h4 => h v1 w1 ?_ h3 h4)
  rw [hc] at h1
  exact h1
end
/-- What lay in w, but the budget. -/
def Low (w : World) (mb : Option Nat) (k : Nat) : Prop := k < w.heap.size ∧ some k ≠ mb
theorem low_of {α : Type} {d : Ty α} {w W : World} {mb : Option Nat} {S : Nat → Prop} {A : Option Addr} {c : Nat} {xs : List α} (h : Rd d w S A c xs) (hS : ∀ k, S k → some k ≠ mb) (hg : w.grownBy W mb) : Rd d W (Low w mb) A c xs :=
  (h.bound.step' (fun k hk => hg.block k hk.2 (hS k hk.1))).mono (fun k hk => ⟨hk.2, hS k hk.1⟩)
theorem low_row {α : Type} {d : Ty α} {w W W' : World} {mb : Option Nat} {A : Option Addr} {c : Nat} {xs : List α} (h : Rd d W (Low w mb) A c xs) (hW : w.grownBy W mb) (hW' : w.grownBy W' mb) : Rd d W' (Low w mb) A c xs :=
  h.step' (fun k hk => (hW'.block k hk.1 hk.2).trans (hW.block k hk.1 hk.2).symm)
end Go.Cb
namespace Go.Proofs.YtmdcgekiiopohaaGreat
open Go.RowKit Go.Cb Go.Sort
set_option maxRecDepth 100000 in
set_option maxHeartbeats 16000000 in
theorem autoNext_c (mv : Value) (mb : Option Nat) (st : MSt) (S S' : Nat → Prop) (A B : Option Addr) (ca cb : Nat) (s : SemS) (l : List Itm) (letter : Int) (w : World) (hm : MetO w 120 mv mb st) (h : Rd linT w S A ca s) (hl : Rd itemT w S' B cb l) (hS : ∀ k, S k → some k ≠ mb) (hS' : ∀ k, S' k → some k ≠ mb)
    (n m : Nat) (hn : n = s.length) (hm2 : m = l.length) (hp : ∀ y ∈ s, y.2.length ≤ 8) (hlen : l.length * 256 ≤ 4398046511103) (h0 : 0 ≤ letter ∧ letter ≤ 18446744073709551615) :
    Calls Tryz.prog 28 #[mv, .slice A n ca, .slice B m cb, .int .u64 letter] w fun e w' => ∃ v, e = .returned (.tuple #[v, .int .i64 (nextS st s l letter).2.2]) ∧ DItm w.heap.size w' v (nextS st s l letter).2.1 ∧ MetO w' 120 mv mb (nextS st s l letter).1 ∧ w.grownBy w' mb := by
  subst hn hm2
  have lms := h.lenMax
  have HMB := Lib.hid (hm.at_)
  have HM := Lib.hid hm
  have HS := Lib.hid (show ∀ W, w.grownBy W mb → Rd linT W (Low w mb) A ca s from fun W hg => low_of h hS hg)
  have HL := Lib.hid (show ∀ W, w.grownBy W mb → Rd itemT W (Low w mb) B cb l from fun W hg => low_of hl hS' hg)
  have KR := Lib.hid (autoRight_c _ _ _ _ _ _ _ _ _ h hl _ _ rfl rfl)
  have HP := Lib.hid hp
  clear hm h hl hS hS' hp
  cases hr : rightI s l with
  | false =>
    have Hu := Lib.hid (nextS_no (st := st) (letter := letter) hr)
    rw [hr] at KR
    clear hr
    go_enter Tryz.func28, Tryz.ntmps28
    go_wp2_with fail
    refine KR.out.mono ?_
    rintro e w1 ⟨rfl, hb1⟩
    go_wp2
    go_ret2
    rw [Hu.out]
    exact ⟨_, rfl, DItm.nil _ _, HM.out.grown hb1, bel_grown hb1⟩
  | true =>
    have HAT := Lib.hid (fun k x (hx : l[k]? = some x) => rightI_at hr hx)
    have HRS := Lib.hid (rightI_set hr)
    have HNB := Lib.hid (fun st' acc e (h2 : itemsF s letter l st [] = (st', acc, e)) he => nextS_bad (st := st) (letter := letter) hr h2 he)
    have HNO := Lib.hid (fun st' acc (h2 : itemsF s letter l st [] = (st', acc, 0)) => nextS_ok (st := st) (letter := letter) hr h2)
    rw [hr] at KR
    clear hr
    go_enter Tryz.func28, Tryz.ntmps28
    go_wp2_with fail
    refine KR.out.mono ?_
    rintro e w1 ⟨rfl, hb1⟩
    have HM1 := Lib.hid (HM.out.grown hb1)
    have HG1 := Lib.hid (bel_grown (row := mb) hb1)
    have hs1 := hb1.size
    clear hb1 KR
    go_wp2
    go_loopw [10, 24] (fun v10 v24 wr => ∃ (k : Nat) (W : World) (AO : Option Addr) (cO : Nat) (acc : List Itm) (st' : MSt), W = wr ∧ k ≤ l.length ∧ v24 = .int .i64 k ∧ v10 = .slice AO acc.length cO ∧ Hid (acc.length ≤ k * 256) ∧ Hid (itemsF s letter l st [] = itemsF s letter (l.drop k) st' acc) ∧ Hid (∀ y ∈ acc, rightB y.2 = true) ∧
        Own itemT 100 W w.heap.size (Ge w.heap.size) (.slice AO acc.length cO) acc ∧ Hid (MetO W 120 mv mb st') ∧ w.grownBy W mb) (fun _ v24 _ => l.length - (intOf v24).toNat)
    case atStart => exact ⟨0, _, none, 0, [], st, rfl, Nat.zero_le _, rfl, rfl, (Nat.zero_le _ : 0 ≤ 0 * 256), rfl, (fun y hy => by simp at hy : ∀ y ∈ ([] : List Itm), rightB y.2 = true), Own.nil _ _ _ _ _, HM1.out, HG1.out⟩
    case round =>
      clear HM1 HG1 hs1
      obtain ⟨k, W, AO, cO, acc, st', rfl, hk, rfl, rfl, HAL, HF, HAR, hO, HMW, hgW⟩ := hrel
      by_cases hlt : k < l.length
      · obtain ⟨ad2, Bx, cx, rfl, y0, y1, hrx⟩ := item_rd (HL.out W hgW) hlt
        obtain ⟨⟨jx, b⟩, hx⟩ : ∃ x, l[k] = x := ⟨_, rfl⟩
        have hx? : l[k]? = some (jx, b) := by rw [List.getElem?_eq_getElem hlt, hx]
        obtain ⟨j, hj, hjs, hrb⟩ := HAT.out k _ hx?
        dsimp only at hj hrb
        subst hj
        rw [hx] at y0 y1 hrx
        dsimp only at y0 y1 hrx
        obtain ⟨ad, A0, c0, A1, c1, rfl, x0, x1, _, hps⟩ := (HS.out W hgW).lrow hjs
        obtain ⟨⟨sb, ps⟩, hse⟩ : ∃ y, s[j] = y := ⟨_, rfl⟩
        have hgd : (s.getD ((j : Int)).toNat ([], [])).2 = ps := by rw [Int.toNat_natCast, getDs_of hjs, hse]
        have hp8 : ps.length ≤ 8 := by have := HP.out _ (List.getElem_mem hjs); rw [hse] at this; exact this
        have hpr : ∀ p ∈ ps, rightB p = true := fun p hp => by
          have h9 := rightS_each HRS.out (List.getElem_mem hjs)
          rw [hse] at h9
          exact ((rightL_iff.1 h9).2.each p hp).2
        rw [hse] at x0 x1 hps
        dsimp only at x0 x1 hps
        have HPR := Lib.hid hpr
        have HRB := Lib.hid hrb
        have HFA := Lib.hid (HF.out.trans (itemsF_at hx?))
        have HW := Lib.hid (fun acc' (r : List Itm) (h : (spendM st' ((2 ^ ps.length : Nat) : Int)).2 = false) => itemsF_work (s := s) (letter := letter) (x := ((j : Int), b)) (r := r) (acc := acc') hgd (by omega) h)
        have HBD := Lib.hid (fun acc' (r : List Itm) (h : (spendM st' ((2 ^ ps.length : Nat) : Int)).2 = true) h2 => itemsF_bad (s := s) (letter := letter) (x := ((j : Int), b)) (r := r) (acc := acc') hgd (by omega) h h2)
        have HNX := Lib.hid (fun acc' acc2 (r : List Itm) (h : (spendM st' ((2 ^ ps.length : Nat) : Int)).2 = true) h2 => itemsF_next (s := s) (letter := letter) (x := ((j : Int), b)) (r := r) (acc := acc') (acc' := acc2) hgd (by omega) h h2)
        have HX := Lib.hid hx?
        have hal : Bel W (W.alloc (.cells #[.int .i64 j, .slice Bx b.length cx] 100)) := (Bel.refl _).alloc _
        have X := Box.new W 100 (.int .i64 j) (.slice Bx b.length cx)
        obtain ⟨z0, z1, _, _⟩ := X.cells
        have xa1 := cell_keep x1 (hal.block (World.block_lt_of_cell? _ _ x1))
        have HO := Lib.hid (hO.to hal)
        have HG2 := Lib.hid (grown_trans hgW (bel_grown (row := mb) hal))
        have HM2 := Lib.hid (HMW.out.grown hal)
        have HRX := Lib.hid (fun W' (h : w.grownBy W' mb) => low_row hrx hgW h)
        have HPS := Lib.hid (fun W' (h : w.grownBy W' mb) => low_row hps hgW h)
        have pw := pow_8 hp8
        have hsW := hgW.size
        have hdg : decide (((ps.length : Nat) : Int) > 20) = false := decide_eq_false (by omega)
        obtain ⟨P, hP⟩ : ∃ P : Nat, 2 ^ ps.length = P := ⟨_, rfl⟩
        have hwr : wrap64 ((2 : Int) ^ ps.length) = (P : Int) := by
          rw [← hP]
          have : ((2 ^ ps.length : Nat) : Int) = (2 : Int) ^ ps.length := by push_cast; rfl
          rw [← this]
          unfold wrap64
          omega
        rw [hP] at pw HW HBD HNX
        have HOT := Lib.hid (fun g (hg : (Value.slice AO acc.length cO).ownBlock = some g) => (show g ≠ W.heap.size from fun e => by have := hO.lt hg; omega))
        have HXB := Lib.hid X
        have hTG : w.heap.size ≤ W.heap.size := hsW
        clear hx hx? hrb hse hgd hpr hO hrx hps HMW hgW x0 x1 hP X
        go_wp2_with fail
        refine (spendM_s1 mv mb st' P _ HM2.out).mono ?_
        rintro e w2 ⟨rfl, hm2, hg2, hz2⟩
        have HO2 := Lib.hid (own_spent HO.out hg2 HMB.out)
        have HX2 := Lib.hid (show Go.Cb.Box w2 100 W.heap.size (.int .i64 j) (.slice Bx b.length cx) from (hg2.block W.heap.size HXB.out.lt (fun e => by have := HMB.out _ e.symm; omega)).trans HXB.out)
        have HG3 := Lib.hid (grown_trans HG2.out hg2)
        have HM3 := Lib.hid hm2
        have hs2 := hg2.size
        clear hg2 hm2 HO HG2 HM2 HXB hz2 z0 z1 xa1
        generalize W.heap.size = TG at *
        obtain ⟨st2, hst2⟩ : ∃ st2, (spendM st' (P : Int)).1 = st2 := ⟨_, rfl⟩
        rw [hst2] at HM3 HW HBD HNX
        clear hst2
        cases hsp : (spendM st' (P : Int)).2 with
        | false =>
          have HR := Lib.hid (HNB.out _ _ _ (HFA.out.trans (HW.out acc (l.drop (k + 1)) hsp)) (by decide))
          clear hsp HBD HNX
          go_wp2_with fail
          go_ret2
          rw [HR.out]
          exact ⟨_, rfl, DItm.nil _ _, HM3.out, HG3.out⟩
        | true =>
          have HBD2 := Lib.hid (fun h2 => HNB.out _ _ _ (HFA.out.trans (HBD.out acc (l.drop (k + 1)) hsp h2)) (by decide))
          have HNX2 := Lib.hid (fun acc2 h2 => HFA.out.trans (HNX.out acc acc2 (l.drop (k + 1)) hsp h2))
          clear hsp HBD HNX HW
          go_wp2
          rw [hwr]
          go_loopw [10, 46] (fun v10 v46 wr => ∃ (q : Nat) (W3 : World) (AQ : Option Addr) (cQ : Nat) (acc2 : List Itm), W3 = wr ∧ q ≤ P ∧ v46 = .int .i64 q ∧ v10 = .slice AQ acc2.length cQ ∧ Hid (acc2.length ≤ k * 256 + q) ∧ Hid (stepsF j b ps letter (List.range P) acc = stepsF j b ps letter ((List.range P).drop q) acc2) ∧ Hid (∀ y ∈ acc2, rightB y.2 = true) ∧
              Own itemT 100 W3 w.heap.size (Ge w.heap.size) (.slice AQ acc2.length cQ) acc2 ∧ Go.Cb.Box W3 100 TG (.int .i64 j) (.slice Bx b.length cx) ∧ Hid (∀ g, (Value.slice AQ acc2.length cQ).ownBlock = some g → g ≠ TG) ∧ Hid (MetO W3 120 mv mb st2) ∧ Hid (w.grownBy W3 mb)) (fun _ v46 _ => P - (intOf v46).toNat)
          case atStart => exact ⟨0, _, AO, cO, acc, rfl, Nat.zero_le _, rfl, rfl, HAL.out, rfl, HAR.out, HO2.out, HX2.out, HOT.out, HM3.out, HG3.out⟩
          case round =>
            clear HO2 HX2 HOT HM3 HG3 hs2
            obtain ⟨q, W3, AQ, cQ, acc2, rfl, hq, rfl, rfl, HAL2, HSF, HAR2, hO, hX, HOT, HM3, HG3⟩ := hrel
            by_cases hqP : q < P
            · obtain ⟨z0, z1, _, _⟩ := hX.cells
              have Q := choice_c _ _ _ _ _ _ b ps q W3 (HRX.out W3 HG3.out) (HPS.out W3 HG3.out) _ _ rfl rfl HRB.out HPR.out (by omega) (by omega)
              have h3s := HG3.out.size
              cases hpk : pickF q ps 0 b with
              | none =>
                rw [hpk] at Q
                simp only [Option.elim_none, Option.isSome_none] at Q
                have HR := Lib.hid (HBD2.out (HSF.out.trans (stepsF_none hqP hpk)))
                have HQ := Lib.hid Q
                clear Q hpk
                go_wp2_with fail
                refine HQ.out.mono ?_
                rintro e w4 ⟨v4, rfl, _, hb4⟩
                go_wp2
                go_ret2
                rw [HR.out]
                exact ⟨_, rfl, DItm.nil _ _, HM3.out.grown hb4, grown_trans HG3.out (bel_grown hb4)⟩
              | some hb =>
                have HST := Lib.hid (HSF.out.trans (stepsF_some (letter := letter) (acc := acc2) hqP hpk))
                rw [hpk] at Q
                simp only [Option.elim_some, Option.isSome_some] at Q
                obtain ⟨z, hz⟩ : ∃ z, lettI hb 0 = z := ⟨_, rfl⟩
                rw [hz] at Q HST
                have HQ := Lib.hid Q
                clear Q hpk hz
                obtain ⟨half, hhf⟩ : ∃ half, halfB hb = half := ⟨_, rfl⟩
                have HHR := Lib.hid (show rightB half = true by rw [← hhf]; exact halfB_right hb)
                rw [hhf] at HQ HST
                clear hhf
                by_cases hzl : z = letter
                · have hze : (z == letter) = true := by simp [hzl]
                  have HST2 := Lib.hid (HST.out.trans (by rw [if_pos hzl]))
                  clear hzl HST
                  have hX9 := Lib.hid hX
                  have hO9 := Lib.hid hO
                  clear hO hX
                  go_wp2_with fail
                  refine HQ.out.mono ?_
                  rintro e w4 ⟨v4, rfl, ⟨A4, c4, rfl, hr4⟩, hb4⟩
                  clear z0 z1
                  obtain ⟨z0, z1, _, _⟩ := (hX9.out.to hb4).cells
                  have HX4 := Lib.hid (hX9.out.to hb4)
                  have HO4 := Lib.hid (hO9.out.to hb4)
                  have HOL := Lib.hid (fun k hk => hO9.out.lt (k := k) hk)
                  have HG4 := Lib.hid (grown_trans HG3.out (bel_grown (row := mb) hb4))
                  have HM4 := Lib.hid (HM3.out.grown hb4)
                  have hsz4 := hb4.size
                  have HRR := Lib.hid (show itemT.rd w4 (fun k => Ge w.heap.size k ∧ some k ≠ (Value.slice AQ acc2.length cQ).ownBlock) ((j : Int), half) [.int .i64 j, .slice A4 half.length c4] from ⟨[_], [_], rfl, rfl, ⟨A4, c4, rfl, hr4.mono (fun k hk => ⟨by unfold Ge at *; omega, fun e => by have := HOL.out k e.symm; unfold Ge at hk; omega⟩)⟩⟩)
                  have hal2 := HAL2.out
                  have hlb : k * 256 + 256 ≤ l.length * 256 := by
                    rw [← Nat.succ_mul]; exact Nat.mul_le_mul_right _ hlt
                  have hacc : acc2.length + 1 ≤ 4398046511103 := by omega
                  clear hr4
                  go_wp2_with (at_builtin; refine wp_append1d itemT w.heap.size 66 100 (.agg #[.int .i64 0, .slice none 0 0]) 32 rfl _ _ rfl Tryz.underlying66 info_item rfl (Ge w.heap.size) (.slice AQ acc2.length cQ) acc2 ((j : Int), half) [.int .i64 j, .slice A4 half.length c4] _ rfl rfl rfl HO4.out (by omega) HRR.out (by unfold maxLen; omega) (by omega) ?_; rintro v5 w5 ho5 hg5 hn5; obtain ⟨A5, c5, hv5⟩ := ho5.form; rw [List.length_append, List.length_singleton] at hv5; subst hv5; have HX5 : Go.Cb.Box w5 100 TG (.int .i64 j) (.slice Bx b.length cx) := (hg5.block TG HX4.out.lt (fun e => HOT.out TG e.symm rfl)).trans HX4.out; have HM5 : MetO w5 120 mv mb st2 := HM4.out.row hg5 (fun g hg e => by have := HMB.out g hg; have := HO4.out.ge e; omega); have HG5 := grown_own HG4.out hg5 (fun g e => HO4.out.ge e); have HOT5 : ∀ g, (Value.slice A5 (acc2.length + 1) c5).ownBlock = some g → g ≠ TG := fun g hg => by (rcases hn5 with e | ⟨g9, e, he9⟩; exact HOT.out g (e.symm.trans hg); (have := HX4.out.lt; rw [hg] at e; injection e with e; omega)))
                  go_roundw
                  case rel => exact ⟨q + 1, _, A5, c5, acc2 ++ [((j : Int), half)], rfl, by omega, by go_num, by rw [List.length_append, List.length_singleton], (by rw [List.length_append, List.length_singleton]; omega : (acc2 ++ [((j : Int), half)]).length ≤ k * 256 + (q + 1)), HST2.out, (fun y hy => by
                    rcases List.mem_append.1 hy with hy | hy
                    · exact HAR2.out y hy
                    · obtain rfl : y = ((j : Int), half) := by simpa using hy
                      exact HHR.out : ∀ y ∈ acc2 ++ [((j : Int), half)], rightB y.2 = true), by rw [List.length_append, List.length_singleton]; exact ho5, HX5, by rw [List.length_append, List.length_singleton]; exact HOT5, HM5, HG5⟩
                  case measure => simp [intOf]; omega
                · have hze : (z == letter) = false := by simp [hzl]
                  have HST2 := Lib.hid (HST.out.trans (by rw [if_neg hzl]))
                  clear hzl HST
                  go_wp2_with fail
                  refine HQ.out.mono ?_
                  rintro e w4 ⟨v4, rfl, _, hb4⟩
                  go_wp2
                  go_roundw
                  case rel => exact ⟨q + 1, _, AQ, cQ, acc2, rfl, by omega, by go_num, rfl, (by have := HAL2.out; omega : acc2.length ≤ k * 256 + (q + 1)), HST2.out, HAR2.out, hO.to hb4, hX.to hb4, HOT.out, HM3.out.grown hb4, grown_trans HG3.out (bel_grown hb4)⟩
                  case measure => simp [intOf]; omega
            · obtain rfl : q = P := by omega
              have HN := Lib.hid (HNX2.out acc2 (HSF.out.trans stepsF_end))
              have hal2 := HAL2.out
              go_wp2
              go_roundw
              case rel => exact ⟨k + 1, _, AQ, cQ, acc2, st2, rfl, by omega, by go_num, rfl, (by omega : acc2.length ≤ (k + 1) * 256), HN.out, HAR2.out, hO, HM3.out, HG3.out⟩
              case measure => simp [intOf]; omega
      · obtain rfl : k = l.length := by omega
        have HR := Lib.hid (HNO.out st' acc (HF.out.trans (by rw [List.drop_length]; rfl)))
        have hsW := hgW.size
        have hal := HAL.out
        clear HNB HNO HF HAT
        rcases Nat.eq_zero_or_pos acc.length with h0 | h0
        · obtain rfl : acc = [] := List.eq_nil_of_length_eq_zero h0
          go_wp2_with fail
          refine (sortINil_c _ _ _).mono ?_
          rintro e w2 ⟨rfl, rfl⟩
          go_wp2_with fail
          refine (compactI_c HAR.out hO rfl).mono ?_
          rintro e w3 ⟨rfl, ho3, hg3⟩
          have HDI := Lib.hid (show DItm w.heap.size w3 _ _ from ho3.rdGe)
          go_wp2
          go_ret2
          rw [HR.out]
          exact ⟨_, rfl, HDI.out, HMW.out.row hg3 (fun g hg e => by have := HMB.out g hg; have := hO.ge e; omega), grown_own hgW hg3 (fun g e => hO.ge e)⟩
        · obtain ⟨g, rfl, hg1, hg2⟩ := hO.addr h0
          go_wp2_with fail
          refine (sortI_c hO rfl HAR.out (by omega)).mono ?_
          rintro e w2 ⟨rfl, ys, hp, hs, ho2, hg⟩
          have HFO := Lib.hid (sorted_putO itemO HAR.out hp hs)
          have HYR := Lib.hid (fun y (hy : y ∈ ys) => HAR.out y (hp.mem_iff.1 hy))
          have hpl := hp.length_eq
          have hg2s := hg.size
          have HMX := Lib.hid (HMW.out.row hg (fun g' hg' e => by have := HMB.out g' hg'; obtain rfl : g = g' := Option.some.inj e; omega))
          have HGX := Lib.hid (grown_own hgW hg (fun j hj => by obtain rfl : g = j := Option.some.inj hj; exact hg1))
          clear hO hgW HMW
          go_wp2_with fail
          refine (compactI_c HYR.out ho2 hpl.symm).mono ?_
          rintro e w3 ⟨rfl, ho3, hg3⟩
          have HDI := Lib.hid (show DItm w.heap.size w3 _ _ from ho3.rdGe)
          go_wp2
          go_ret2
          rw [HR.out, HFO.out]
          exact ⟨_, rfl, HDI.out, HMX.out.row hg3 (fun g' hg' e => by have := HMB.out g' hg'; have := ho2.ge e; omega), grown_own HGX.out hg3 (fun g e => ho2.ge e)⟩
end Go.Proofs.YtmdcgekiiopohaaGreat
