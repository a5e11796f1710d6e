/- Walks: slices.CompactFunc over words. -/
import Derived.Test.YtghdleofbkalbaaLin5
import Derived.Test.YtghdleofbkalbaaLib4
import Derived.Test.YtghdleofbkalbaaTabLib
import Derived.Lib.SliceRun
namespace Go.Cb
open Go.RowKit
theorem ownsRow_pre {w : World} {base : Nat} {e : TypeId} {size g n cap : Nat} {xs : List Value} (h : w.ownsRow base e size (.slice (some ⟨g, 0, none⟩) n cap) n xs) {i : Nat} (hi : i ≤ n) :
    w.ownsRow base e size (.slice (some ⟨g, 0, none⟩) i cap) i (xs.take (i * size)) := by
  obtain ⟨hl, h2⟩ := h
  rcases h2 with ⟨h2, _⟩ | ⟨g', cap', cur, he, hb, hg, hn, hm, hs, ht⟩
  · simp at h2
  · injection he with he1 _ he2
    injection he1 with he1
    injection he1 with he1
    subst he1 he2
    have hle : i * size ≤ n * size := Nat.mul_le_mul_right _ hi
    refine ⟨by rw [List.length_take]; omega, .inr ⟨g, cap, cur, rfl, hb, hg, by omega, hm, hs, ?_⟩⟩
    rw [← ht, List.take_take, Nat.min_eq_left hle]
/-- A store into a row of one-cell elements. -/
theorem Own.set1 {α : Type} {d : Ty α} (hd : d.sz = 1) {e : TypeId} {w : World} {base g n cap : Nat} {S : Nat → Prop} {xs : List α} (h : Own d e w base S (.slice (some ⟨g, 0, none⟩) n cap) xs) (hn : n = xs.length) {i : Nat} (hi : i < n) {x : α} {u : Value} (hu : d.rd w (fun k => S k ∧ k ≠ g) x [u]) :
    Own d e (w.setCell ⟨g, i, none⟩ u) base S (.slice (some ⟨g, 0, none⟩) n cap) (xs.set i x) := by
  subst hn
  obtain ⟨inner, ho, hr⟩ := h
  rw [hd] at ho hr
  obtain ⟨h2, h3⟩ := World.ownsRow.stored ho i u
  have hil : inner.length = xs.length := by have := ho.1; omega
  have hob : (Value.slice (some ⟨g, 0, none⟩) xs.length cap).ownBlock = some g := rfl
  have keep : ∀ y cs, d.rd w (fun k => S k ∧ some k ≠ (Value.slice (some ⟨g, 0, none⟩) xs.length cap).ownBlock) y cs → d.rd (w.setCell ⟨g, i, none⟩ u) (fun k => S k ∧ some k ≠ (Value.slice (some ⟨g, 0, none⟩) xs.length cap).ownBlock) y cs := fun y cs hy =>
    d.step (fun k hk => by
      have hne : k ≠ g := fun e => hk.2 (by rw [e]; rfl)
      exact Below.heap_setCell w ⟨g, i, none⟩ u k hne) hy
  refine ⟨inner.set i u, by rw [hd, List.length_set]; exact h2, fun j y hj => ?_⟩
  rw [hd]
  by_cases e1 : j = i
  · subst e1
    rw [List.getElem?_set_self (by omega)] at hj
    injection hj with hj
    subst hj
    have : ((inner.set j u).drop (j * 1)).take 1 = [u] := by
      rw [Nat.mul_one, List.drop_eq_getElem_cons (by rw [List.length_set]; omega), List.getElem_set_self]; rfl
    rw [this]
    exact keep _ _ (d.mono (fun k hk => ⟨hk.1, fun e => hk.2 (by rw [hob] at e; injection e)⟩) hu)
  · rw [List.getElem?_set_ne (fun h => e1 h.symm)] at hj
    have hjl := (List.getElem?_eq_some_iff.1 hj).1
    have h4 := hr j y hj
    have : ((inner.set i u).drop (j * 1)).take 1 = (inner.drop (j * 1)).take 1 := by
      rw [Nat.mul_one, List.drop_eq_getElem_cons (by rw [List.length_set]; omega), List.drop_eq_getElem_cons (show j < inner.length by omega), List.getElem_set_ne (fun h => e1 h.symm)]
      rfl
    rw [this]
    exact keep _ _ h4
theorem Own.prefix_ {α : Type} {d : Ty α} {e : TypeId} {w : World} {base g n cap : Nat} {S : Nat → Prop} {xs : List α} (h : Own d e w base S (.slice (some ⟨g, 0, none⟩) n cap) xs) (hn : n = xs.length) {i : Nat} (hi : i ≤ n) :
    Own d e w base S (.slice (some ⟨g, 0, none⟩) i cap) (xs.take i) := by
  subst hn
  obtain ⟨inner, ho, hr⟩ := h
  have hil : inner.length = xs.length * d.sz := ho.1
  refine ⟨inner.take (i * d.sz), by rw [List.length_take, Nat.min_eq_left hi]; exact ownsRow_pre ho hi, fun j x hj => ?_⟩
  have hj2 : j < i := by have := (List.getElem?_eq_some_iff.1 hj).1; rw [List.length_take] at this; omega
  rw [List.getElem?_take, if_pos hj2] at hj
  have h1 := hr j x hj
  have hle : j * d.sz + d.sz ≤ i * d.sz := by rw [← Nat.succ_mul]; exact Nat.mul_le_mul_right _ hj2
  rw [List.drop_take, List.take_take, Nat.min_eq_left (by omega)]
  exact h1
theorem dr_grown {w w' : World} {row : Option Nat} (h : Dr w w') : w.grownBy w' row := by
  obtain ⟨q, rfl⟩ := h
  exact ⟨rfl, rfl, rfl, Nat.le_refl _, fun _ _ _ => rfl⟩
theorem grown_drewN {w W : World} {row : Option Nat} (h : w.grownBy W row) (q : Nat) : w.grownBy (W.drewN q) row := ⟨h.os, h.tape, h.output, h.size, h.block⟩
theorem grown_trans {w W W2 : World} {row : Option Nat} (h : w.grownBy W row) (k : W.grownBy W2 row) : w.grownBy W2 row :=
  ⟨k.os.trans h.os, k.tape.trans h.tape, k.output.trans h.output, Nat.le_trans h.size k.size, fun q hq hn => (k.block q (Nat.lt_of_lt_of_le hq h.size) hn).trans (h.block q hq hn)⟩
theorem grown_set {w W : World} {g : Nat} (h : w.grownBy W (some g)) (i : Nat) (u : Value) : w.grownBy (W.setCell ⟨g, i, none⟩ u) (some g) :=
  ⟨h.os, h.tape, h.output, by have := h.size; simpa [World.setCell] using this, fun q hq hn => (Below.heap_setCell W ⟨g, i, none⟩ u q (fun e => hn (by rw [e]))).trans (h.block q hq hn)⟩
theorem set_take {α : Type} {ys : List α} {k : Nat} (hk : k < ys.length) (u : α) : (ys.set k u).take (k + 1) = ys.take k ++ [u] := by
  rw [List.take_add_one, List.getElem?_set_self hk, List.take_set_of_le (Nat.le_refl _)]; rfl
theorem setL_take : ∀ (cs xs : List Value) (o : Nat), (setL xs o cs).take o = xs.take o
  | [], _, _ => rfl
  | c :: cs, xs, o => by
    rw [setL]
    have h := setL_take cs (xs.set o c) (o + 1)
    have h2 : ((setL (xs.set o c) (o + 1) cs).take (o + 1)).take o = ((xs.set o c).take (o + 1)).take o := by rw [h]
    rw [List.take_take, List.take_take, Nat.min_eq_left (by omega)] at h2
    rw [h2, List.take_set_of_le (Nat.le_refl _)]
theorem Own.cleared {α : Type} {d : Ty α} (hd : d.sz = 1) {e : TypeId} {w : World} {base g n cap : Nat} {S : Nat → Prop} {ys : List α} (h : Own d e w base S (.slice (some ⟨g, 0, none⟩) n cap) ys) (hn : n = ys.length) {k : Nat} (hk : k ≤ n) (cs : List Value) :
    Own d e (w.setCells g k cs) base S (.slice (some ⟨g, 0, none⟩) k cap) (ys.take k) ∧ w.grownBy (w.setCells g k cs) (some g) := by
  subst hn
  obtain ⟨inner, ho, hr⟩ := h
  rw [hd] at ho hr
  obtain ⟨r1, g1, _⟩ := ownsRow_setCells cs k w inner ho
  have r2 := ownsRow_prefix r1 hk
  rw [Nat.mul_one, setL_take] at r2
  refine ⟨⟨inner.take k, by rw [hd, List.length_take, Nat.min_eq_left hk]; exact r2, fun j x hj => ?_⟩, g1⟩
  rw [hd]
  have hj2 : j < k := by have := (List.getElem?_eq_some_iff.1 hj).1; rw [List.length_take] at this; omega
  rw [List.getElem?_take, if_pos hj2] at hj
  have h1 := hr j x hj
  rw [Nat.mul_one] at h1 ⊢
  rw [List.drop_take, List.take_take, Nat.min_eq_left (by omega)]
  refine d.mono (fun q hq => hq) (d.rd_step h1 (fun q hq hlt => g1.block q hlt hq.2))
end Go.Cb
namespace Go.Proofs.Ytghdleofbkalbaa
open Go.RowKit Go.Cb
theorem own_row {w : World} {base n c : Nat} {e : TypeId} {A : Option Addr} {S : Nat → Prop} {xs : List (List Int)} (h : Own wbT e w base S (.slice A n c) xs) {k : Nat} (hk : k < xs.length) :
    ∃ g B cb, A = some ⟨g, 0, none⟩ ∧ base ≤ g ∧ g < w.heap.size ∧ w.cell? ⟨g, k, none⟩ = some (.slice B xs[k].length cb) ∧ RdW w (fun q => S q ∧ q ≠ g) B cb xs[k] ∧ w.frozen? ⟨g, k, none⟩ = false := by
  obtain ⟨A', c', he, _⟩ := h.rd
  injection he with e1 e2 e3
  subst e1 e3
  obtain ⟨g, rfl, hg1, hg2⟩ := h.addr (by omega)
  obtain ⟨inner, ho, hr⟩ := h
  subst e2
  have hil : inner.length = xs.length := by have := ho.1; simpa [wbT] using this
  obtain ⟨B, cb, hcs, hR⟩ := hr k xs[k] (List.getElem?_eq_getElem hk)
  have hcell := ho.cells (g := g) rfl k (.slice B xs[k].length cb) (by
    have h1 : (inner.drop (k * 1)).take 1 = [.slice B xs[k].length cb] := hcs
    rw [Nat.mul_one, List.drop_eq_getElem_cons (by omega)] at h1
    have h2 : inner[k]'(by omega) = .slice B xs[k].length cb := by injection h1
    rw [List.getElem?_eq_getElem (by omega), h2])
  rw [add_plain] at hcell
  exact ⟨g, B, cb, rfl, hg1, hg2, hcell, hR.mono (fun q hq => ⟨hq.1, fun e => hq.2 (by rw [e]; rfl)⟩), World.ownsRow.frozenAt ho k⟩
theorem zero_bag (w : World) : (zeroValue 23).run Try.prog w = .ok (.slice none 0 0) w := by kernel_rfl
set_option maxHeartbeats 4000000 in
set_option maxRecDepth 100000 in
theorem compact_c {w : World} {base c n : Nat} {A : Option Addr} {S : Nat → Prop} {xs : List (List Int)} (h : Own wbT 23 w base S (.slice A n c) xs) (hn : n = xs.length) :
    Calls Try.prog 36 #[.slice A n c, .func (.func 37) #[] #[]] w fun e w' =>
      e = .returned (.slice A (cmpct xs).length c) ∧ Own wbT 23 w' base S (.slice A (cmpct xs).length c) (cmpct xs) ∧ w.grownBy w' (Value.slice A n c).ownBlock := by
  have hcf : ∀ (args : Array Value) (w : World), (callFunc 37 args).run Try.prog w = .ok (.enter 37 args) w := fun _ _ => by kernel_rfl
  have hcap : n ≤ c ∧ c ≤ 9223372036854775807 := by
    obtain ⟨A', c', he, hr⟩ := h.rd
    injection he with e1 e2 e3
    have h1 := hr.cap
    have h2 := hr.capMax
    unfold maxLen at h2
    subst e3
    omega
  obtain ⟨hc1, hc2⟩ := hcap
  have HH := Lib.hid h
  have HN := Lib.hid hn
  clear h hn
  by_cases h2 : n < 2
  · have Hs := Lib.hid (show cmpct xs = xs by
      have := HN.out
      rcases xs with _ | ⟨x, _ | ⟨y, r⟩⟩
      · rfl
      · rfl
      · simp at this; omega)
    have d1 : decide ((n : Int) < 2) = true := decide_eq_true (by omega)
    go_enter Try.func36, Try.ntmps36
    go_wp2
    go_ret
    refine ⟨by rw [Hs.out, ← HN.out]; rfl, by rw [Hs.out, ← HN.out]; exact HH.out, ⟨rfl, rfl, rfl, Nat.le_refl _, fun _ _ _ => rfl⟩⟩
  · have d1 : decide ((n : Int) < 2) = false := decide_eq_false (by omega)
    go_enter Try.func36, Try.ntmps36
    go_wp2
    go_loopw [5] (fun v5 wr => ∃ k : Nat, 1 ≤ k ∧ k ≤ n ∧ v5 = .int .i64 k ∧ Hid (cmpct (xs.take k) = xs.take k) ∧ Dr w wr) (fun v5 _ => n - (intOf v5).toNat)
    case atStart => exact ⟨1, Nat.le_refl _, by omega, rfl, (by
      have := HN.out
      rcases xs with _ | ⟨x, r⟩
      · rfl
      · rfl : cmpct (xs.take 1) = xs.take 1), Dr.refl _⟩
    case round =>
      obtain ⟨k, hk1, hkn, rfl, HP, hd⟩ := hrel
      by_cases hlt : k < n
      · have hown := HH.out.to hd.bel
        obtain ⟨g, B, cb, rfl, hg1, hg2, hc0, hR0, hf0⟩ := own_row hown (k := k) (by rw [← HN.out]; exact hlt)
        obtain ⟨g', B', cb', e', _, _, hc1', hR1, hf1⟩ := own_row hown (k := k - 1) (by rw [← HN.out]; omega)
        obtain rfl : g = g' := by injection e' with e'; injection e'
        obtain ⟨x, hx⟩ : ∃ x, xs[k]'(by rw [← HN.out]; exact hlt) = x := ⟨_, rfl⟩
        obtain ⟨y, hy⟩ : ∃ y, xs[k - 1]'(by rw [← HN.out]; omega) = y := ⟨_, rfl⟩
        have HX := Lib.hid (show xs[k]? = some x by rw [List.getElem?_eq_getElem (by rw [← HN.out]; exact hlt), hx])
        have HY := Lib.hid (show xs[k - 1]? = some y by rw [List.getElem?_eq_getElem (by rw [← HN.out]; omega), hy])
        rw [hx] at hc0 hR0
        rw [hy] at hc1' hR1
        have Q2 := fun m => of1_c _ _ _ _ _ _ _ _ _ (hR0.rd.to ((Bel.refl _).drewN m)) (hR1.rd.to ((Bel.refl _).drewN m)) _ _ rfl rfl
        have hw : IntKind.i64.wrap ((k : Int) - 1) = ((k - 1 : Nat) : Int) := by rw [IntKind.wrap_i64]; omega
        have hct := cmpct_take hk1 HY.out HX.out
        clear hx hy hR0 hR1 e'
        by_cases he : x = y
        · rw [if_pos he.symm, HP.out] at hct
          have HC := Lib.hid hct
          simp only [decide_eq_true he] at Q2
          clear he hct
          have hk1' : 1 ≤ k := hk1
          have hb1 : ¬ (c = k) := by omega
          have hb2 : (k : Int) ≤ (n : Int) := by omega
          go_wp2
          go_quiet ((go_at_call 37; exact Calls.quiet_of (Q2 _)))
          clear Q2
          go_wp2
          go_loopw [5, 7] (fun v5 v7 wr => ∃ (kk j : Nat) (W : World) (ys : List (List Int)), W = wr ∧ 1 ≤ j ∧ j ≤ n - k ∧ v5 = .int .i64 kk ∧ v7 = .int .i64 j ∧ kk + 1 ≤ k + j ∧ Hid (kk = (cmpct (xs.take (k + j))).length) ∧ Hid (ys.length = n) ∧ Own wbT 23 wr base S (.slice (some ⟨g, 0, none⟩) n c) ys ∧ Hid (ys.take kk = cmpct (xs.take (k + j))) ∧ Hid (∀ i, k + j - 1 ≤ i → ys[i]? = xs[i]?) ∧ w.grownBy wr (some g)) (fun _ v7 _ => n - k - (intOf v7).toNat)
          case atStart => exact ⟨k, 1, _, xs, rfl, Nat.le_refl _, by omega, rfl, rfl, Nat.le_refl _, (by rw [HC.out, List.length_take, ← HN.out]; omega : k = (cmpct (xs.take (k + 1))).length), HN.out.symm, HH.out.to (hd.drewN _).bel, HC.out.symm, (fun i _ => rfl : ∀ i, k + 1 - 1 ≤ i → xs[i]? = xs[i]?), dr_grown (hd.drewN _)⟩
          case round =>
            clear hc0 hc1' hf0 hf1 hown
            obtain ⟨kk, j, W, ys, rfl, hj1, hjn, rfl, rfl, hkj, HKK, HYL, hO, HT, HE, hG⟩ := hrel
            by_cases hjl : j < n - k
            · obtain ⟨g2, B2, cb2, e2, _, _, hd0, hS0, _⟩ := own_row hO (k := k + j) (by rw [HYL.out]; omega)
              obtain rfl : g = g2 := by injection e2 with e2; injection e2
              obtain ⟨g3, B3, cb3, e3, _, _, hd1, hS1, _⟩ := own_row hO (k := k + (j - 1)) (by rw [HYL.out]; omega)
              obtain rfl : g = g3 := by injection e3 with e3; injection e3
              obtain ⟨g4, B4, cb4, e4, _, hg4, hd2, _, hfk⟩ := own_row hO (k := kk) (by rw [HYL.out]; omega)
              obtain rfl : g = g4 := by injection e4 with e4; injection e4
              obtain ⟨u, hu⟩ : ∃ u, ys[k + j]'(by rw [HYL.out]; omega) = u := ⟨_, rfl⟩
              obtain ⟨z, hz⟩ : ∃ z, ys[k + (j - 1)]'(by rw [HYL.out]; omega) = z := ⟨_, rfl⟩
              have HU := Lib.hid (show xs[k + j]? = some u by rw [← HE.out (k + j) (by omega), List.getElem?_eq_getElem (by rw [HYL.out]; omega), hu])
              have HZ := Lib.hid (show xs[k + (j - 1)]? = some z by rw [← HE.out (k + (j - 1)) (by omega), List.getElem?_eq_getElem (by rw [HYL.out]; omega), hz])
              rw [hu] at hd0 hS0
              rw [hz] at hd1 hS1
              have Q3 := fun m => of1_c _ _ _ _ _ _ _ _ _ (hS0.rd.to ((Bel.refl _).drewN m)) (hS1.rd.to ((Bel.refl _).drewN m)) _ _ rfl rfl
              have hw2 : IntKind.i64.wrap ((j : Int) - 1) = ((j - 1 : Nat) : Int) := by rw [IntKind.wrap_i64]; omega
              have hct2 := cmpct_take (l := xs) (k := k + j) (by omega) (by rw [show k + j - 1 = k + (j - 1) by omega]; exact HZ.out) HU.out
              clear hu hz e2 e3 e4 hS1
              by_cases he : u = z
              · rw [if_pos he.symm] at hct2
                have HC2 := Lib.hid hct2
                simp only [decide_eq_true he] at Q3
                clear he hct2
                go_wp2
                go_quiet ((go_at_call 37; exact Calls.quiet_of (Q3 _)))
                clear Q3
                go_wp2
                go_roundw
                case rel => exact ⟨kk, j + 1, _, ys, rfl, by omega, by omega, rfl, by go_num, by omega, (by rw [show k + (j + 1) = k + j + 1 by omega, HC2.out]; exact HKK.out : kk = (cmpct (xs.take (k + (j + 1)))).length), HYL.out, hO.to ((Bel.refl W).drewN _), (by rw [show k + (j + 1) = k + j + 1 by omega, HC2.out]; exact HT.out : ys.take kk = cmpct (xs.take (k + (j + 1)))), (fun i hi => HE.out i (by omega) : ∀ i, k + (j + 1) - 1 ≤ i → ys[i]? = xs[i]?), grown_drewN hG _⟩
                case measure => simp [intOf]; omega
              · rw [if_neg (fun h => he h.symm)] at hct2
                have HC2 := Lib.hid hct2
                simp only [decide_eq_false he] at Q3
                clear he hct2
                go_wp2
                go_quiet ((go_at_call 37; exact Calls.quiet_of (Q3 _)))
                clear Q3
                go_wp2
                go_roundw
                case rel => exact ⟨kk + 1, j + 1, _, ys.set kk u, rfl, by omega, by omega, by go_num, by go_num, by omega, (by rw [show k + (j + 1) = k + j + 1 by omega, HC2.out, List.length_append, ← HKK.out]; rfl : kk + 1 = (cmpct (xs.take (k + (j + 1)))).length), (by rw [List.length_set]; exact HYL.out : (ys.set kk u).length = n), Own.set1 rfl (hO.to ((Bel.refl W).drewN _)) HYL.out.symm (by omega) ⟨B2, cb2, rfl, hS0.to ((Bel.refl W).drewN _)⟩, (by rw [show k + (j + 1) = k + j + 1 by omega, HC2.out, set_take (by rw [HYL.out]; omega), HT.out] : (ys.set kk u).take (kk + 1) = cmpct (xs.take (k + (j + 1)))), (fun i hi => by rw [List.getElem?_set_ne (by omega)]; exact HE.out i (by omega) : ∀ i, k + (j + 1) - 1 ≤ i → (ys.set kk u)[i]? = xs[i]?), grown_set (grown_drewN hG _) _ _⟩
                case measure => simp [intOf]; omega
            · have hjk : k + j = n := by omega
              have htx : xs.take n = xs := List.take_of_length_le (by rw [← HN.out]; exact Nat.le_refl _)
              have HK2 := Lib.hid (show kk = (cmpct xs).length by have := HKK.out; rw [hjk, htx] at this; exact this)
              have HT2 := Lib.hid (show ys.take kk = cmpct xs by have := HT.out; rw [hjk, htx] at this; exact this)
              clear htx
              have hcl := fun ty c0 => Lib.run_clear_slice (P := Try.prog) W 24 23 ty (.slice none 0 0) Try.underlying24 zero_bag rfl rfl g kk (n - kk) c0 (by omega)
                (fun i hi => by
                  obtain ⟨g5, B5, cb5, e5, _, _, h5, _, _⟩ := own_row hO (k := kk + i) (by rw [HYL.out]; omega)
                  obtain rfl : g = g5 := by injection e5 with e5; injection e5
                  rw [h5]; rfl)
                (fun i hi => by
                  obtain ⟨g5, B5, cb5, e5, _, _, _, _, h5⟩ := own_row hO (k := kk + i) (by rw [HYL.out]; omega)
                  obtain rfl : g = g5 := by injection e5 with e5; injection e5
                  exact h5)
              obtain ⟨o1, g1⟩ := Own.cleared rfl hO HYL.out.symm (k := kk) (by omega) (List.replicate (n - kk) (.slice none 0 0))
              rw [HT2.out] at o1
              have hG2 := grown_trans hG g1
              have hb3 : ¬ (c = kk) := by omega
              have hb4 : (kk : Int) ≤ (n : Int) := by omega
              have hb5 : kk ≤ c := by omega
              have hb6 : (kk : Int) ≤ (c : Int) := by omega
              have HO1 := Lib.hid o1
              clear o1 g1 hO hjk
              go_wp2
              go_ret
              exact ⟨by rw [← HK2.out]; rfl, by rw [← HK2.out]; exact HO1.out, hG2⟩
        · rw [if_neg (fun h => he h.symm), HP.out] at hct
          have HC := Lib.hid (show cmpct (xs.take (k + 1)) = xs.take (k + 1) by rw [hct, List.take_add_one, HX.out]; rfl)
          simp only [decide_eq_false he] at Q2
          clear he hct
          go_wp2
          go_quiet ((go_at_call 37; exact Calls.quiet_of (Q2 _)))
          clear Q2
          go_wp2
          go_roundw
          case rel => exact ⟨k + 1, by omega, by omega, by go_num, HC.out, hd.drewN _⟩
          case measure => simp [intOf]; omega
      · obtain rfl : k = n := by omega
        have Hs := Lib.hid (show cmpct xs = xs by have := HP.out; rw [List.take_of_length_le (by rw [← HN.out]; exact Nat.le_refl _)] at this; exact this)
        go_wp2
        go_ret
        exact ⟨by rw [Hs.out, ← HN.out]; rfl, by rw [Hs.out, ← HN.out]; exact HH.out.to hd.bel, dr_grown hd⟩
end Go.Proofs.Ytghdleofbkalbaa
