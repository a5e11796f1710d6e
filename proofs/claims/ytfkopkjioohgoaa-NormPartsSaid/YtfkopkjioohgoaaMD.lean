/- Walks: a word without noughts; words alike; the words of a set, sorted. -/
import Derived.Test.YtfkopkjioohgoaaMC
import Derived.Test.YtfkopkjioohgoaaMA
import Derived.Lib.SliceRun
import Derived.Shelf.SlSortCmp.Whole1
import Derived.Shelf.SlGeneric
import Derived.Ground.SlsfProg
import Derived.Shelf.SlSortCmp.NoneTotal
import Derived.Laws.ResultCell
set_option linter.unusedVariables false
set_option linter.unusedSimpArgs false
namespace Go.Proofs.Ytfkopkjioohgoaa
open Go.RowKit Go.Cb
theorem word1_c (n : Int) (w : World) : Calls Try.prog 80 #[.int .i64 n] w fun e w' => e = .returned (.bool (n != 0)) ∧ w = w' := by
  go_enter Try.func80, Try.ntmps80
  go_wp2
  go_ret
  exact ⟨rfl, rfl⟩
set_option maxHeartbeats 1000000 in
theorem word_c (S : Nat → Prop) (A : Option Addr) (c : Nat) (b : List Int) (w : World) (h : Rd intT w S A c b) (n : Nat) (hn : n = b.length) (hl : b.length * 8 ≤ 140737488355328) :
    Calls Try.prog 59 #[.slice A n c] w fun e w' => ∃ v, e = .returned (.tuple #[v, .bool (!badB b)]) ∧ Own intT 3 w' w.heap.size (Ge w.heap.size) v (normB b) ∧ Bel w w' := by
  subst hn
  have CN := Lib.hid (norm_c S A c b w h _ rfl hl)
  have CC := Lib.hid (fun w1 (hb : Bel w w1) => containsFunc_c 80 (fun n => n != 0) (fun _ _ => by kernel_rfl) (fun n w => word1_c n w) S A c b w1 (h.to hb) _ rfl)
  have hbad : badB b = ((normB b).isEmpty && b.any (fun n => n != 0)) := by
    unfold badB zeroB
    congr 1
    rw [List.not_all_eq_any_not]; rfl
  clear h
  cases he : (normB b).isEmpty with
  | true =>
    rw [he] at hbad
    have HB := Lib.hid hbad
    have he2 : normB b = [] := by simpa using he
    rw [he2] at CN ⊢
    clear hbad he he2
    go_enter Try.func59, Try.ntmps59
    go_wp2_with fail
    refine CN.out.mono ?_
    rintro e w1 ⟨v, rfl, ho, hb⟩
    obtain ⟨A1, c1, rfl⟩ := ho.form
    go_wp2_with fail
    refine (CC.out _ hb).mono ?_
    rintro e w2 ⟨rfl, rfl⟩
    generalize b.any (fun n => n != 0) = r at *
    go_wp2
    go_ret2
    exact ⟨_, by rw [HB.out]; rfl, ho, hb⟩
  | false =>
    rw [he] at hbad
    have HB := Lib.hid hbad
    have hpos : 0 < (normB b).length := by
      cases e : normB b with
      | nil => rw [e] at he; simp at he
      | cons x r => simp
    generalize normB b = q at *
    clear hbad he
    go_enter Try.func59, Try.ntmps59
    go_wp2_with fail
    refine CN.out.mono ?_
    rintro e w1 ⟨v, rfl, ho, hb⟩
    obtain ⟨A1, c1, rfl⟩ := ho.form
    go_wp2
    go_ret2
    exact ⟨_, by rw [HB.out]; rfl, ho, hb⟩
set_option maxHeartbeats 2000000 in
theorem equalB_c (S S' : Nat → Prop) (A B : Option Addr) (ca cb : Nat) (a b : List Int) (w : World) (ha : Rd intT w S A ca a) (hb : Rd intT w S' B cb b) (n m : Nat) (hn : n = a.length) (hm : m = b.length) :
    Calls Try.prog 55 #[.slice A n ca, .slice B m cb] w fun e w' => e = .returned (.bool (decide (a = b))) ∧ Dr w w' := by
  subst hn hm
  have la := ha.lenMax
  have lb := hb.lenMax
  by_cases hl : a.length = b.length
  · have hlb : (a.length == b.length) = true := by simpa using hl
    have hlc : ((a.length : Int) != (b.length : Int)) = false := by simp; omega
    have Hl := Lib.hid hl
    clear hl
    go_enter Try.func55, Try.ntmps55
    go_wp2
    go_loopw [13] (fun v wr => ∃ k : Nat, k ≤ a.length ∧ v = .int .i64 k ∧ Hid (∀ i, i < k → a.getD i 0 = b.getD i 0) ∧ Dr w wr) (fun v _ => a.length - (intOf v).toNat)
    case atStart => exact ⟨0, Nat.zero_le _, rfl, fun i hi => absurd hi (by omega), Dr.refl _⟩
    case round =>
      obtain ⟨k, hk, rfl, hp, hbl⟩ := hrel
      by_cases hlt : k < a.length
      · have hltb : k < b.length := by rw [← Hl.out]; exact hlt
        obtain ⟨ad, rfl, hca⟩ := (ha.to hbl.bel).int hlt
        obtain ⟨bd, rfl, hcb⟩ := (hb.to hbl.bel).int hltb
        cases he : (a[k] == b[k]) with
        | true =>
          have Hs := Lib.hid (agree_snoc hlt hltb hp (beq_iff_eq.1 he))
          have he2 : (a[k] != b[k]) = false := by rw [bne, he]; rfl
          go_wp2
          go_quiet (fail)
          go_wp2
          go_roundw
          case rel => exact ⟨k + 1, by omega, by go_num, Hs.out, hbl.drewN _⟩
          case measure => simp [intOf]; omega
        | false =>
          have Hs := Lib.hid (show decide (a = b) = false from decide_eq_false (fun e => by subst e; simp at he))
          have he2 : (a[k] != b[k]) = true := by rw [bne, he]; rfl
          go_wp2
          go_quiet (fail)
          go_wp2
          go_ret
          exact ⟨by rw [Hs.out]; rfl, hbl.drewN _⟩
      · have Hs := Lib.hid (show decide (a = b) = true from decide_eq_true (list_ext Hl.out (fun i hi => hp i (by omega))))
        go_wp2
        go_ret
        exact ⟨by rw [Hs.out]; rfl, hbl⟩
  · have hlb : (a.length == b.length) = false := by simpa using hl
    have hlc : ((a.length : Int) != (b.length : Int)) = true := by simp; omega
    have Hs := Lib.hid (show decide (a = b) = false from decide_eq_false (fun e => hl (by rw [e])))
    clear hl
    go_enter Try.func55, Try.ntmps55
    go_wp2
    go_ret
    exact ⟨by rw [Hs.out]; rfl, Dr.refl _⟩
theorem of1_c (S S' : Nat → Prop) (A B : Option Addr) (ca cb : Nat) (a b : List Int) (w : World) (ha : Rd intT w S A ca a) (hb : Rd intT w S' B cb b) (n m : Nat) (hn : n = a.length) (hm : m = b.length) :
    Calls Try.prog 62 #[.slice A n ca, .slice B m cb] w fun e w' => e = .returned (.bool (decide (a = b))) ∧ Dr w w' := by
  have C := Lib.hid (equalB_c S S' A B ca cb a b w ha hb n m hn hm)
  clear ha hb hn hm
  generalize decide (a = b) = r at *
  go_enter Try.func62, Try.ntmps62
  go_wp2_with fail
  refine C.out.mono ?_
  rintro e w1 ⟨rfl, hd⟩
  go_wp2
  go_ret
  exact ⟨rfl, hd⟩
end Go.Proofs.Ytfkopkjioohgoaa

/- Walks: slices.CompactFunc over words. -/
namespace Go.Cb
open Go.RowKit
theorem ownsRow_pre {w : World} {base : Nat} {e : TypeId} {size g n cap : Nat} {xs : List Value} (h : w.ownsRow base e size (.slice (some ⟨g, 0, none⟩) n cap) n xs) {i : Nat} (hi : i ≤ n) :
    w.ownsRow base e size (.slice (some ⟨g, 0, none⟩) i cap) i (xs.take (i * size)) := by
  obtain ⟨hl, h2⟩ := h
  rcases h2 with ⟨h2, _⟩ | ⟨g', cap', cur, he, hb, hg, hn, hm, hs, ht⟩
  · simp at h2
  · injection he with he1 _ he2
    injection he1 with he1
    injection he1 with he1
    subst he1 he2
    have hle : i * size ≤ n * size := Nat.mul_le_mul_right _ hi
    refine ⟨by rw [List.length_take]; omega, .inr ⟨g, cap, cur, rfl, hb, hg, by omega, hm, hs, ?_⟩⟩
    rw [← ht, List.take_take, Nat.min_eq_left hle]
/-- A store into a row of one-cell elements. -/
theorem Own.set1 {α : Type} {d : Ty α} (hd : d.sz = 1) {e : TypeId} {w : World} {base g n cap : Nat} {S : Nat → Prop} {xs : List α} (h : Own d e w base S (.slice (some ⟨g, 0, none⟩) n cap) xs) (hn : n = xs.length) {i : Nat} (hi : i < n) {x : α} {u : Value} (hu : d.rd w (fun k => S k ∧ k ≠ g) x [u]) :
    Own d e (w.setCell ⟨g, i, none⟩ u) base S (.slice (some ⟨g, 0, none⟩) n cap) (xs.set i x) := by
  subst hn
  obtain ⟨inner, ho, hr⟩ := h
  rw [hd] at ho hr
  obtain ⟨h2, h3⟩ := World.ownsRow.stored ho i u
  have hil : inner.length = xs.length := by have := ho.1; omega
  have hob : (Value.slice (some ⟨g, 0, none⟩) xs.length cap).ownBlock = some g := rfl
  have keep : ∀ y cs, d.rd w (fun k => S k ∧ some k ≠ (Value.slice (some ⟨g, 0, none⟩) xs.length cap).ownBlock) y cs → d.rd (w.setCell ⟨g, i, none⟩ u) (fun k => S k ∧ some k ≠ (Value.slice (some ⟨g, 0, none⟩) xs.length cap).ownBlock) y cs := fun y cs hy =>
    d.step (fun k hk => by
      have hne : k ≠ g := fun e => hk.2 (by rw [e]; rfl)
      exact Below.heap_setCell w ⟨g, i, none⟩ u k hne) hy
  refine ⟨inner.set i u, by rw [hd, List.length_set]; exact h2, fun j y hj => ?_⟩
  rw [hd]
  by_cases e1 : j = i
  · subst e1
    rw [List.getElem?_set_self (by omega)] at hj
    injection hj with hj
    subst hj
    have : ((inner.set j u).drop (j * 1)).take 1 = [u] := by
      rw [Nat.mul_one, List.drop_eq_getElem_cons (by rw [List.length_set]; omega), List.getElem_set_self]; rfl
    rw [this]
    exact keep _ _ (d.mono (fun k hk => ⟨hk.1, fun e => hk.2 (by rw [hob] at e; injection e)⟩) hu)
  · rw [List.getElem?_set_ne (fun h => e1 h.symm)] at hj
    have hjl := (List.getElem?_eq_some_iff.1 hj).1
    have h4 := hr j y hj
    have : ((inner.set i u).drop (j * 1)).take 1 = (inner.drop (j * 1)).take 1 := by
      rw [Nat.mul_one, List.drop_eq_getElem_cons (by rw [List.length_set]; omega), List.drop_eq_getElem_cons (show j < inner.length by omega), List.getElem_set_ne (fun h => e1 h.symm)]
      rfl
    rw [this]
    exact keep _ _ h4
theorem Own.prefix_ {α : Type} {d : Ty α} {e : TypeId} {w : World} {base g n cap : Nat} {S : Nat → Prop} {xs : List α} (h : Own d e w base S (.slice (some ⟨g, 0, none⟩) n cap) xs) (hn : n = xs.length) {i : Nat} (hi : i ≤ n) :
    Own d e w base S (.slice (some ⟨g, 0, none⟩) i cap) (xs.take i) := by
  subst hn
  obtain ⟨inner, ho, hr⟩ := h
  have hil : inner.length = xs.length * d.sz := ho.1
  refine ⟨inner.take (i * d.sz), by rw [List.length_take, Nat.min_eq_left hi]; exact ownsRow_pre ho hi, fun j x hj => ?_⟩
  have hj2 : j < i := by have := (List.getElem?_eq_some_iff.1 hj).1; rw [List.length_take] at this; omega
  rw [List.getElem?_take, if_pos hj2] at hj
  have h1 := hr j x hj
  have hle : j * d.sz + d.sz ≤ i * d.sz := by rw [← Nat.succ_mul]; exact Nat.mul_le_mul_right _ hj2
  rw [List.drop_take, List.take_take, Nat.min_eq_left (by omega)]
  exact h1
theorem dr_grown {w w' : World} {row : Option Nat} (h : Dr w w') : w.grownBy w' row := by
  obtain ⟨q, rfl⟩ := h
  exact ⟨rfl, rfl, rfl, Nat.le_refl _, fun _ _ _ => rfl⟩
theorem grown_drewN {w W : World} {row : Option Nat} (h : w.grownBy W row) (q : Nat) : w.grownBy (W.drewN q) row := ⟨h.os, h.tape, h.output, h.size, h.block⟩
theorem grown_trans {w W W2 : World} {row : Option Nat} (h : w.grownBy W row) (k : W.grownBy W2 row) : w.grownBy W2 row :=
  ⟨k.os.trans h.os, k.tape.trans h.tape, k.output.trans h.output, Nat.le_trans h.size k.size, fun q hq hn => (k.block q (Nat.lt_of_lt_of_le hq h.size) hn).trans (h.block q hq hn)⟩
theorem grown_set {w W : World} {g : Nat} (h : w.grownBy W (some g)) (i : Nat) (u : Value) : w.grownBy (W.setCell ⟨g, i, none⟩ u) (some g) :=
  ⟨h.os, h.tape, h.output, by have := h.size; simpa [World.setCell] using this, fun q hq hn => (Below.heap_setCell W ⟨g, i, none⟩ u q (fun e => hn (by rw [e]))).trans (h.block q hq hn)⟩
theorem set_take {α : Type} {ys : List α} {k : Nat} (hk : k < ys.length) (u : α) : (ys.set k u).take (k + 1) = ys.take k ++ [u] := by
  rw [List.take_add_one, List.getElem?_set_self hk, List.take_set_of_le (Nat.le_refl _)]; rfl
theorem setL_take : ∀ (cs xs : List Value) (o : Nat), (setL xs o cs).take o = xs.take o
  | [], _, _ => rfl
  | c :: cs, xs, o => by
    rw [setL]
    have h := setL_take cs (xs.set o c) (o + 1)
    have h2 : ((setL (xs.set o c) (o + 1) cs).take (o + 1)).take o = ((xs.set o c).take (o + 1)).take o := by rw [h]
    rw [List.take_take, List.take_take, Nat.min_eq_left (by omega)] at h2
    rw [h2, List.take_set_of_le (Nat.le_refl _)]
theorem Own.cleared {α : Type} {d : Ty α} (hd : d.sz = 1) {e : TypeId} {w : World} {base g n cap : Nat} {S : Nat → Prop} {ys : List α} (h : Own d e w base S (.slice (some ⟨g, 0, none⟩) n cap) ys) (hn : n = ys.length) {k : Nat} (hk : k ≤ n) (cs : List Value) :
    Own d e (w.setCells g k cs) base S (.slice (some ⟨g, 0, none⟩) k cap) (ys.take k) ∧ w.grownBy (w.setCells g k cs) (some g) := by
  subst hn
  obtain ⟨inner, ho, hr⟩ := h
  rw [hd] at ho hr
  obtain ⟨r1, g1, _⟩ := ownsRow_setCells cs k w inner ho
  have r2 := ownsRow_prefix r1 hk
  rw [Nat.mul_one, setL_take] at r2
  refine ⟨⟨inner.take k, by rw [hd, List.length_take, Nat.min_eq_left hk]; exact r2, fun j x hj => ?_⟩, g1⟩
  rw [hd]
  have hj2 : j < k := by have := (List.getElem?_eq_some_iff.1 hj).1; rw [List.length_take] at this; omega
  rw [List.getElem?_take, if_pos hj2] at hj
  have h1 := hr j x hj
  rw [Nat.mul_one] at h1 ⊢
  rw [List.drop_take, List.take_take, Nat.min_eq_left (by omega)]
  refine d.mono (fun q hq => hq) (d.rd_step h1 (fun q hq hlt => g1.block q hlt hq.2))
end Go.Cb
namespace Go.Proofs.Ytfkopkjioohgoaa
open Go.RowKit Go.Cb
theorem own_row {w : World} {base n c : Nat} {e : TypeId} {A : Option Addr} {S : Nat → Prop} {xs : List (List Int)} (h : Own wbT e w base S (.slice A n c) xs) {k : Nat} (hk : k < xs.length) :
    ∃ g B cb, A = some ⟨g, 0, none⟩ ∧ base ≤ g ∧ g < w.heap.size ∧ w.cell? ⟨g, k, none⟩ = some (.slice B xs[k].length cb) ∧ RdW w (fun q => S q ∧ q ≠ g) B cb xs[k] ∧ w.frozen? ⟨g, k, none⟩ = false := by
  obtain ⟨A', c', he, _⟩ := h.rd
  injection he with e1 e2 e3
  subst e1 e3
  obtain ⟨g, rfl, hg1, hg2⟩ := h.addr (by omega)
  obtain ⟨inner, ho, hr⟩ := h
  subst e2
  have hil : inner.length = xs.length := by have := ho.1; simpa [wbT] using this
  obtain ⟨B, cb, hcs, hR⟩ := hr k xs[k] (List.getElem?_eq_getElem hk)
  have hcell := ho.cells (g := g) rfl k (.slice B xs[k].length cb) (by
    have h1 : (inner.drop (k * 1)).take 1 = [.slice B xs[k].length cb] := hcs
    rw [Nat.mul_one, List.drop_eq_getElem_cons (by omega)] at h1
    have h2 : inner[k]'(by omega) = .slice B xs[k].length cb := by injection h1
    rw [List.getElem?_eq_getElem (by omega), h2])
  rw [add_plain] at hcell
  exact ⟨g, B, cb, rfl, hg1, hg2, hcell, hR.mono (fun q hq => ⟨hq.1, fun e => hq.2 (by rw [e]; rfl)⟩), World.ownsRow.frozenAt ho k⟩
theorem zero_bag (w : World) : (zeroValue 43).run Try.prog w = .ok (.slice none 0 0) w := by kernel_rfl
set_option maxHeartbeats 4000000 in
set_option maxRecDepth 100000 in
theorem compact_c {w : World} {base c n : Nat} {A : Option Addr} {S : Nat → Prop} {xs : List (List Int)} (h : Own wbT 43 w base S (.slice A n c) xs) (hn : n = xs.length) :
    Calls Try.prog 61 #[.slice A n c, .func (.func 62) #[] #[]] w fun e w' =>
      e = .returned (.slice A (cmpct xs).length c) ∧ Own wbT 43 w' base S (.slice A (cmpct xs).length c) (cmpct xs) ∧ w.grownBy w' (Value.slice A n c).ownBlock := by
  have hcf : ∀ (args : Array Value) (w : World), (callFunc 62 args).run Try.prog w = .ok (.enter 62 args) w := fun _ _ => by kernel_rfl
  have hcap : n ≤ c ∧ c ≤ 9223372036854775807 := by
    obtain ⟨A', c', he, hr⟩ := h.rd
    injection he with e1 e2 e3
    have h1 := hr.cap
    have h2 := hr.capMax
    unfold maxLen at h2
    subst e3
    omega
  obtain ⟨hc1, hc2⟩ := hcap
  have HH := Lib.hid h
  have HN := Lib.hid hn
  clear h hn
  by_cases h2 : n < 2
  · have Hs := Lib.hid (show cmpct xs = xs by
      have := HN.out
      rcases xs with _ | ⟨x, _ | ⟨y, r⟩⟩
      · rfl
      · rfl
      · simp at this; omega)
    have d1 : decide ((n : Int) < 2) = true := decide_eq_true (by omega)
    go_enter Try.func61, Try.ntmps61
    go_wp2
    go_ret
    refine ⟨by rw [Hs.out, ← HN.out]; rfl, by rw [Hs.out, ← HN.out]; exact HH.out, ⟨rfl, rfl, rfl, Nat.le_refl _, fun _ _ _ => rfl⟩⟩
  · have d1 : decide ((n : Int) < 2) = false := decide_eq_false (by omega)
    go_enter Try.func61, Try.ntmps61
    go_wp2
    go_loopw [5] (fun v5 wr => ∃ k : Nat, 1 ≤ k ∧ k ≤ n ∧ v5 = .int .i64 k ∧ Hid (cmpct (xs.take k) = xs.take k) ∧ Dr w wr) (fun v5 _ => n - (intOf v5).toNat)
    case atStart => exact ⟨1, Nat.le_refl _, by omega, rfl, (by
      have := HN.out
      rcases xs with _ | ⟨x, r⟩
      · rfl
      · rfl : cmpct (xs.take 1) = xs.take 1), Dr.refl _⟩
    case round =>
      obtain ⟨k, hk1, hkn, rfl, HP, hd⟩ := hrel
      by_cases hlt : k < n
      · have hown := HH.out.to hd.bel
        obtain ⟨g, B, cb, rfl, hg1, hg2, hc0, hR0, hf0⟩ := own_row hown (k := k) (by rw [← HN.out]; exact hlt)
        obtain ⟨g', B', cb', e', _, _, hc1', hR1, hf1⟩ := own_row hown (k := k - 1) (by rw [← HN.out]; omega)
        obtain rfl : g = g' := by injection e' with e'; injection e'
        obtain ⟨x, hx⟩ : ∃ x, xs[k]'(by rw [← HN.out]; exact hlt) = x := ⟨_, rfl⟩
        obtain ⟨y, hy⟩ : ∃ y, xs[k - 1]'(by rw [← HN.out]; omega) = y := ⟨_, rfl⟩
        have HX := Lib.hid (show xs[k]? = some x by rw [List.getElem?_eq_getElem (by rw [← HN.out]; exact hlt), hx])
        have HY := Lib.hid (show xs[k - 1]? = some y by rw [List.getElem?_eq_getElem (by rw [← HN.out]; omega), hy])
        rw [hx] at hc0 hR0
        rw [hy] at hc1' hR1
        have Q2 := fun m => of1_c _ _ _ _ _ _ _ _ _ (hR0.rd.to ((Bel.refl _).drewN m)) (hR1.rd.to ((Bel.refl _).drewN m)) _ _ rfl rfl
        have hw : IntKind.i64.wrap ((k : Int) - 1) = ((k - 1 : Nat) : Int) := by rw [IntKind.wrap_i64]; omega
        have hct := cmpct_take hk1 HY.out HX.out
        clear hx hy hR0 hR1 e'
        by_cases he : x = y
        · rw [if_pos he.symm, HP.out] at hct
          have HC := Lib.hid hct
          simp only [decide_eq_true he] at Q2
          clear he hct
          have hk1' : 1 ≤ k := hk1
          have hb1 : ¬ (c = k) := by omega
          have hb2 : (k : Int) ≤ (n : Int) := by omega
          go_wp2
          go_quiet ((go_at_call 62; exact Calls.quiet_of (Q2 _)))
          clear Q2
          go_wp2
          go_loopw [5, 7] (fun v5 v7 wr => ∃ (kk j : Nat) (W : World) (ys : List (List Int)), W = wr ∧ 1 ≤ j ∧ j ≤ n - k ∧ v5 = .int .i64 kk ∧ v7 = .int .i64 j ∧ kk + 1 ≤ k + j ∧ Hid (kk = (cmpct (xs.take (k + j))).length) ∧ Hid (ys.length = n) ∧ Own wbT 43 wr base S (.slice (some ⟨g, 0, none⟩) n c) ys ∧ Hid (ys.take kk = cmpct (xs.take (k + j))) ∧ Hid (∀ i, k + j - 1 ≤ i → ys[i]? = xs[i]?) ∧ w.grownBy wr (some g)) (fun _ v7 _ => n - k - (intOf v7).toNat)
          case atStart => exact ⟨k, 1, _, xs, rfl, Nat.le_refl _, by omega, rfl, rfl, Nat.le_refl _, (by rw [HC.out, List.length_take, ← HN.out]; omega : k = (cmpct (xs.take (k + 1))).length), HN.out.symm, HH.out.to (hd.drewN _).bel, HC.out.symm, (fun i _ => rfl : ∀ i, k + 1 - 1 ≤ i → xs[i]? = xs[i]?), dr_grown (hd.drewN _)⟩
          case round =>
            clear hc0 hc1' hf0 hf1 hown
            obtain ⟨kk, j, W, ys, rfl, hj1, hjn, rfl, rfl, hkj, HKK, HYL, hO, HT, HE, hG⟩ := hrel
            by_cases hjl : j < n - k
            · obtain ⟨g2, B2, cb2, e2, _, _, hd0, hS0, _⟩ := own_row hO (k := k + j) (by rw [HYL.out]; omega)
              obtain rfl : g = g2 := by injection e2 with e2; injection e2
              obtain ⟨g3, B3, cb3, e3, _, _, hd1, hS1, _⟩ := own_row hO (k := k + (j - 1)) (by rw [HYL.out]; omega)
              obtain rfl : g = g3 := by injection e3 with e3; injection e3
              obtain ⟨g4, B4, cb4, e4, _, hg4, hd2, _, hfk⟩ := own_row hO (k := kk) (by rw [HYL.out]; omega)
              obtain rfl : g = g4 := by injection e4 with e4; injection e4
              obtain ⟨u, hu⟩ : ∃ u, ys[k + j]'(by rw [HYL.out]; omega) = u := ⟨_, rfl⟩
              obtain ⟨z, hz⟩ : ∃ z, ys[k + (j - 1)]'(by rw [HYL.out]; omega) = z := ⟨_, rfl⟩
              have HU := Lib.hid (show xs[k + j]? = some u by rw [← HE.out (k + j) (by omega), List.getElem?_eq_getElem (by rw [HYL.out]; omega), hu])
              have HZ := Lib.hid (show xs[k + (j - 1)]? = some z by rw [← HE.out (k + (j - 1)) (by omega), List.getElem?_eq_getElem (by rw [HYL.out]; omega), hz])
              rw [hu] at hd0 hS0
              rw [hz] at hd1 hS1
              have Q3 := fun m => of1_c _ _ _ _ _ _ _ _ _ (hS0.rd.to ((Bel.refl _).drewN m)) (hS1.rd.to ((Bel.refl _).drewN m)) _ _ rfl rfl
              have hw2 : IntKind.i64.wrap ((j : Int) - 1) = ((j - 1 : Nat) : Int) := by rw [IntKind.wrap_i64]; omega
              have hct2 := cmpct_take (l := xs) (k := k + j) (by omega) (by rw [show k + j - 1 = k + (j - 1) by omega]; exact HZ.out) HU.out
              clear hu hz e2 e3 e4 hS1
              by_cases he : u = z
              · rw [if_pos he.symm] at hct2
                have HC2 := Lib.hid hct2
                simp only [decide_eq_true he] at Q3
                clear he hct2
                go_wp2
                go_quiet ((go_at_call 62; exact Calls.quiet_of (Q3 _)))
                clear Q3
                go_wp2
                go_roundw
                case rel => exact ⟨kk, j + 1, _, ys, rfl, by omega, by omega, rfl, by go_num, by omega, (by rw [show k + (j + 1) = k + j + 1 by omega, HC2.out]; exact HKK.out : kk = (cmpct (xs.take (k + (j + 1)))).length), HYL.out, hO.to ((Bel.refl W).drewN _), (by rw [show k + (j + 1) = k + j + 1 by omega, HC2.out]; exact HT.out : ys.take kk = cmpct (xs.take (k + (j + 1)))), (fun i hi => HE.out i (by omega) : ∀ i, k + (j + 1) - 1 ≤ i → ys[i]? = xs[i]?), grown_drewN hG _⟩
                case measure => simp [intOf]; omega
              · rw [if_neg (fun h => he h.symm)] at hct2
                have HC2 := Lib.hid hct2
                simp only [decide_eq_false he] at Q3
                clear he hct2
                go_wp2
                go_quiet ((go_at_call 62; exact Calls.quiet_of (Q3 _)))
                clear Q3
                go_wp2
                go_roundw
                case rel => exact ⟨kk + 1, j + 1, _, ys.set kk u, rfl, by omega, by omega, by go_num, by go_num, by omega, (by rw [show k + (j + 1) = k + j + 1 by omega, HC2.out, List.length_append, ← HKK.out]; rfl : kk + 1 = (cmpct (xs.take (k + (j + 1)))).length), (by rw [List.length_set]; exact HYL.out : (ys.set kk u).length = n), Own.set1 rfl (hO.to ((Bel.refl W).drewN _)) HYL.out.symm (by omega) ⟨B2, cb2, rfl, hS0.to ((Bel.refl W).drewN _)⟩, (by rw [show k + (j + 1) = k + j + 1 by omega, HC2.out, set_take (by rw [HYL.out]; omega), HT.out] : (ys.set kk u).take (kk + 1) = cmpct (xs.take (k + (j + 1)))), (fun i hi => by rw [List.getElem?_set_ne (by omega)]; exact HE.out i (by omega) : ∀ i, k + (j + 1) - 1 ≤ i → (ys.set kk u)[i]? = xs[i]?), grown_set (grown_drewN hG _) _ _⟩
                case measure => simp [intOf]; omega
            · have hjk : k + j = n := by omega
              have htx : xs.take n = xs := List.take_of_length_le (by rw [← HN.out]; exact Nat.le_refl _)
              have HK2 := Lib.hid (show kk = (cmpct xs).length by have := HKK.out; rw [hjk, htx] at this; exact this)
              have HT2 := Lib.hid (show ys.take kk = cmpct xs by have := HT.out; rw [hjk, htx] at this; exact this)
              clear htx
              have hcl := fun ty c0 => Lib.run_clear_slice (P := Try.prog) W 44 43 ty (.slice none 0 0) Try.underlying44 zero_bag rfl rfl g kk (n - kk) c0 (by omega)
                (fun i hi => by
                  obtain ⟨g5, B5, cb5, e5, _, _, h5, _, _⟩ := own_row hO (k := kk + i) (by rw [HYL.out]; omega)
                  obtain rfl : g = g5 := by injection e5 with e5; injection e5
                  rw [h5]; rfl)
                (fun i hi => by
                  obtain ⟨g5, B5, cb5, e5, _, _, _, _, h5⟩ := own_row hO (k := kk + i) (by rw [HYL.out]; omega)
                  obtain rfl : g = g5 := by injection e5 with e5; injection e5
                  exact h5)
              obtain ⟨o1, g1⟩ := Own.cleared rfl hO HYL.out.symm (k := kk) (by omega) (List.replicate (n - kk) (.slice none 0 0))
              rw [HT2.out] at o1
              have hG2 := grown_trans hG g1
              have hb3 : ¬ (c = kk) := by omega
              have hb4 : (kk : Int) ≤ (n : Int) := by omega
              have hb5 : kk ≤ c := by omega
              have hb6 : (kk : Int) ≤ (c : Int) := by omega
              have HO1 := Lib.hid o1
              clear o1 g1 hO hjk
              go_wp2
              go_ret
              exact ⟨by rw [← HK2.out]; rfl, by rw [← HK2.out]; exact HO1.out, hG2⟩
        · rw [if_neg (fun h => he h.symm), HP.out] at hct
          have HC := Lib.hid (show cmpct (xs.take (k + 1)) = xs.take (k + 1) by rw [hct, List.take_add_one, HX.out]; rfl)
          simp only [decide_eq_false he] at Q2
          clear he hct
          go_wp2
          go_quiet ((go_at_call 62; exact Calls.quiet_of (Q2 _)))
          clear Q2
          go_wp2
          go_roundw
          case rel => exact ⟨k + 1, by omega, by omega, by go_num, HC.out, hd.drewN _⟩
          case measure => simp [intOf]; omega
      · obtain rfl : k = n := by omega
        have Hs := Lib.hid (show cmpct xs = xs by have := HP.out; rw [List.take_of_length_le (by rw [← HN.out]; exact Nat.le_refl _)] at this; exact this)
        go_wp2
        go_ret
        exact ⟨by rw [Hs.out, ← HN.out]; rfl, by rw [Hs.out, ← HN.out]; exact HH.out.to hd.bel, dr_grown hd⟩
end Go.Proofs.Ytfkopkjioohgoaa

/- slices.SortFunc over words: the library's contract at a row of the call's own. -/
namespace Go.Cb
open Go.RowKit Go.Sort Go.Proofs
theorem sortW_heap {α : Type} [Inhabited α] (enc : α → Value) (w : World) (g off m : Nat) (dk : Array α) (os : Array Obj) {k : Nat} (hk : k < w.heap.size) (hne : k ≠ g) : (sortWorld enc w g off m dk os).heap[k]? = w.heap[k]? := by
  show ((putRow enc (Sort.ahead w m) g off dk).heap ++ os)[k]? = _
  rw [Array.getElem?_append_left (by rw [Go.Sort.size_putRow]; exact hk)]
  show ((Sort.ahead w m).heap.modify g _)[k]? = _
  rw [Array.getElem?_modify, if_neg (Ne.symm hne)]
  rfl
theorem sortW_row {α : Type} [Inhabited α] (enc : α → Value) (w : World) (g m : Nat) (dk : Array α) (os : Array Obj) {cur : Array Value} {e : TypeId} (hg : w.heap[g]? = some (.cells cur e (0, 0))) : (sortWorld enc w g 0 m dk os).heap[g]? = some (.cells (putCells enc 0 dk cur) e (0, 0)) := by
  have hk : g < w.heap.size := blk_lt hg
  show ((putRow enc (Sort.ahead w m) g 0 dk).heap ++ os)[g]? = _
  rw [Array.getElem?_append_left (by rw [Go.Sort.size_putRow]; exact hk)]
  show ((Sort.ahead w m).heap.modify g _)[g]? = _
  rw [Array.getElem?_modify, if_pos rfl]
  show (w.heap[g]?).map _ = _
  rw [hg]
  rfl
theorem putC_take {α : Type} [Inhabited α] (enc : α → Value) (cur : Array Value) (d : Array α) (h : d.size ≤ cur.size) : (putCells enc 0 d cur).toList.take d.size = d.toList.map enc := by
  apply List.ext_getElem?
  intro i
  rw [List.getElem?_take]
  by_cases hi : i < d.size
  · rw [if_pos hi, Array.getElem?_toList, List.getElem?_map, Array.getElem?_toList, Array.getElem?_eq_getElem hi]
    unfold putCells
    rw [Array.getElem?_mapIdx, Array.getElem?_eq_getElem (by omega)]
    simp [hi, getElem!_pos]
  · rw [if_neg hi, List.getElem?_map, Array.getElem?_toList, Array.getElem?_eq_none (by omega)]; rfl
end Go.Cb
namespace Go.Proofs
open Go.Shelf Go.RowKit Go.Lib Go.Sort
def Try.sortL_ren : Go.Shelf.Ren := ⟨fun | 6 => 60 | 15 => 54 | 14 => 81 | 28 => 76 | 29 => 77 | 20 => 89 | 21 => 90 | 22 => 91 | 23 => 92 | 24 => 93 | 25 => 94 | 26 => 95 | 27 => 96 | 46 => 98 | 47 => 84 | 48 => 85 | 49 => 99 | 50 => 100 | 57 => 101 | n => n, fun | 22 => 44 | 24 => 43 | 25 => 86 | 3 => 3 | 39 => 95 | 0 => 0 | 53 => 113 | 55 => 115 | 4 => 4 | 46 => 107 | 45 => 106 | 50 => 97 | 5 => 5 | 9 => 9 | 66 => 118 | 70 => 122 | 76 => 129 | 77 => 130 | n => n, fun | n => n⟩
theorem Try.sortL : Go.Proofs.SlLaysF.n6 Try.prog Try.sortL_ren := {
  mixed := by kernel_rfl
  f6 := ⟨Try.f60.name, by decide, Try.func60.trans (congrArg some (by kernel_rfl))⟩
  f14 := ⟨Try.f81.name, by decide, Try.func81.trans (congrArg some (by kernel_rfl))⟩
  f15 := Try.func54.trans (congrArg some (by kernel_rfl))
  f20 := ⟨Try.f89.name, by decide, Try.func89.trans (congrArg some (by kernel_rfl))⟩
  f21 := ⟨Try.f90.name, by decide, Try.func90.trans (congrArg some (by kernel_rfl))⟩
  f22 := ⟨Try.f91.name, by decide, Try.func91.trans (congrArg some (by kernel_rfl))⟩
  f23 := ⟨Try.f92.name, by decide, Try.func92.trans (congrArg some (by kernel_rfl))⟩
  f24 := ⟨Try.f93.name, by decide, Try.func93.trans (congrArg some (by kernel_rfl))⟩
  f25 := ⟨Try.f94.name, by decide, Try.func94.trans (congrArg some (by kernel_rfl))⟩
  f26 := ⟨Try.f95.name, by decide, Try.func95.trans (congrArg some (by kernel_rfl))⟩
  f27 := ⟨Try.f96.name, by decide, Try.func96.trans (congrArg some (by kernel_rfl))⟩
  f28 := Try.func76.trans (congrArg some (by kernel_rfl))
  f29 := Try.func77.trans (congrArg some (by kernel_rfl))
  f46 := ⟨Try.f98.name, by decide, Try.func98.trans (congrArg some (by kernel_rfl))⟩
  f47 := Try.func84.trans (congrArg some (by kernel_rfl))
  f48 := Try.func85.trans (congrArg some (by kernel_rfl))
  f49 := ⟨Try.f99.name, by decide, Try.func99.trans (congrArg some (by kernel_rfl))⟩
  f50 := ⟨Try.f100.name, by decide, Try.func100.trans (congrArg some (by kernel_rfl))⟩
  f57 := ⟨Try.f101.name, by decide, Try.func101.trans (congrArg some (by kernel_rfl))⟩
  t0 := Try.underlying0
  a0 := Try.isAgg0
  z0 := Try.sizeOf0
  v0 := Try.zeroValue0
  t3 := Try.underlying3
  a3 := Try.isAgg3
  z3 := Try.sizeOf3
  v3 := Try.zeroValue3
  t4 := Try.underlying4
  a4 := Try.isAgg4
  z4 := Try.sizeOf4
  v4 := Try.zeroValue4
  t5 := Try.underlying5
  a5 := Try.isAgg5
  z5 := Try.sizeOf5
  v5 := Try.zeroValue5
  t9 := Try.underlying9
  a9 := Try.isAgg9
  z9 := Try.sizeOf9
  v9 := Try.zeroValue9
  t22 := Try.underlying44
  a22 := Try.isAgg44
  z22 := Try.sizeOf44
  v22 := Try.zeroValue44
  a24 := Try.isAgg43
  z24 := Try.sizeOf43
  t25 := Try.underlying86
  a25 := Try.isAgg86
  z25 := Try.sizeOf86
  v25 := Try.zeroValue86
  t39 := Try.underlying95
  a39 := Try.isAgg95
  z39 := Try.sizeOf95
  v39 := Try.zeroValue95
  t45 := Try.underlying106
  a45 := Try.isAgg106
  z45 := Try.sizeOf106
  v45 := Try.zeroValue106
  t46 := Try.underlying107
  a46 := Try.isAgg107
  z46 := Try.sizeOf107
  v46 := Try.zeroValue107
  t50 := Try.underlying97
  a50 := Try.isAgg97
  z50 := Try.sizeOf97
  v50 := Try.zeroValue97
  t53 := Try.underlying113
  a53 := Try.isAgg113
  z53 := Try.sizeOf113
  v53 := Try.zeroValue113
  t55 := Try.underlying115
  a55 := Try.isAgg115
  z55 := Try.sizeOf115
  v55 := Try.zeroValue115
  t66 := Try.underlying118
  a66 := Try.isAgg118
  z66 := Try.sizeOf118
  v66 := Try.zeroValue118
  t70 := Try.underlying122
  a70 := Try.isAgg122
  z70 := Try.sizeOf122
  v70 := Try.zeroValue122
  t76 := Try.underlying129
  a76 := Try.isAgg129
  z76 := Try.sizeOf129
  v76 := Try.zeroValue129
  t77 := Try.underlying130
  a77 := Try.isAgg130
  z77 := Try.sizeOf130
  v77 := Try.zeroValue130 }
end Go.Proofs
namespace Go.Proofs.Ytfkopkjioohgoaa
open Go.RowKit Go.Cb Go.Sort Go.Proofs
/-- A word where it lies: its slice reads so in w, outside of block g. -/
abbrev WordAt (w : World) (S : Nat → Prop) (g : Nat) : Type := { x : Option Addr × Nat × List Int // RdW w (fun q => (S q ∧ q ≠ g) ∧ q < w.heap.size) x.1 x.2.1 x.2.2 ∧ rightB x.2.2 = true }
instance (w : World) (S : Nat → Prop) (g : Nat) : Inhabited (WordAt w S g) := ⟨⟨(none, 0, []), RdW.nil _ _ _ _ (by decide), rfl⟩⟩
def encW {w : World} {S : Nat → Prop} {g : Nat} (x : WordAt w S g) : Value := .slice x.1.1 x.1.2.2.length x.1.2.1
def cfW {w : World} {S : Nat → Prop} {g : Nat} (x y : WordAt w S g) : Int := cmpB x.1.2.2 y.1.2.2
theorem swoW {w : World} {S : Nat → Prop} {g : Nat} : SWO (ltOf (cfW (w := w) (S := S) (g := g))) where
  irrefl := fun x => decide_eq_false (by show ¬ cmpB _ _ < 0; have := cmpB_neg x.1.2.2 x.1.2.2; omega)
  trans := fun x y z h1 h2 => decide_eq_true (cmpB_ltt x.2.2 y.2.2 z.2.2 (of_decide_eq_true h1) (of_decide_eq_true h2))
  ntrans := fun x y z h1 h2 => decide_eq_false (by
    have h1 : ¬ cmpB x.1.2.2 y.1.2.2 < 0 := of_decide_eq_false h1
    have h2 : ¬ cmpB y.1.2.2 z.1.2.2 < 0 := of_decide_eq_false h2
    show ¬ cmpB x.1.2.2 z.1.2.2 < 0
    have a1 := cmpB_neg x.1.2.2 y.1.2.2
    have a2 := cmpB_neg y.1.2.2 z.1.2.2
    have a3 := cmpB_neg x.1.2.2 z.1.2.2
    have := cmpB_trans z.2.2 y.2.2 x.2.2 (by omega) (by omega)
    omega)
theorem cmpW {w : World} {S : Nat → Prop} {g : Nat} (n : Nat) : CmpLays1 Try.prog 47 #[] (encW (w := w) (S := S) (g := g)) cfW g 0 n w := fun m os dk _ x y => by
  have hx := x.2.1.rd.step' (w' := sortWorld encW w g 0 m dk os) (fun k hk => sortW_heap encW w g 0 m dk os hk.2 hk.1.2)
  have hy := y.2.1.rd.step' (w' := sortWorld encW w g 0 m dk os) (fun k hk => sortW_heap encW w g 0 m dk os hk.2 hk.1.2)
  refine (bagCompare_c _ _ _ _ _ _ _ _ _ hx hy _ _ rfl rfl).mono ?_
  rintro e w' ⟨rfl, rfl⟩
  exact ⟨rfl, 0, #[], by rw [grow_empty]; rfl⟩
set_option maxHeartbeats 1000000 in
/-- slices.SortFunc(s, bag.Compare) over right words: what it held, sorted. -/
theorem sort_c {w : World} {base g c n : Nat} {S : Nat → Prop} {xs : List (List Int)} (h : Own wbT 43 w base S (.slice (some ⟨g, 0, none⟩) n c) xs) (hn : n = xs.length) (hr : ∀ p ∈ xs, rightB p = true) (hsm : n < 4611686018427387904) :
    Calls Try.prog 60 #[.slice (some ⟨g, 0, none⟩) n c, .func (.func 47) #[] #[]] w fun e w' =>
      e = .returned (.tuple #[]) ∧ ∃ ys, ys.Perm xs ∧ (ys.Pairwise fun x y => ¬ cmpB y x < 0) ∧ Own wbT 43 w' base S (.slice (some ⟨g, 0, none⟩) n c) ys ∧ w.grownBy w' (some g) := by
  subst hn
  have hex : ∀ i : Fin xs.length, ∃ a : WordAt w S g, a.1.2.2 = xs[i] ∧ w.cell? ⟨g, i, none⟩ = some (encW a) := fun i => by
    obtain ⟨g', B, cb, e1, _, _, hc, hR, _⟩ := own_row h i.2
    obtain rfl : g = g' := by injection e1 with e1; injection e1
    exact ⟨⟨(B, cb, xs[i]), hR.bound, hr _ (List.getElem_mem _)⟩, rfl, hc⟩
  obtain ⟨f, hf⟩ := Classical.axiomOfChoice hex
  obtain ⟨d, hd⟩ : ∃ d : Array (WordAt w S g), d = Array.ofFn f := ⟨_, rfl⟩
  have hds : d.size = xs.length := by rw [hd, Array.size_ofFn]
  have hdj : ∀ j (hj : j < xs.length), d[j]! = f ⟨j, hj⟩ := fun j hj => by rw [getElem!_pos d j (by omega)]; simp [hd]
  have hgl : g < w.heap.size := h.lt rfl
  obtain ⟨inner, ho, hr2⟩ := h
  have hfz : ∀ j, w.frozen? ⟨g, j, none⟩ = false := fun j => World.ownsRow.frozenAt ho j
  have hH : Holds encW w g 0 d := fun j hj => by
    rw [Nat.zero_add, hdj j (by omega)]
    exact ⟨(hf ⟨j, by omega⟩).2, hfz j⟩
  have hcon := Any.slices_SortFunc Try.sortL encW (fun _ => rfl) cfW swoW 47 #[] g 0 c d w (enters_of Try.func47 (by kernel_rfl) rfl) (cmpW d.size) hH hgl (by omega)
  change Calls Try.prog 60 _ _ _ at hcon
  rw [hds] at hcon
  refine hcon.mono ?_
  rintro e w' ⟨rfl, d', m, os, hp, hs, rfl⟩
  have hd's : d'.size = xs.length := by rw [hp.1, hds]
  have hmap : d.toList.map (fun a => a.1.2.2) = xs := by
    apply List.ext_getElem?
    intro k
    by_cases hk : k < xs.length
    · have e1 : d[k]'(by omega) = f ⟨k, hk⟩ := by rw [← hdj k hk, getElem!_pos d k (by omega)]
      rw [List.getElem?_map, Array.getElem?_toList, Array.getElem?_eq_getElem (by omega), e1, List.getElem?_eq_getElem hk]
      show some (f ⟨k, hk⟩).1.2.2 = _
      rw [(hf ⟨k, hk⟩).1]; rfl
    · rw [List.getElem?_eq_none (by rw [List.length_map, Array.length_toList]; omega), List.getElem?_eq_none (by omega)]
  have hperm : (d'.toList.map fun a => a.1.2.2).Perm xs := by
    have h3 := hp.2.2
    rw [show d'.extract 0 xs.length = d' by rw [← hd's]; simp, show d.extract 0 xs.length = d by rw [← hds]; simp] at h3
    have h4 := h3.map (fun a : WordAt w S g => a.1.2.2)
    rw [hmap] at h4
    exact h4
  have hlen : (d'.toList.map fun a => a.1.2.2).length = xs.length := by rw [List.length_map, Array.length_toList]; exact hd's
  have hgrow : w.grownBy (sortWorld encW w g 0 m d' os) (some g) := ⟨rfl, rfl, rfl, by
    show w.heap.size ≤ ((putRow encW (Sort.ahead w m) g 0 d').heap ++ os).size
    rw [Array.size_append, Go.Sort.size_putRow]
    show w.heap.size ≤ w.heap.size + os.size
    omega, fun k hk hne => sortW_heap encW w g 0 m d' os hk (fun e => hne (by rw [e]))⟩
  refine ⟨rfl, _, hperm, ?_, ⟨d'.toList.map encW, ?_, fun j x hj => ?_⟩, hgrow⟩
  · refine List.pairwise_iff_getElem.2 fun i j hi hj hij => ?_
    rw [hlen] at hi hj
    have h5 := hs i j (Nat.zero_le _) hij hj
    rw [getElem!_pos d' j (by omega), getElem!_pos d' i (by omega)] at h5
    have h6 : ¬ cmpB (d'[j]'(by omega)).1.2.2 (d'[i]'(by omega)).1.2.2 < 0 := of_decide_eq_false h5
    simpa using h6
  · refine ⟨by rw [List.length_map, Array.length_toList, hd's, hlen]; simp [wbT], ?_⟩
    rcases ho.2 with ⟨e1, e2⟩ | ⟨g', cap, cur, e1, b1, b2, b3, b4, b5, b6⟩
    · injection e1 with e1; cases e1
    · injection e1 with e1 _ e3
      injection e1 with e1
      injection e1 with e1
      subst e1 e3
      refine .inr ⟨g, c, _, by rw [hlen], b1, sortW_row encW w g m d' os b2, by rw [hlen]; exact b3, b4, ?_, ?_⟩
      · unfold putCells
        rw [Array.size_mapIdx]; exact b5
      · rw [hlen]
        have hsz1 : wbT.sz = 1 := rfl
        rw [hsz1] at b5 ⊢
        rw [Nat.mul_one, ← hd's]
        exact putC_take encW cur d' (by omega)
  · rw [List.getElem?_map, Array.getElem?_toList] at hj
    obtain ⟨a, ha, rfl⟩ := Option.map_eq_some_iff.1 hj
    obtain ⟨hja, rfl⟩ := Array.getElem?_eq_some_iff.1 ha
    have e1 : ((d'.toList.map encW).drop (j * wbT.sz)).take wbT.sz = [encW d'[j]] := by
      have hsz1 : wbT.sz = 1 := rfl
      rw [hsz1, Nat.mul_one, List.drop_eq_getElem_cons (by rw [List.length_map, Array.length_toList]; exact hja)]
      simp
    rw [e1]
    exact ⟨d'[j].1.1, d'[j].1.2.1, rfl, (d'[j].2.1.step' (fun k hk => sortW_heap encW w g 0 m d' os hk.2 hk.1.2)).mono (fun k hk => ⟨hk.1.1, fun e => hk.1.2 (Option.some.inj e)⟩)⟩
end Go.Proofs.Ytfkopkjioohgoaa

/- Walks: lin.Of. -/
namespace Go.Cb
theorem nzB_snoc {ps : List (List Int)} {k : Nat} {p : List Int} (h : ps[k]? = some p) : nzB (ps.take (k + 1)) = if (normB p).isEmpty = true then nzB (ps.take k) else nzB (ps.take k) ++ [normB p] := by
  unfold nzB
  rw [List.take_add_one, h]
  simp only [Option.toList_some, List.map_append, List.map_cons, List.map_nil, List.filter_append]
  by_cases e : (normB p).isEmpty = true
  · rw [if_pos e]; simp [e]
  · rw [if_neg e]; simp [e]
theorem own_snoc {α : Type} {d : Ty α} {e : TypeId} {w : World} {base : Nat} {S : Nat → Prop} {v : Value} {q : List α} {x : α} (h : Own d e w base S v (q ++ [x])) : ∃ A c, v = .slice A (q.length + 1) c := by
  obtain ⟨A, c, hv⟩ := h.form
  exact ⟨A, c, by rw [hv, List.length_append]; rfl⟩
theorem nzB_length (ps : List (List Int)) : (nzB ps).length ≤ ps.length := by
  unfold nzB
  exact Nat.le_trans (List.length_filter_le _ _) (by rw [List.length_map]; exact Nat.le_refl _)
end Go.Cb
namespace Go.Proofs.Ytfkopkjioohgoaa
open Go.RowKit Go.Cb Go.Proofs
theorem info_bagO : (Try.prog.info? 43).map (fun i => (i.zero, i.size, i.bytes)) = some (some (.slice none 0 0), 1, 24) := by kernel_rfl
theorem sortNil_c (fv : Value) (w : World) : Calls Try.prog 60 #[.slice none 0 0, fv] w fun e w' => e = .returned (.tuple #[]) ∧ w' = w :=
  AnyF.slices_SortFunc_none { Try.sortL with } none 0 fv w
set_option maxRecDepth 100000 in
set_option maxHeartbeats 8000000 in
theorem ofW_c (S S' : Nat → Prop) (A B : Option Addr) (ca cb : Nat) (base : List Int) (ps : List (List Int)) (w : World) (h0 : Rd intT w S A ca base) (h1 : Rd bagT w S' B cb ps) (n m : Nat) (hn : n = base.length) (hm : m = ps.length)
    (hl : base.length ≤ 4294967296) (hl2 : ps.length ≤ 4294967296) (hl3 : ∀ p ∈ ps, p.length ≤ 4294967296) :
    Calls Try.prog 43 #[.slice A n ca, .slice B m cb] w fun e w' => ∃ A0 c0 A1 c1, e = .returned (.tuple #[.agg #[.slice A0 (ofLin base ps).1.1.length c0, .slice A1 (ofLin base ps).1.2.length c1], .bool (ofLin base ps).2]) ∧ RdW w' (Ge w.heap.size) A0 c0 (ofLin base ps).1.1 ∧ Rd wbT w' (Ge w.heap.size) A1 c1 (ofLin base ps).1.2 ∧ Bel w w' := by
  subst hn hm
  have lm := h1.lenMax
  have Hl3 := Lib.hid hl3
  clear hl3
  cases hbad : badB base with
  | true =>
    have He := Lib.hid (ofLin_no (ps := ps) hbad)
    go_enter Try.func43, Try.ntmps43
    go_wp2_with fail
    have B0 := Box.new w 46 (.slice none 0 0) (.slice none 0 0)
    have hb0 : Bel w (w.alloc (.cells #[.slice none 0 0, .slice none 0 0] 46)) := (Bel.refl _).alloc _
    generalize w.alloc (.cells #[.slice none 0 0, .slice none 0 0] 46) = W0 at *
    refine (word_c _ _ _ _ _ (h0.to hb0) _ rfl (by omega)).mono ?_
    rw [hbad]
    rintro e w2 ⟨v2, rfl, ho2, hb2⟩
    obtain ⟨A2, c2, rfl⟩ := ho2.form
    have B1 := B0.to hb2
    obtain ⟨x0, x1, f0, f1⟩ := B1.cells
    obtain ⟨y0, y1, g0, g1⟩ := (B1.set0 (.slice A2 (normB base).length c2)).cells
    obtain ⟨z0, z1, k0, k1⟩ := ((B1.set0 (.slice A2 (normB base).length c2)).set0 (.slice none 0 0)).cells
    obtain ⟨u0, u1, l0, l1⟩ := (((B1.set0 (.slice A2 (normB base).length c2)).set0 (.slice none 0 0)).set1 (.slice none 0 0)).cells
    clear ho2 hbad
    go_wp2_with fail
    (try simp only [Exit.inBlock, Exit.then])
    refine bodyPost_ret (v := .tuple #[.agg #[.slice none 0 0, .slice none 0 0], .bool false]) ?_ rfl ?_
    · rw [results_cell_tmp rfl]
      go_simp
    · rw [He.out]
      exact ⟨none, 0, none, 0, rfl, RdW.nil _ _ _ _ (by simp [maxLen]), Rd.nil _ _ _ _ _ (by simp [maxLen]), (((hb0.trans hb2).set (Nat.le_refl _) _).set (Nat.le_refl _) _).set (Nat.le_refl _) _⟩
  | false =>
    have Hbad := Lib.hid hbad
    go_enter Try.func43, Try.ntmps43
    go_wp2_with fail
    have B0 := Box.new w 46 (.slice none 0 0) (.slice none 0 0)
    have hb0 : Bel w (w.alloc (.cells #[.slice none 0 0, .slice none 0 0] 46)) := (Bel.refl _).alloc _
    have hs0 : (w.alloc (.cells #[.slice none 0 0, .slice none 0 0] 46)).heap.size = w.heap.size + 1 := by simp
    generalize w.alloc (.cells #[.slice none 0 0, .slice none 0 0] 46) = W0 at *
    refine (word_c _ _ _ _ _ (h0.to hb0) _ rfl (by omega)).mono ?_
    rw [hbad]
    rintro e w2 ⟨v2, rfl, ho2, hb2⟩
    obtain ⟨A2, c2, rfl, hr2⟩ := ho2.rdW
    have B1 := (B0.to hb2).set0 (.slice A2 (normB base).length c2)
    obtain ⟨x0, x1, f0, f1⟩ := (B0.to hb2).cells
    have hb3 : Bel w (w2.setCell ⟨w.heap.size, 0, none⟩ (.slice A2 (normB base).length c2)) := (hb0.trans hb2).set (Nat.le_refl _) _
    have hu3 : Upd w.heap.size w2 (w2.setCell ⟨w.heap.size, 0, none⟩ (.slice A2 (normB base).length c2)) := Upd.one _ _ _ _
    have hr3' : RdW (w2.setCell ⟨w.heap.size, 0, none⟩ (.slice A2 (normB base).length c2)) (fun q => w.heap.size < q) A2 c2 (normB base) := (hr2.mono (S' := fun q => w.heap.size < q) (fun q hq => by omega)).upd hu3 (Nat.lt_irrefl _)
    have hr3 := hr3'.bound
    obtain ⟨nb, hnb⟩ : ∃ nb, normB base = nb := ⟨_, rfl⟩
    rw [hnb] at B1 hb3 hr3 ⊢
    have HNB := Lib.hid hnb
    clear ho2 hbad B0 hr2 hu3 hr3' hnb
    go_wp2
    clear x0 x1 f0 f1
    generalize w2.setCell ⟨w.heap.size, 0, none⟩ (.slice A2 nb.length c2) = W3 at *
    have hL3 : w.heap.size < W3.heap.size := B1.lt
    obtain ⟨L, hLe⟩ : ∃ L, L = W3.heap.size := ⟨_, rfl⟩
    rw [← hLe] at hr3 hL3
    have hLW : L ≤ W3.heap.size := by omega
    clear hLe
    go_loopw [21] (fun v21 wr => ∃ (k : Nat) (W : World) (q : List (List Int)) (vP : Value), W = wr ∧ k ≤ ps.length ∧ v21 = .int .i64 k ∧ Hid (∀ p ∈ ps.take k, badB p = false) ∧ Hid (q = nzB (ps.take k)) ∧ q.length ≤ k ∧ Box W 46 w.heap.size (.slice A2 nb.length c2) vP ∧ RdW W (fun q => w.heap.size < q ∧ q < L) A2 c2 nb ∧
        Own wbT 43 W w.heap.size (fun q => w.heap.size < q) vP q ∧ Hid (∀ j, vP.ownBlock = some j → L ≤ j) ∧ L ≤ W.heap.size ∧ Hid (q = [] → vP = .slice none 0 0) ∧ Bel w W) (fun v21 _ => ps.length - (intOf v21).toNat)
    case atStart => exact ⟨0, _, [], .slice none 0 0, rfl, Nat.zero_le _, rfl, (fun p hp => by simp at hp : ∀ p ∈ ps.take 0, badB p = false), (by simp [nzB] : ([] : List (List Int)) = nzB (ps.take 0)), Nat.zero_le _, B1, hr3, Own.nil _ _ _ _ _, ((fun j hj => by cases hj) : ∀ j, (Value.slice none 0 0).ownBlock = some j → L ≤ j), hLW, (fun _ => rfl : ([] : List (List Int)) = [] → Value.slice none 0 0 = .slice none 0 0), hb3⟩
    case round =>
      clear B1 hr3 hb3 hb0 hb2 hs0 hLW
      obtain ⟨k, W, q, vP, rfl, hk, rfl, HBD, HQ, hql, B1, hr3, hoP, HVP, hLW, HNL, hb3⟩ := hrel
      by_cases hlt : k < ps.length
      · obtain ⟨ad, P, cp, rfl, hpc, hpr⟩ := (h1.to hb3).row hlt
        have hl3 := Hl3.out ps[k] (List.getElem_mem hlt)
        obtain ⟨p, hpe⟩ : ∃ p, ps[k] = p := ⟨_, rfl⟩
        have HPK := Lib.hid (show ps[k]? = some p by rw [List.getElem?_eq_getElem hlt, hpe])
        rw [hpe] at hpc hpr hl3
        clear hpe
        have CW := word_c _ _ _ _ _ hpr _ rfl (by omega)
        cases hbp : badB p with
        | true =>
          rw [hbp] at CW
          have He := Lib.hid (ofLin_no2 (ps := ps) Hbad.out (ofF_none.2 ⟨p, List.mem_of_getElem? HPK.out, hbp⟩))
          have HCW := Lib.hid CW
          clear CW hbp
          go_wp2_with fail
          refine HCW.out.mono ?_
          rintro e w5 ⟨v5, rfl, ho5, hb5⟩
          have B2 := B1.to hb5
          obtain ⟨x0, x1, f0, f1⟩ := B2.cells
          obtain ⟨y0, y1, g0, g1⟩ := (B2.set0 (.slice none 0 0)).cells
          obtain ⟨z0, z1, k0, k1⟩ := ((B2.set0 (.slice none 0 0)).set1 (.slice none 0 0)).cells
          clear ho5
          go_wp2_with fail
          (try simp only [Exit.inBlock, Exit.then])
          refine bodyPost_ret (v := .tuple #[.agg #[.slice none 0 0, .slice none 0 0], .bool false]) ?_ rfl ?_
          · rw [results_cell_tmp rfl]
            go_simp
          · rw [He.out]
            exact ⟨none, 0, none, 0, rfl, RdW.nil _ _ _ _ (by simp [maxLen]), Rd.nil _ _ _ _ _ (by simp [maxLen]), ((hb3.trans hb5).set (Nat.le_refl _) _).set (Nat.le_refl _) _⟩
        | false =>
          rw [hbp] at CW
          have hsn := nzB_snoc HPK.out
          have hbd2 : ∀ p' ∈ ps.take (k + 1), badB p' = false := fun p' hp' => by
            rw [List.take_add_one, HPK.out] at hp'
            rcases List.mem_append.1 hp' with h | h
            · exact HBD.out p' h
            · simp at h; subst h; exact hbp
          have HBD2 := Lib.hid hbd2
          have lp12 := normB_len p
          clear hbd2 hbp
          cases hpn : normB p with
          | nil =>
            rw [hpn] at CW hsn
            simp only [List.isEmpty_nil, if_true] at hsn
            have HQ2 := Lib.hid (show q = nzB (ps.take (k + 1)) by rw [hsn]; exact HQ.out)
            have HCW := Lib.hid CW
            clear CW hsn hpn lp12
            go_wp2_with fail
            refine HCW.out.mono ?_
            rintro e w5 ⟨v5, rfl, ho5, hb5⟩
            obtain ⟨A5, c5, rfl⟩ := ho5.form
            have B2 := B1.to hb5
            clear ho5
            go_wp2
            go_roundw
            case rel => exact ⟨k + 1, _, q, vP, rfl, by omega, by go_num, HBD2.out, HQ2.out, by omega, B2, hr3.to hb5, hoP.to hb5, HVP.out, by have := hb5.size; omega, HNL.out, hb3.trans hb5⟩
            case measure => simp [intOf]; omega
          | cons x0 r0 =>
            rw [hpn] at CW hsn lp12
            rw [if_neg (by simp)] at hsn
            have HQ2 := Lib.hid (show q ++ [x0 :: r0] = nzB (ps.take (k + 1)) by rw [hsn, ← HQ.out])
            have HCW := Lib.hid CW
            clear CW hsn hpn
            go_wp2_with fail
            refine HCW.out.mono ?_
            rintro e w5 ⟨v5, rfl, ho5, hb5⟩
            obtain ⟨A5, c5, rfl, hr5⟩ := ho5.rdW
            have B2 := B1.to hb5
            have hoP2 := hoP.to hb5
            have hb35 := hb3.trans hb5
            have hsz := hb3.size
            have hsz5 := hb5.size
            have hlt3 : ∀ j, vP.ownBlock = some j → j < W.heap.size := fun j hj => hoP.lt hj
            obtain ⟨AP, cP, rfl⟩ := hoP2.form
            obtain ⟨x1, x2, f0, f1⟩ := B2.cells
            have h5 : wbT.rd w5 (fun j => w.heap.size < j ∧ some j ≠ (Value.slice AP q.length cP).ownBlock) (x0 :: r0) [.slice A5 (x0 :: r0).length c5] := ⟨A5, c5, rfl, hr5.mono (fun j hj => ⟨by have := B1.lt; omega, fun e => by have := hlt3 j e.symm; omega⟩)⟩
            have hr35 := hr3.to hb5
            have HO := Lib.hid hoP2
            clear ho5 hr5 hoP hoP2 hr3 B1
            go_wp2_with (at_builtin; refine wp_append1 wbT (w0 := w) 44 43 (.slice none 0 0) 24 rfl _ _ rfl Try.underlying44 info_bagO rfl (fun j => w.heap.size < j) (.slice AP q.length cP) q (x0 :: r0) [.slice A5 (x0 :: r0).length c5] rfl rfl HO.out h5 hb35 (by unfold maxLen; omega) (by omega) ?_; rintro v6 w6 ho6 hb6 hg6 hf6; obtain ⟨A6, c6, rfl⟩ := own_snoc ho6; obtain ⟨B6, HO6, HG6, HF6⟩ : Box w6 46 w.heap.size (.slice A2 nb.length c2) (.slice AP q.length cP) ∧ Hid (Own wbT 43 w6 w.heap.size (fun j => w.heap.size < j) (.slice A6 (q.length + 1) c6) (q ++ [x0 :: r0])) ∧ Hid (w5.grownBy w6 (Value.slice AP q.length cP).ownBlock) ∧ Hid ((Value.slice A6 (q.length + 1) c6).ownBlock = (Value.slice AP q.length cP).ownBlock ∨ ∃ b, (Value.slice A6 (q.length + 1) c6).ownBlock = some b ∧ w5.heap.size ≤ b) := ⟨(hg6.block _ B2.lt (fun e => by have := HVP.out _ e.symm; omega)).trans B2, ho6, hg6, hf6⟩; clear ho6 hg6 hf6; obtain ⟨z1, z2, k0, k1⟩ := B6.cells)
            have hv6 : ∀ j, (Value.slice A6 (q.length + 1) c6).ownBlock = some j → L ≤ j := fun j hj => by
              rcases HF6.out with e | ⟨b, e, hbb⟩
              · exact HVP.out j (by rw [← e]; exact hj)
              · rw [e] at hj; injection hj with hj; omega
            have HV6 := Lib.hid hv6
            have hu6 := Upd.one w6 w.heap.size 1 (.slice A6 (q.length + 1) c6)
            have o7 := HO6.out.step (w' := w6.setCell ⟨w.heap.size, 1, none⟩ (.slice A6 (q.length + 1) c6)) (fun j hj => hu6.block j (by have := hv6 j hj; omega)) (fun j hj _ _ => hu6.block j (by omega))
            have r7 := (hr35.step' (w' := w6) (fun j hj => HG6.out.block j (by omega) (fun e => by have := HVP.out j e.symm; omega))).upd hu6 (by omega)
            have b7 := B6.set1 (.slice A6 (q.length + 1) c6)
            have bb7 := hb6.set (p := ⟨w.heap.size, 1, none⟩) (Nat.le_refl _) (.slice A6 (q.length + 1) c6)
            have l7 : L ≤ (w6.setCell ⟨w.heap.size, 1, none⟩ (.slice A6 (q.length + 1) c6)).heap.size := by rw [hu6.size]; have := HG6.out.size; omega
            clear hu6 hv6 B6 B2 hr35
            go_roundw
            case rel => exact ⟨k + 1, _, q ++ [x0 :: r0], _, rfl, by omega, by go_num, HBD2.out, HQ2.out, by rw [List.length_append]; simp; omega, b7, r7, o7, HV6.out, l7, (fun e => by simp at e : q ++ [x0 :: r0] = [] → _), bb7⟩
            case measure => simp [intOf]; omega
      · obtain rfl : k = ps.length := by omega
        have HALL := Lib.hid (show ps.take ps.length = ps from List.take_length)
        have hq := HQ.out
        rw [HALL.out] at hq
        have hno := HBD.out
        rw [HALL.out] at hno
        rcases Nat.eq_zero_or_pos q.length with hq0 | hq0
        · obtain rfl : q = [] := List.eq_nil_of_length_eq_zero hq0
          obtain rfl := HNL.out rfl
          have He := Lib.hid (show ofLin base ps = ((nb, []), true) by rw [ofLin_yes Hbad.out (ofF_sorted hno (List.Perm.of_eq hq) List.Pairwise.nil), HNB.out]; rfl)
          clear hq hno hq0 hoP
          obtain ⟨x1, x2, f0, f1⟩ := B1.cells
          have CC := Lib.hid (fun w7 => compact_c (w := w7) (base := w.heap.size) (S := fun j => w.heap.size < j) (xs := []) (Own.nil _ _ _ _ _) rfl)
          go_wp2_with fail
          refine (sortNil_c _ _).mono ?_
          rintro e w6 ⟨rfl, rfl⟩
          go_wp2_with fail
          refine (CC.out _).mono ?_
          rintro e w7 ⟨rfl, o7, g7⟩
          have b7 : Bel w6 w7 := (Bel.refl _).grown g7 (fun j hj => by cases hj)
          have B7 := B1.to b7
          obtain ⟨y1, y2, k0, k1⟩ := B7.cells
          have hr7 := hr3.to b7
          have hb7 := hb3.trans b7
          clear o7 g7 b7 x1 x2 f0 f1 B1 hr3 hb3
          obtain ⟨a0, a1, a2, a3⟩ := (B7.set1 (.slice none 0 0)).cells
          obtain ⟨c0', c1', c2', c3'⟩ := ((B7.set1 (.slice none 0 0)).set0 (.slice A2 nb.length c2)).cells
          obtain ⟨d0, d1, d2, d3⟩ := (((B7.set1 (.slice none 0 0)).set0 (.slice A2 nb.length c2)).set1 (.slice none 0 0)).cells
          have HR7 := Lib.hid hr7
          clear hr7
          go_wp2_with fail
          (try simp only [Exit.inBlock, Exit.then])
          refine bodyPost_ret (v := .tuple #[.agg #[.slice A2 nb.length c2, .slice none 0 0], .bool true]) ?_ rfl ?_
          · rw [results_cell_tmp rfl]
            go_simp
            rfl
          · rw [He.out]
            exact ⟨A2, c2, none, 0, rfl, (((HR7.out.upd (Upd.one _ _ _ _) (by omega)).upd (Upd.one _ _ _ _) (by omega)).upd (Upd.one _ _ _ _) (by omega)).mono (fun j hj => by have := hj.1; show w.heap.size ≤ j; omega), Rd.nil _ _ _ _ _ (by simp [maxLen]), ((hb7.set (Nat.le_refl _) _).set (Nat.le_refl _) _).set (Nat.le_refl _) _⟩
        · obtain ⟨AP, cP, rfl⟩ := hoP.form
          obtain ⟨g, rfl, hg1, hg2⟩ := hoP.addr hq0
          have hgL := HVP.out g rfl
          have hqr : ∀ p ∈ q, rightB p = true := fun p hp => (nzB_ok ps p (by rw [← hq]; exact hp)).2
          have CS := Lib.hid (sort_c hoP rfl hqr (by omega))
          have HNO := Lib.hid hno
          have HQ2 := Lib.hid hq
          obtain ⟨x1, x2, f0, f1⟩ := B1.cells
          have hGW := B1.lt
          clear hq hno hoP hqr
          go_wp2_with fail
          refine CS.out.mono ?_
          rintro e w6 ⟨rfl, ys, hperm, hsort, o6, g6⟩
          have B6 : Box w6 46 w.heap.size (.slice A2 nb.length c2) (.slice (some ⟨g, 0, none⟩) q.length cP) := (g6.block _ hGW (fun e => by injection e with e; omega)).trans B1
          have r6 := hr3.step' (w' := w6) (fun j hj => g6.block j (by omega) (fun e => by injection e with e; omega))
          have b6 := hb3.grown g6 (fun j hj => by have e : g = j := Option.some.inj hj; omega)
          have hyl : q.length = ys.length := hperm.length_eq.symm
          have CC := Lib.hid (compact_c o6 hyl)
          have He := Lib.hid (show ofLin base ps = ((nb, cmpct ys), true) by rw [ofLin_yes Hbad.out (ofF_sorted HNO.out (hperm.trans (List.Perm.of_eq HQ2.out)) (by first | exact hsort | exact hsort.imp (fun h => Int.not_lt.2 h))), HNB.out])
          have hs6 : L ≤ w6.heap.size := by have := g6.size; omega
          obtain ⟨y1, y2, k0, k1⟩ := B6.cells
          have hG6 := B6.lt
          clear CS hperm hsort o6 g6 hyl x1 x2 f0 f1 B1 hr3 hb3 hGW
          go_wp2_with fail
          refine CC.out.mono ?_
          rintro e w7 ⟨rfl, o7, g7⟩
          have B7 : Box w7 46 w.heap.size (.slice A2 nb.length c2) (.slice (some ⟨g, 0, none⟩) q.length cP) := (g7.block _ hG6 (fun e => by have e2 : w.heap.size = g := Option.some.inj e; omega)).trans B6
          have r7 := r6.step' (w' := w7) (fun j hj => g7.block j (by omega) (fun e => by have e2 : j = g := Option.some.inj e; omega))
          have b7 := b6.grown g7 (fun j hj => by have e : g = j := Option.some.inj hj; omega)
          obtain ⟨A9, c9, he9, R9⟩ := o7.rd
          injection he9 with e91 _ e93
          subst e91 e93
          have R9' : Rd wbT w7 (fun j => w.heap.size < j) (some ⟨g, 0, none⟩) cP (cmpct ys) := R9.mono (fun j hj => by
            rcases hj with hj | hj
            · exact hj
            · have e2 : j = g := Option.some.inj hj
              omega)
          have HR9 := Lib.hid R9'
          have HR7 := Lib.hid r7
          obtain ⟨z1, z2, l0, l1⟩ := B7.cells
          generalize hnq : (cmpct ys).length = nq at *
          have HNQ := Lib.hid hnq
          clear hnq
          obtain ⟨a0, a1, a2, a3⟩ := (B7.set1 (.slice (some ⟨g, 0, none⟩) nq cP)).cells
          obtain ⟨c0', c1', c2', c3'⟩ := ((B7.set1 (.slice (some ⟨g, 0, none⟩) nq cP)).set0 (.slice A2 nb.length c2)).cells
          obtain ⟨d0, d1, d2, d3⟩ := (((B7.set1 (.slice (some ⟨g, 0, none⟩) nq cP)).set0 (.slice A2 nb.length c2)).set1 (.slice (some ⟨g, 0, none⟩) nq cP)).cells
          clear CC R9 R9' r7 r6 o7 g7 y1 y2 k0 k1 B6
          go_wp2_with fail
          (try simp only [Exit.inBlock, Exit.then])
          refine bodyPost_ret (v := .tuple #[.agg #[.slice A2 nb.length c2, .slice (some ⟨g, 0, none⟩) nq cP], .bool true]) ?_ rfl ?_
          · rw [results_cell_tmp rfl]
            go_simp
          · rw [He.out]
            exact ⟨A2, c2, some ⟨g, 0, none⟩, cP, by rw [← HNQ.out], (((HR7.out.upd (Upd.one _ _ _ _) (by omega)).upd (Upd.one _ _ _ _) (by omega)).upd (Upd.one _ _ _ _) (by omega)).mono (fun j hj => by have := hj.1; show w.heap.size ≤ j; omega),
              (((HR9.out.upd (Upd.one _ _ _ _) (by omega)).upd (Upd.one _ _ _ _) (by omega)).upd (Upd.one _ _ _ _) (by omega)).mono (fun j hj => by show w.heap.size ≤ j; omega), ((b7.set (Nat.le_refl _) _).set (Nat.le_refl _) _).set (Nat.le_refl _) _⟩
theorem of_c (S S' : Nat → Prop) (A B : Option Addr) (ca cb : Nat) (base : List Int) (ps : List (List Int)) (w : World) (h0 : Rd intT w S A ca base) (h1 : Rd bagT w S' B cb ps) (n m : Nat) (hn : n = base.length) (hm : m = ps.length)
    (hl : base.length ≤ 4294967296) (hl2 : ps.length ≤ 4294967296) (hl3 : ∀ p ∈ ps, p.length ≤ 4294967296) :
    Calls Try.prog 43 #[.slice A n ca, .slice B m cb] w fun e w' => ∃ A0 c0 A1 c1, e = .returned (.tuple #[.agg #[.slice A0 (ofLin base ps).1.1.length c0, .slice A1 (ofLin base ps).1.2.length c1], .bool (ofLin base ps).2]) ∧ Rd intT w' (Ge w.heap.size) A0 c0 (ofLin base ps).1.1 ∧ Rd bagT w' (Ge w.heap.size) A1 c1 (ofLin base ps).1.2 ∧ Bel w w' :=
  (ofW_c S S' A B ca cb base ps w h0 h1 n m hn hm hl hl2 hl3).mono fun _ _ ⟨A0, c0, A1, c1, e, r0, r1, hb⟩ => ⟨A0, c0, A1, c1, e, r0.rd, r1.bags, hb⟩
end Go.Proofs.Ytfkopkjioohgoaa

/- Walks: lin.Cat. -/
namespace Go.Cb
open Go.RowKit
/-- A linear set that was made: in blocks from b on, its words may be written to. -/
def LinRes (b : Nat) (w : World) (v : Value) (l : Lin) : Prop := ∃ A0 c0 A1 c1, v = .agg #[.slice A0 l.1.length c0, .slice A1 l.2.length c1] ∧ RdW w (Ge b) A0 c0 l.1 ∧ Rd wbT w (Ge b) A1 c1 l.2
theorem LinRes.to {b : Nat} {w w' : World} {v : Value} {l : Lin} (h : LinRes b w v l) (hb : Bel w w') : LinRes b w' v l := by
  obtain ⟨A0, c0, A1, c1, e, r0, r1⟩ := h
  exact ⟨A0, c0, A1, c1, e, r0.to hb, r1.to hb⟩
theorem LinRes.lower {b b' : Nat} {w : World} {v : Value} {l : Lin} (h : LinRes b w v l) (hb : b' ≤ b) : LinRes b' w v l := by
  obtain ⟨A0, c0, A1, c1, e, r0, r1⟩ := h
  exact ⟨A0, c0, A1, c1, e, r0.mono (fun k hk => by unfold Ge at *; omega), r1.mono (fun k hk => by unfold Ge at *; omega)⟩
theorem LinRes.none_ (b : Nat) (w : World) : LinRes b w (.agg #[.slice none 0 0, .slice none 0 0]) ([], []) :=
  ⟨none, 0, none, 0, rfl, RdW.nil _ _ _ _ (by decide), Rd.nil _ _ _ _ _ (by decide)⟩
theorem Rd.pair {α : Type} {d : Ty α} {W : World} {S : Nat → Prop} {A B : Option Addr} {ca cb : Nat} {xs ys : List α} (hx : Rd d W S A ca xs) (hy : Rd d W S B cb ys) (e : TypeId) :
    Rd (sl d) (W.alloc (.cells #[.slice A xs.length ca, .slice B ys.length cb] e)) All (some ⟨W.heap.size, 0, none⟩) 2 [xs, ys] := by
  have hb : Bel W (W.alloc (.cells #[.slice A xs.length ca, .slice B ys.length cb] e)) := (Bel.refl W).alloc _
  have hc := heap_alloc_new W (.cells #[.slice A xs.length ca, .slice B ys.length cb] e)
  refine ⟨by simp, by decide, fun j x hj => ?_⟩
  rcases j with _ | _ | j
  · obtain rfl : xs = x := by simpa using hj
    refine ⟨_, [.slice A xs.length ca], rfl, trivial, ⟨A, ca, rfl, (hx.to hb).all⟩, fun i u hu => ?_⟩
    rcases i with _ | i
    · rw [add_plain, cellAt hc]; exact hu
    · simp at hu
  · obtain rfl : ys = x := by simpa using hj
    refine ⟨_, [.slice B ys.length cb], rfl, trivial, ⟨B, cb, rfl, (hy.to hb).all⟩, fun i u hu => ?_⟩
    rcases i with _ | i
    · rw [add_plain, cellAt hc]; exact hu
    · simp at hu
  · simp at hj
end Go.Cb
namespace Go.Proofs.Ytfkopkjioohgoaa
open Go.RowKit Go.Cb
set_option maxRecDepth 100000 in
set_option maxHeartbeats 8000000 in
theorem catW_c (S0 S1 S2 S3 : Nat → Prop) (A0 A1 B0 B1 : Option Addr) (c0 c1 d0 d1 : Nat) (x y : Lin) (w : World) (h0 : Rd intT w S0 A0 c0 x.1) (h1 : Rd bagT w S1 A1 c1 x.2) (g0 : Rd intT w S2 B0 d0 y.1) (g1 : Rd bagT w S3 B1 d1 y.2)
    (n0 n1 m0 m1 : Nat) (hn0 : n0 = x.1.length) (hn1 : n1 = x.2.length) (hm0 : m0 = y.1.length) (hm1 : m1 = y.2.length) (hlen : x.2.length + y.2.length ≤ 4294967295) :
    Calls Try.prog 29 #[.agg #[.slice A0 n0 c0, .slice A1 n1 c1], .agg #[.slice B0 m0 d0, .slice B1 m1 d1]] w fun e w' => ∃ v, e = .returned (.tuple #[v, .bool (catL x y).2]) ∧ LinRes w.heap.size w' v (catL x y).1 ∧ Bel w w' := by
  obtain ⟨a, ps⟩ := x
  obtain ⟨b, qs⟩ := y
  dsimp only at *
  subst hn0 hn1 hm0 hm1
  obtain ⟨hB1, X, Y, R⟩ := threeBoxes w 46 (.slice A0 a.length c0) (.slice A1 ps.length c1) (.slice B0 b.length d0) (.slice B1 qs.length d1) (.slice none 0 0) (.slice none 0 0)
  have p0 := (h0.to hB1).all
  have p1 := (h1.to hB1).all
  have q0 := (g0.to hB1).all
  have q1 := (g1.to hB1).all
  have l1 := p1.lenMax
  have l2 := q1.lenMax
  have Q1 := linRight_c _ _ _ _ _ _ _ _ _ p0 p1 _ _ rfl rfl
  clear h0 h1 g0 g1
  go_enter Try.func29, Try.ntmps29
  go_wp2_with fail
  generalize ((w.alloc (.cells #[.slice A0 a.length c0, .slice A1 ps.length c1] 46)).alloc (.cells #[.slice B0 b.length d0, .slice B1 qs.length d1] 46)).alloc (.cells #[.slice none 0 0, .slice none 0 0] 46) = W1 at *
  replace R : Box W1 46 (w.heap.size + 1 + 1) (.slice none 0 0) (.slice none 0 0) := R
  cases hA : rightL (a, ps) with
  | false =>
    have He := Lib.hid (catL_no1 (y := (b, qs)) hA)
    rw [hA] at Q1
    clear hA
    refine Q1.mono ?_
    rintro e w2 ⟨rfl, hb2⟩
    have R2 := R.to hb2
    obtain ⟨x0, x1, f0, f1⟩ := R2.cells
    obtain ⟨y0, y1, k0, k1⟩ := (R2.set0 (.slice none 0 0)).cells
    obtain ⟨z0, z1, m0, m1⟩ := ((R2.set0 (.slice none 0 0)).set1 (.slice none 0 0)).cells
    go_wp2_with fail
    (try simp only [Exit.inBlock, Exit.then])
    refine bodyPost_ret (v := .tuple #[.agg #[.slice none 0 0, .slice none 0 0], .bool false]) ?_ rfl ?_
    · rw [results_cell_tmp rfl]
      go_simp
    · rw [He.out]
      exact ⟨_, rfl, LinRes.none_ _ _, ((hB1.trans hb2).set (by simp only; omega) _).set (by simp only; omega) _⟩
  | true =>
    rw [hA] at Q1
    refine Q1.mono ?_
    rintro e w2 ⟨rfl, hb2⟩
    have Q2 := linRight_c _ _ _ _ _ _ _ _ _ (q0.to hb2) (q1.to hb2) _ _ rfl rfl
    obtain ⟨y0, y1, _, _⟩ := (Y.to hb2).cells
    cases hB : rightL (b, qs) with
    | false =>
      have He := Lib.hid (catL_no2 (x := (a, ps)) hB)
      rw [hB] at Q2
      clear hA hB
      go_wp2_with fail
      refine Q2.mono ?_
      rintro e w3 ⟨rfl, hb3⟩
      have hb23 := hb2.trans hb3
      clear y0 y1
      have R2 := R.to hb23
      obtain ⟨x0, x1, f0, f1⟩ := R2.cells
      obtain ⟨y0, y1, k0, k1⟩ := (R2.set0 (.slice none 0 0)).cells
      obtain ⟨z0, z1, m0, m1⟩ := ((R2.set0 (.slice none 0 0)).set1 (.slice none 0 0)).cells
      go_wp2_with fail
      (try simp only [Exit.inBlock, Exit.then])
      refine bodyPost_ret (v := .tuple #[.agg #[.slice none 0 0, .slice none 0 0], .bool false]) ?_ rfl ?_
      · rw [results_cell_tmp rfl]
        go_simp
      · rw [He.out]
        exact ⟨_, rfl, LinRes.none_ _ _, ((hB1.trans hb23).set (by simp only; omega) _).set (by simp only; omega) _⟩
    | true =>
      rw [hB] at Q2
      have HA := Lib.hid hA
      have HB := Lib.hid hB
      clear hA hB
      go_wp2_with fail
      refine Q2.mono ?_
      rintro e w3 ⟨rfl, hb3⟩
      have hb23 := hb2.trans hb3
      clear y0 y1
      obtain ⟨x0, x1, _, _⟩ := (X.to hb23).cells
      obtain ⟨y0, y1, _, _⟩ := (Y.to hb23).cells
      have Q3 := bagAdd_c _ _ _ _ _ _ _ _ (p0.to hb23) (q0.to hb23) _ _ rfl rfl
      cases hS : (addB a b).2 with
      | false =>
        have He := Lib.hid (catL_no3 (x := (a, ps)) (y := (b, qs)) hS)
        rw [hS] at Q3
        have HQ3 := Lib.hid Q3
        clear hS Q1 Q2 Q3
        go_wp2_with fail
        refine HQ3.out.mono ?_
        rintro e w4 ⟨v4, rfl, ho4, hb4⟩
        have hb24 := hb23.trans hb4
        obtain ⟨A4, c4, rfl⟩ := ho4.form
        clear x0 x1 y0 y1 ho4
        have R2 := R.to hb24
        obtain ⟨x0, x1, f0, f1⟩ := R2.cells
        obtain ⟨y0, y1, k0, k1⟩ := (R2.set0 (.slice none 0 0)).cells
        obtain ⟨z0, z1, m0, m1⟩ := ((R2.set0 (.slice none 0 0)).set1 (.slice none 0 0)).cells
        go_wp2_with fail
        (try simp only [Exit.inBlock, Exit.then])
        refine bodyPost_ret (v := .tuple #[.agg #[.slice none 0 0, .slice none 0 0], .bool false]) ?_ rfl ?_
        · rw [results_cell_tmp rfl]
          go_simp
        · rw [He.out]
          exact ⟨_, rfl, LinRes.none_ _ _, ((hB1.trans hb24).set (by simp only; omega) _).set (by simp only; omega) _⟩
      | true =>
        have hcl := catL_of HA.out HB.out hS
        have He := Lib.hid hcl
        have hR4 := addB_right hS
        rw [hS] at Q3
        obtain ⟨s, hs⟩ : ∃ s, (addB a b).1 = s := ⟨_, rfl⟩
        dsimp only at hcl
        rw [hs] at Q3 hR4
        have hlc := catL_len (a, ps) (b, qs)
        have ls := right_len hR4
        have HS := Lib.hid hs
        have hl3 : ∀ p ∈ ps ++ qs, p.length ≤ 4294967296 := fun p hp => by
          have := right_len (lin_each HA.out HB.out p hp).2
          omega
        have HL3 := Lib.hid hl3
        have HQ3 := Lib.hid Q3
        clear hS hs Q1 Q2 Q3 hcl hl3 hR4
        go_wp2_with fail
        refine HQ3.out.mono ?_
        rintro e w4 ⟨v4, rfl, ho4, hb4⟩
        have hb24 := hb23.trans hb4
        obtain ⟨A4, c4, rfl, hr4⟩ := ho4.rdOne
        clear x0 x1 y0 y1 ho4
        obtain ⟨x0, x1, _, _⟩ := (X.to hb24).cells
        obtain ⟨y0, y1, _, _⟩ := (Y.to hb24).cells
        have hP := (p1.to hb24).pair (q1.to hb24) 44
        have hal : Bel w4 (w4.alloc (.cells #[.slice A1 ps.length c1, .slice B1 qs.length d1] 44)) := (Bel.refl _).alloc _
        have hfl : ([ps, qs] : List (List (List Int))).flatten = ps ++ qs := by simp
        have HFL := Lib.hid hfl
        have HC := Lib.hid (concatBags_c bagT rfl _ _ _ _ _ hP 2 rfl (by rw [hfl, List.length_append]; omega))
        clear hfl
        go_wp2_with fail
        refine HC.out.mono ?_
        rw [HFL.out]
        rintro e w5 ⟨v5, rfl, ho5, hb5⟩
        have hb25 := (hb24.trans hal).trans hb5
        obtain ⟨A5, c5, he5, hr5⟩ := ho5.rdAll
        rw [List.length_append] at he5
        subst he5
        have hr4' := (hr4.to hal).to hb5
        clear ho5 x0 x1 y0 y1 HC hP
        have HO := Lib.hid (ofW_c _ _ _ _ _ _ _ _ _ hr4' hr5 _ (ps.length + qs.length) rfl (by rw [List.length_append]) (by omega) (by rw [List.length_append]; omega) HL3.out)
        go_wp2_with fail
        refine HO.out.mono ?_
        rintro e w6 ⟨A6, c6, A7, c7, rfl, r6, r7, hb6⟩
        have hcx : ofLin s (ps ++ qs) = catL (a, ps) (b, qs) := by rw [He.out, HS.out]
        obtain ⟨xa, xb, ok, hcy⟩ : ∃ xa xb ok, catL (a, ps) (b, qs) = ((xa, xb), ok) := ⟨_, _, _, rfl⟩
        rw [hcx, hcy] at r6 r7 ⊢
        have HR6 := Lib.hid r6
        have HR7 := Lib.hid r7
        have HCY := Lib.hid hcy
        clear hcy
        dsimp only at HR6 HR7 ⊢
        have hb26 := hb25.trans hb6
        have R6 := R.to hb26
        have hsw := hB1.size
        have hs6 := hb25.size
        have h2w : w.heap.size + 1 + 1 < W1.heap.size := R.lt
        clear r6 r7 HO He HFL HS hcx
        obtain ⟨x0, x1, f0, f1⟩ := R6.cells
        obtain ⟨y0, y1, k0, k1⟩ := (R6.set0 (.slice A6 xa.length c6)).cells
        obtain ⟨z0, z1, m0, m1⟩ := ((R6.set0 (.slice A6 xa.length c6)).set1 (.slice A7 xb.length c7)).cells
        have hu := (Upd.one w6 (w.heap.size + 1 + 1) 0 (.slice A6 xa.length c6)).set (p := ⟨w.heap.size + 1 + 1, 1, none⟩) rfl (.slice A7 xb.length c7)
        go_wp2_with fail
        (try simp only [Exit.inBlock, Exit.then])
        refine bodyPost_ret (v := .tuple #[.agg #[.slice A6 xa.length c6, .slice A7 xb.length c7], .bool ok]) ?_ rfl ?_
        · rw [results_cell_tmp rfl]
          go_simp
        · rw [HCY.out]
          exact ⟨_, rfl, ⟨A6, c6, A7, c7, rfl, (HR6.out.upd hu (fun h => by unfold Ge at h; omega)).mono (fun k hk => by unfold Ge at *; omega), (HR7.out.upd hu (fun h => by unfold Ge at h; omega)).mono (fun k hk => by unfold Ge at *; omega)⟩, (hB1.trans hb26).upd hu (by omega)⟩
end Go.Proofs.Ytfkopkjioohgoaa
