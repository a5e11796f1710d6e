/- Walks: raw events, as the statements of chapter 29 take them. -/
import Derived.Test.YtamihjibdcccmaaClk2
import Derived.Test.YtamihjibdcccmaaCB
import Derived.Test.YtamihjibdcccmaaCA
import Derived.Deep.CutRange
set_option linter.unusedVariables false
set_option linter.unusedSimpArgs false
set_option linter.all false
namespace Go.Cb
open Go.RowKit
/-- A raw event's cells. -/
theorem Rd.raw29 {w : World} {S : Nat → Prop} {A : Option Addr} {c : Nat} {xs : List (Int × Int × Int × List Int)} (h : Rd raw29T w S A c xs) {k : Nat} {x : Int × Int × Int × List Int} (hk : xs[k]? = some x) :
    ∃ ad Ac cc, A = some ad ∧ w.cell? (ad.add (k * 4)) = some (.int .i64 x.1) ∧ w.cell? ⟨(ad.add (k * 4)).block, (ad.add (k * 4)).off + 1, none⟩ = some (.int .i64 x.2.1) ∧ w.cell? ⟨(ad.add (k * 4)).block, (ad.add (k * 4)).off + 2, none⟩ = some (.int .i64 x.2.2.1) ∧ w.cell? ⟨(ad.add (k * 4)).block, (ad.add (k * 4)).off + 3, none⟩ = some (.slice Ac x.2.2.2.length cc) ∧ Rd intT w S Ac cc x.2.2.2 := by
  obtain ⟨ad, cs, e, hS, hr, hc⟩ := h.2.2 k _ hk
  obtain ⟨c0, c1, rfl, h0, c2, c3, rfl, h2, c4, c5, rfl, h4, Ac, cc, e5, h5⟩ := hr
  have e0 : c0 = [Value.int .i64 x.1] := h0
  have e2 : c2 = [Value.int .i64 x.2.1] := h2
  have e4 : c4 = [Value.int .i64 x.2.2.1] := h4
  rw [e0, e2, e4, e5] at hc
  exact ⟨ad, Ac, cc, e, hc 0 _ rfl, nth_cellE (hc 1 _ rfl), nth_cellE (hc 2 _ rfl), nth_cellE (hc 3 _ rfl), h5⟩
/-- A new event's block. -/
def SPred.ev0 (t : TypeId) : SPred := ⟨fun v lo _ w => v = .pointer (some ⟨lo, 0, none⟩) ∧ w.heap[lo]? = some (.cells #[.int .i64 0, .int .i64 0, .int .i64 0, .slice none 0 0] t (0, 0)), fun _ _ _ _ _ ⟨e, h⟩ hb => ⟨e, (hb.block (blk_lt h)).trans h⟩⟩
def cellOf (c : Int) : Int × Int × Bool := (withinI c 3, withinI (wrap64 (c.tdiv 3)) 2, c.tmod 2 == 0)
/-- What the statements make of a raw event. -/
def evR (x : Int × Int × Int × List Int) : Ev := ⟨if x.1.tmod 17 = 16 then x.1 else withinI x.1 4, withinI x.2.1 5, withinI x.2.2.1 4, (x.2.2.2.take 3).map cellOf⟩
/-- A block of four. -/
def Box4 (w : World) (t : TypeId) (g : Nat) (a b c d : Value) : Prop := w.heap[g]? = some (.cells #[a, b, c, d] t (0, 0))
section
variable {w w' : World} {t : TypeId} {g : Nat} {a b c d : Value}
theorem Box4.cells (h : Box4 w t g a b c d) : w.cell? ⟨g, 0, none⟩ = some a ∧ w.cell? ⟨g, 1, none⟩ = some b ∧ w.cell? ⟨g, 2, none⟩ = some c ∧ w.cell? ⟨g, 3, none⟩ = some d :=
  ⟨cellAt h 0, cellAt h 1, cellAt h 2, cellAt h 3⟩
theorem Box4.free (h : Box4 w t g a b c d) (i : Nat) : w.frozen? ⟨g, i, none⟩ = false := frozenAt h i
theorem Box4.lt (h : Box4 w t g a b c d) : g < w.heap.size := blk_lt h
theorem Box4.to (h : Box4 w t g a b c d) (hb : Bel w w') : Box4 w' t g a b c d := (hb.block h.lt).trans h
theorem Box4.grown {ob : Option Nat} (h : Box4 w t g a b c d) (hg : w.grownBy w' ob) (hne : ∀ k, ob = some k → k ≠ g) : Box4 w' t g a b c d := (hg.block g h.lt (fun e => hne g e.symm rfl)).trans h
theorem Box4.set0 (h : Box4 w t g a b c d) (v : Value) : Box4 (w.setCell ⟨g, 0, none⟩ v) t g v b c d := by
  unfold Box4 at *
  simp [World.setCell, Array.getElem?_modify, h]
theorem Box4.set1 (h : Box4 w t g a b c d) (v : Value) : Box4 (w.setCell ⟨g, 1, none⟩ v) t g a v c d := by
  unfold Box4 at *
  simp [World.setCell, Array.getElem?_modify, h]
theorem Box4.set2 (h : Box4 w t g a b c d) (v : Value) : Box4 (w.setCell ⟨g, 2, none⟩ v) t g a b v d := by
  unfold Box4 at *
  simp [World.setCell, Array.getElem?_modify, h]
theorem Box4.set3 (h : Box4 w t g a b c d) (v : Value) : Box4 (w.setCell ⟨g, 3, none⟩ v) t g a b c v := by
  unfold Box4 at *
  simp [World.setCell, Array.getElem?_modify, h]
end
theorem Own.notBox4 {α : Type} {d : Ty α} {e t : TypeId} {w : World} {base g : Nat} {S : Nat → Prop} {v a b c u : Value} {xs : List α} (h : Own d e w base S v xs) (hx : Box4 w t g a b c u) (hne : e ≠ t) {k : Nat} (hk : v.ownBlock = some k) : k ≠ g := fun e3 => by
  subst e3
  obtain ⟨inner, ho, _⟩ := h
  rcases ho.2 with ⟨rfl, _⟩ | ⟨g, cap, cur, rfl, _, hg, _⟩
  · cases hk
  · have : g = k := Option.some.inj hk
    subst this
    have := hg.symm.trans hx
    simp at this
    exact hne this.2
theorem Own.notOwn {α β : Type} {d : Ty α} {d2 : Ty β} {e e2 : TypeId} {w : World} {base base2 : Nat} {S S2 : Nat → Prop} {v v2 : Value} {xs : List α} {ys : List β} (h : Own d e w base S v xs) (h2 : Own d2 e2 w base2 S2 v2 ys) (hne : e ≠ e2) {k : Nat} (hk : some k = v.ownBlock) : some k ≠ v2.ownBlock := fun hk2 => by
  obtain ⟨inner, ho, _⟩ := h
  obtain ⟨inner2, ho2, _⟩ := h2
  rcases ho.2 with ⟨rfl, _⟩ | ⟨g, cap, cur, rfl, _, hg, _⟩
  · cases hk
  · rcases ho2.2 with ⟨rfl, _⟩ | ⟨g2, cap2, cur2, rfl, _, hg2, _⟩
    · cases hk2
    · have e3 : k = g := Option.some.inj hk
      have e4 : k = g2 := Option.some.inj hk2
      subst e3 e4
      have := hg.symm.trans hg2
      simp at this
      exact hne this.2
theorem grown_store (w : World) (g i : Nat) (v : Value) : w.grownBy (w.setCell ⟨g, i, none⟩ v) (some g) :=
  have h := Upd.one w g i v
  ⟨h.os, h.tape, h.output, Nat.le_of_eq h.size.symm, fun k _ hk => h.block k (fun e => hk (by rw [e]))⟩
/-- A row of one cell, new. -/
def SPred.litC (t : TypeId) (x : Int × Int × Bool) : SPred := ⟨fun v lo _ w => v = .slice (some ⟨lo, 0, none⟩) 1 1 ∧ w.heap[lo]? = some (.cells #[.int .i64 x.1, .int .i64 x.2.1, .bool x.2.2] t (0, 0)), fun _ _ _ _ _ ⟨e, h⟩ hb => ⟨e, (hb.block (blk_lt h)).trans h⟩⟩
theorem rd_litC {w : World} {lo : Nat} {t : TypeId} {x : Int × Int × Bool} (h : w.heap[lo]? = some (.cells #[.int .i64 x.1, .int .i64 x.2.1, .bool x.2.2] t (0, 0))) : Rd cellT w (fun _ => True) (some ⟨lo, 0, none⟩) 1 [x] := by
  refine ⟨Nat.le_refl _, by simp [maxLen], fun j y hj => ?_⟩
  obtain ⟨rfl, rfl⟩ : j = 0 ∧ x = y := by
    cases j with
    | zero => exact ⟨rfl, by simpa using hj⟩
    | succ j => simp at hj
  refine ⟨_, _, rfl, trivial, cellT_rd.2 rfl, fun i u hu => ?_⟩
  rw [Nat.zero_mul, Nat.zero_add, add_plain, cellAt h]
  simpa using hu
end Go.Cb
namespace Go.Proofs.Ytamihjibdcccmaa
open Go.RowKit Go.Cb
theorem infoCell : (Try.prog.info? 32).map (fun i => (i.zero, i.size, i.bytes)) = some (some (.agg #[.int .i64 0, .int .i64 0, .bool false]), 3, 24) := by kernel_rfl
set_option maxHeartbeats 32000000 in
set_option maxRecDepth 100000 in
theorem of29_c (w : World) (A : Option Addr) (c : Nat) (l : List (Int × Int × Int × List Int)) (hl : Rd raw29T w All A c l) (n : Nat) (hn : n = l.length) :
    Calls Try.prog 6 #[.slice A n c] w fun e w' => ∃ A' c', e = .returned (.slice A' (l.take 24).length c') ∧ Rd evT w' All A' c' ((l.take 24).map evR) ∧ Bel w w' := by
  subst hn
  have HC := Lib.hid (cutRaws29_c raw29T rfl All A c l 24 w hl _ rfl (Nat.le_trans (Nat.mul_le_mul_right _ (List.length_take_le 24 l)) (by decide)) 24 rfl)
  have l24 := List.length_take_le 24 l
  clear hl
  generalize l.take 24 = ls at *
  go_enter Try.func6, Try.ntmps6
  go_wp2_with fail
  refine HC.out.mono ?_
  rintro e wB ⟨vB, rfl, hoB, hbB⟩
  obtain ⟨AB, cB, rfl, hrB⟩ := hoB.rdAll
  have HRB := Lib.hid hrB
  have HBB := Lib.hid hbB
  clear hoB hrB HC hbB
  go_wp2
  go_loopw [3, 12] (fun v3 v12 wr => ∃ (k : Nat) (W : World) (AS : Option Addr) (cS : Nat), W = wr ∧ k ≤ ls.length ∧ v12 = .int .i64 k ∧ v3 = .slice AS k cS ∧ Own evT 27 W wB.heap.size (Ge wB.heap.size) (.slice AS k cS) ((ls.take k).map evR) ∧ Bel wB W) (fun _ v12 _ => ls.length - (intOf v12).toNat)
  case atStart => exact ⟨0, _, none, 0, rfl, Nat.zero_le _, rfl, rfl, Own.nil _ _ _ _ _, Bel.refl _⟩
  case round =>
    obtain ⟨k, W0, AS, cS, rfl, hk, rfl, rfl, hO, hbS⟩ := hrel
    by_cases hlt : k < ls.length
    · obtain ⟨⟨xa, xk, xn, xc⟩, hx⟩ : ∃ x, ls[k]? = some x := ⟨_, List.getElem?_eq_getElem hlt⟩
      obtain ⟨ad, Ax, cx, rfl, x0, x1, x2, x3, rx⟩ := (HRB.out.to hbS).raw29 hx
      dsimp only at x0 x1 x2 x3 rx
      have HT := Lib.hid (show (ls.take (k + 1)).map evR = (ls.take k).map evR ++ [evR (xa, xk, xn, xc)] by rw [List.take_add_one, hx]; simp)
      obtain ⟨We, hWe⟩ : ∃ We, W0.alloc (.cells #[.int .i64 xa, .int .i64 xk, .int .i64 xn, .slice Ax xc.length cx] 45) = We := ⟨_, rfl⟩
      have hbe : Bel W0 We := by rw [← hWe]; exact (Bel.refl _).alloc _
      have hne : We.heap[W0.heap.size]? = some (.cells #[.int .i64 xa, .int .i64 xk, .int .i64 xn, .slice Ax xc.length cx] 45 (0, 0)) := by rw [← hWe]; exact heap_alloc_new W0 _
      have hez : We.heap.size = W0.heap.size + 1 := by rw [← hWe]; simp
      have HNE := Lib.hid hne
      have HEL := Lib.hid (show W0.heap.size < We.heap.size by omega)
      have HOE := Lib.hid (hO.to hbe)
      have HRX := Lib.hid (rx.to hbe)
      have HBE := Lib.hid (hbS.trans hbe)
      clear hx hO hbS hbe hne hez rx
      go_wp2_with fail
      clear x0 x1 x2 x3
      refine wp_region_grow2 11 (by kernel_rfl) (by kernel_rfl) (by kernel_rfl) [SPred.val (.pointer (some ⟨W0.heap.size, 0, none⟩)), SPred.val (.int .i64 xa), SPred.val (.int .i64 (withinI xa 4)), SPred.val (.pointer (some ⟨W0.heap.size, 1, none⟩)), SPred.val (.int .i64 xk), SPred.val (.int .i64 (withinI xk 5)), SPred.val (.pointer (some ⟨W0.heap.size, 2, none⟩)), SPred.val (.int .i64 xn), SPred.val (.int .i64 (withinI xn 4)), SPred.val (.agg #[.int .i64 (withinI xa 4), .int .i64 (withinI xk 5), .int .i64 (withinI xn 4), .slice none 0 0]), SPred.ev0 27] ?_ ?_
      · refine ⟨fun u ρ w8 hb8 hd => ?_, fun u ρ w8 hb8 hd => ?_, fun u ρ w8 hb8 hd => ?_, fun u ρ w8 hb8 hd => ?_, fun u ρ w8 hb8 hd => ?_, fun u ρ w8 hb8 hd => ?_, fun u ρ w8 hb8 hd => ?_, fun u ρ w8 hb8 hd => ?_, fun u ρ w8 hb8 hd => ?_, fun u ρ w8 hb8 hd => ?_, fun u ρ w8 hb8 hd => ?_, trivial⟩
        · simp only [growFr, List.getElem?_cons_succ, List.getElem?_cons_zero, Option.bind_some, Act.put, List.setIfInBounds_toArray, List.set_cons_succ, List.set_cons_zero]
          go_wp2_with fail
          exact ⟨rfl, _, rfl, Bel.refl _, rfl⟩
        · have h0 : u 0 = _ := hd 0 (by kernel_rfl)
          have p2 : w8.cell? ⟨W0.heap.size, 0, none⟩ = some (.int .i64 xa) := cellAt ((hb8.block HEL.out).trans HNE.out) 0
          simp only [growFr, List.getElem?_cons_succ, List.getElem?_cons_zero, Option.bind_some, Act.put, List.setIfInBounds_toArray, List.set_cons_succ, List.set_cons_zero, h0]
          go_wp2_with fail
          exact ⟨rfl, _, rfl, Bel.refl _, rfl⟩
        · have h1 : u 1 = _ := hd 1 (by kernel_rfl)
          simp only [growFr, List.getElem?_cons_succ, List.getElem?_cons_zero, Option.bind_some, Act.put, List.setIfInBounds_toArray, List.set_cons_succ, List.set_cons_zero, h1]
          go_wp2_with fail
          refine (within_c xa 4 _ (by decide)).mono ?_
          rintro e w9 ⟨rfl, rfl⟩
          go_wp2_with fail
          exact ⟨rfl, _, rfl, Bel.refl _, rfl⟩
        · simp only [growFr, List.getElem?_cons_succ, List.getElem?_cons_zero, Option.bind_some, Act.put, List.setIfInBounds_toArray, List.set_cons_succ, List.set_cons_zero]
          go_wp2_with fail
          exact ⟨rfl, _, rfl, Bel.refl _, rfl⟩
        · have h3 : u 3 = _ := hd 3 (by kernel_rfl)
          have p2 : w8.cell? ⟨W0.heap.size, 1, none⟩ = some (.int .i64 xk) := cellAt ((hb8.block HEL.out).trans HNE.out) 1
          simp only [growFr, List.getElem?_cons_succ, List.getElem?_cons_zero, Option.bind_some, Act.put, List.setIfInBounds_toArray, List.set_cons_succ, List.set_cons_zero, h3]
          go_wp2_with fail
          exact ⟨rfl, _, rfl, Bel.refl _, rfl⟩
        · have h4 : u 4 = _ := hd 4 (by kernel_rfl)
          simp only [growFr, List.getElem?_cons_succ, List.getElem?_cons_zero, Option.bind_some, Act.put, List.setIfInBounds_toArray, List.set_cons_succ, List.set_cons_zero, h4]
          go_wp2_with fail
          refine (within_c xk 5 _ (by decide)).mono ?_
          rintro e w9 ⟨rfl, rfl⟩
          go_wp2_with fail
          exact ⟨rfl, _, rfl, Bel.refl _, rfl⟩
        · simp only [growFr, List.getElem?_cons_succ, List.getElem?_cons_zero, Option.bind_some, Act.put, List.setIfInBounds_toArray, List.set_cons_succ, List.set_cons_zero]
          go_wp2_with fail
          exact ⟨rfl, _, rfl, Bel.refl _, rfl⟩
        · have h6 : u 6 = _ := hd 6 (by kernel_rfl)
          have p2 : w8.cell? ⟨W0.heap.size, 2, none⟩ = some (.int .i64 xn) := cellAt ((hb8.block HEL.out).trans HNE.out) 2
          simp only [growFr, List.getElem?_cons_succ, List.getElem?_cons_zero, Option.bind_some, Act.put, List.setIfInBounds_toArray, List.set_cons_succ, List.set_cons_zero, h6]
          go_wp2_with fail
          exact ⟨rfl, _, rfl, Bel.refl _, rfl⟩
        · have h7 : u 7 = _ := hd 7 (by kernel_rfl)
          simp only [growFr, List.getElem?_cons_succ, List.getElem?_cons_zero, Option.bind_some, Act.put, List.setIfInBounds_toArray, List.set_cons_succ, List.set_cons_zero, h7]
          go_wp2_with fail
          refine (within_c xn 4 _ (by decide)).mono ?_
          rintro e w9 ⟨rfl, rfl⟩
          go_wp2_with fail
          exact ⟨rfl, _, rfl, Bel.refl _, rfl⟩
        · have h2 : u 2 = _ := hd 2 (by kernel_rfl)
          have h5 : u 5 = _ := hd 5 (by kernel_rfl)
          have h8 : u 8 = _ := hd 8 (by kernel_rfl)
          simp only [growFr, List.getElem?_cons_succ, List.getElem?_cons_zero, Option.bind_some, Act.put, List.setIfInBounds_toArray, List.set_cons_succ, List.set_cons_zero, h2, h5, h8]
          go_wp2_with fail
          exact ⟨rfl, _, rfl, Bel.refl _, rfl⟩
        · simp only [growFr, List.getElem?_cons_succ, List.getElem?_cons_zero, Option.bind_some, Act.put, List.setIfInBounds_toArray, List.set_cons_succ, List.set_cons_zero]
          go_wp2_with fail
          exact ⟨rfl, _, rfl, (Bel.refl _).alloc _, rfl, heap_alloc_new _ _⟩
      · intro u ρ w8 hb8 hall hdj
        have h9 : u 9 = _ := (hall 9 (by omega)).1
        obtain ⟨⟨h10, h10b⟩, h10c, _⟩ := hall 10 (by omega)
        simp only [List.drop_succ_cons, List.drop_zero, growFr, List.getElem?_cons_succ, List.getElem?_cons_zero, Option.bind_some, Act.put, List.setIfInBounds_toArray, List.set_cons_succ, List.set_cons_zero, h9, h10]
        have hk8 := (hb8.block HEL.out).trans HNE.out
        generalize (ρ 10).1 = g at *
        have f0 : w8.frozen? ⟨g, 0, none⟩ = false := frozenAt h10b 0
        have f1 : w8.frozen? ⟨g, 1, none⟩ = false := frozenAt h10b 1
        have f2 : w8.frozen? ⟨g, 2, none⟩ = false := frozenAt h10b 2
        have f3 : w8.frozen? ⟨g, 3, none⟩ = false := frozenAt h10b 3
        have z0 : w8.cell? ⟨g, 0, none⟩ = some (.int .i64 0) := cellAt h10b 0
        have z1 : w8.cell? ⟨g, 1, none⟩ = some (.int .i64 0) := cellAt h10b 1
        have z2 : w8.cell? ⟨g, 2, none⟩ = some (.int .i64 0) := cellAt h10b 2
        have z3 : w8.cell? ⟨g, 3, none⟩ = some (.slice none 0 0) := cellAt h10b 3
        clear hall hdj h9 h10
        have hx0 : Box4 w8 27 g (.int .i64 0) (.int .i64 0) (.int .i64 0) (.slice none 0 0) := h10b
        have HBX := Lib.hid (((((hx0.set0 (.int .i64 (withinI xa 4))).set1 (.int .i64 (withinI xk 5))).set2 (.int .i64 (withinI xn 4))).set3 (.slice none 0 0)))
        have HBW := Lib.hid (((((hb8.set h10c (.int .i64 (withinI xa 4)) (p := ⟨g, 0, none⟩)).set h10c (.int .i64 (withinI xk 5)) (p := ⟨g, 1, none⟩)).set h10c (.int .i64 (withinI xn 4)) (p := ⟨g, 2, none⟩)).set h10c (.slice none 0 0) (p := ⟨g, 3, none⟩)))
        clear hx0 h10b hb8
        go_upto_region 6 with fail
        generalize (((w8.setCell { block := g, off := 0 } (Value.int IntKind.i64 (withinI xa 4))).setCell { block := g, off := 1 } (Value.int IntKind.i64 (withinI xk 5))).setCell { block := g, off := 2 } (Value.int IntKind.i64 (withinI xn 4))).setCell { block := g, off := 3 } (Value.slice none 0 0) = W12 at *
        clear f0 f1 f2 f3 z0 z1 z2 z3 hk8
        have hk12 := (HBW.out.block HEL.out).trans HNE.out
        have p0 : W12.cell? ⟨W0.heap.size, 0, none⟩ = some (.int .i64 xa) := cellAt hk12 0
        have p3 : W12.cell? ⟨W0.heap.size, 3, none⟩ = some (.slice Ax xc.length cx) := cellAt hk12 3
        have HGE := Lib.hid h10c
        have HC := Lib.hid (fun W (hb : Bel We W) => cutIntS_c All Ax cx xc 3 W (HRX.out.to hb) _ rfl (Nat.le_trans (Nat.mul_le_mul_right _ (List.length_take_le 3 xc)) (by decide)) 3 rfl)
        have c3 := Lib.hid (List.length_take_le 3 xc)
        obtain ⟨cs, hcs⟩ : ∃ cs, xc.take 3 = cs := ⟨_, rfl⟩
        rw [hcs] at HC c3
        have HCS := Lib.hid hcs
        clear hcs h10c hk12
        by_cases e : xa.tmod 17 = 16
        case' pos =>
          have e1 : (xa.tmod 17 == 16) = true := by rw [e]; rfl
          obtain ⟨za, hza⟩ : ∃ z, z = xa := ⟨_, rfl⟩
          have HEV := Lib.hid (show evR (xa, xk, xn, xc) = ⟨za, withinI xk 5, withinI xn 4, cs.map cellOf⟩ by unfold evR; dsimp only; rw [if_pos e, HCS.out, hza])
          have y0 := HBX.out.cells.1
          have y1 := HBX.out.free 0
          have HB13 := Lib.hid (HBW.out.set HGE.out (.int .i64 xa) (p := ⟨g, 0, none⟩))
          have HX13 := Lib.hid (HBX.out.set0 (.int .i64 xa))
          go_wp2_with fail
          generalize W12.setCell { block := g, off := 0 } (Value.int IntKind.i64 xa) = W13 at *
          rw [← hza] at HX13
          clear e e1 y0 y1 hza
        case' neg =>
          have e1 : (xa.tmod 17 == 16) = false := beq_eq_false_iff_ne.2 e
          obtain ⟨za, hza⟩ : ∃ z, z = withinI xa 4 := ⟨_, rfl⟩
          have HEV := Lib.hid (show evR (xa, xk, xn, xc) = ⟨za, withinI xk 5, withinI xn 4, cs.map cellOf⟩ by unfold evR; dsimp only; rw [if_neg e, HCS.out, hza])
          have HB13 := HBW
          have HX13 := HBX
          go_wp2_with fail
          generalize W12 = W13 at *
          rw [← hza] at HX13
          clear e e1 hza
        all_goals
          refine (HC.out _ HB13.out).mono ?_
          rintro e wC ⟨vC, rfl, hoC, hbC⟩
          obtain ⟨AC, cC, rfl, hrC⟩ := hoC.rdOne
          have HRC := Lib.hid hrC
          have HBC := Lib.hid (HB13.out.trans hbC)
          have HXC := Lib.hid (HX13.out.to hbC)
          have HGL := Lib.hid (show g < W13.heap.size from HX13.out.lt)
          have HRG := Lib.hid (show ∀ j, W13.heap.size ≤ j → j ≠ g from fun j hj e => by have := HGL.out; omega)
          clear hoC hbC hrC HC HX13 HB13
          go_wp2
          go_loopw [37] (fun v37 wr => ∃ (i : Nat) (W : World) (AO : Option Addr) (cO : Nat), W = wr ∧ i ≤ cs.length ∧ v37 = .int .i64 i ∧ Box4 W 27 g (.int .i64 za) (.int .i64 (withinI xk 5)) (.int .i64 (withinI xn 4)) (.slice AO i cO) ∧ Own cellT 32 W We.heap.size (fun _ => False) (.slice AO i cO) ((cs.take i).map cellOf) ∧ Bel We W ∧ wC.grownBy W (some g) ∧ ∀ b, (Value.slice AO i cO).ownBlock = some b → wC.heap.size ≤ b) (fun v37 _ => cs.length - (intOf v37).toNat)
          case atStart => exact ⟨0, _, none, 0, rfl, Nat.zero_le _, rfl, HXC.out, Own.nil _ _ _ _ _, HBC.out, gr_bel (Bel.refl _), fun b hb => by cases hb⟩
          case round =>
            obtain ⟨i, W, AO, cO, rfl, hi, rfl, hX, hOC, hBC, hG, hLo⟩ := hrel
            have HX := Lib.hid hX
            have HOC := Lib.hid hOC
            have HBC2 := Lib.hid hBC
            have HG := Lib.hid hG
            have HLO := Lib.hid hLo
            clear hX hOC hBC hG hLo
            have c33 : cs.length ≤ 3 := c3.out
            by_cases hli : i < cs.length
            · obtain ⟨adC, eC, qC⟩ := (HRC.out.step (w' := W) (fun j hj hjl => HG.out.block j hjl (fun e => HRG.out j hj.1 (Option.some.inj e)))).get1 hli
              obtain ⟨z, hz⟩ : ∃ z, cs[i] = z := ⟨_, rfl⟩
              have HTK := Lib.hid (show (cs.take (i + 1)).map cellOf = (cs.take i).map cellOf ++ [cellOf z] by rw [List.take_add_one, List.getElem?_eq_getElem hli, hz]; simp)
              have HLN := Lib.hid (show ((cs.take i).map cellOf).length = i by simp; omega)
              obtain ⟨xs, hxs⟩ : ∃ xs, (cs.take i).map cellOf = xs := ⟨_, rfl⟩
              rw [hxs] at HTK HLN HOC
              rw [hz] at qC
              subst eC
              clear hxs hz
              have qC' : W.cell? (adC.add i) = some (.int .i64 z) := qC
              clear qC
              go_wp2_with fail
              clear qC'
              refine wp_region_grow2 12 (by kernel_rfl) (by kernel_rfl) (by kernel_rfl) [SPred.val (.pointer (some ⟨g, 3, none⟩)), SPred.val (.slice AO i cO), SPred.val (.int .i64 z), SPred.val (.int .i64 (withinI z 3)), SPred.val (.int .i64 z), SPred.val (.int .i64 (wrap64 (z.tdiv 3))), SPred.val (.int .i64 (withinI (wrap64 (z.tdiv 3)) 2)), SPred.val (.int .i64 z), SPred.val (.int .i64 (z.tmod 2)), SPred.val (.bool (z.tmod 2 == 0)), SPred.val (.agg #[.int .i64 (withinI z 3), .int .i64 (withinI (wrap64 (z.tdiv 3)) 2), .bool (z.tmod 2 == 0)]), SPred.litC 32 (cellOf z)] ?_ ?_
              · refine ⟨fun u ρ w8 hb8 hd => ?_, fun u ρ w8 hb8 hd => ?_, fun u ρ w8 hb8 hd => ?_, fun u ρ w8 hb8 hd => ?_, fun u ρ w8 hb8 hd => ?_, fun u ρ w8 hb8 hd => ?_, fun u ρ w8 hb8 hd => ?_, fun u ρ w8 hb8 hd => ?_, fun u ρ w8 hb8 hd => ?_, fun u ρ w8 hb8 hd => ?_, fun u ρ w8 hb8 hd => ?_, fun u ρ w8 hb8 hd => ?_, trivial⟩
                · simp only [growFr, List.getElem?_cons_succ, List.getElem?_cons_zero, Option.bind_some, Act.put, List.setIfInBounds_toArray, List.set_cons_succ, List.set_cons_zero]
                  go_wp2_with fail
                  exact ⟨rfl, _, rfl, Bel.refl _, rfl⟩
                · have y3 := (HX.out.to hb8).cells.2.2.2
                  have h0 : u 0 = _ := hd 0 (by kernel_rfl)
                  simp only [growFr, List.getElem?_cons_succ, List.getElem?_cons_zero, Option.bind_some, Act.put, List.setIfInBounds_toArray, List.set_cons_succ, List.set_cons_zero, h0]
                  go_wp2_with fail
                  exact ⟨rfl, _, rfl, Bel.refl _, rfl⟩
                · simp only [growFr, List.getElem?_cons_succ, List.getElem?_cons_zero, Option.bind_some, Act.put, List.setIfInBounds_toArray, List.set_cons_succ, List.set_cons_zero]
                  go_wp2_with fail
                  exact ⟨rfl, _, rfl, Bel.refl _, rfl⟩
                · have h2 : u 2 = _ := hd 2 (by kernel_rfl)
                  simp only [growFr, List.getElem?_cons_succ, List.getElem?_cons_zero, Option.bind_some, Act.put, List.setIfInBounds_toArray, List.set_cons_succ, List.set_cons_zero, h2]
                  go_wp2_with fail
                  refine (within_c z 3 _ (by decide)).mono ?_
                  rintro e w9 ⟨rfl, rfl⟩
                  go_wp2_with fail
                  exact ⟨rfl, _, rfl, Bel.refl _, rfl⟩
                · simp only [growFr, List.getElem?_cons_succ, List.getElem?_cons_zero, Option.bind_some, Act.put, List.setIfInBounds_toArray, List.set_cons_succ, List.set_cons_zero]
                  go_wp2_with fail
                  exact ⟨rfl, _, rfl, Bel.refl _, rfl⟩
                · have h4 : u 4 = _ := hd 4 (by kernel_rfl)
                  simp only [growFr, List.getElem?_cons_succ, List.getElem?_cons_zero, Option.bind_some, Act.put, List.setIfInBounds_toArray, List.set_cons_succ, List.set_cons_zero, h4]
                  go_wp2_with fail
                  exact ⟨rfl, _, rfl, Bel.refl _, rfl⟩
                · have h5 : u 5 = _ := hd 5 (by kernel_rfl)
                  simp only [growFr, List.getElem?_cons_succ, List.getElem?_cons_zero, Option.bind_some, Act.put, List.setIfInBounds_toArray, List.set_cons_succ, List.set_cons_zero, h5]
                  go_wp2_with fail
                  refine (within_c (wrap64 (z.tdiv 3)) 2 _ (by decide)).mono ?_
                  rintro e w9 ⟨rfl, rfl⟩
                  go_wp2_with fail
                  exact ⟨rfl, _, rfl, Bel.refl _, rfl⟩
                · simp only [growFr, List.getElem?_cons_succ, List.getElem?_cons_zero, Option.bind_some, Act.put, List.setIfInBounds_toArray, List.set_cons_succ, List.set_cons_zero]
                  go_wp2_with fail
                  exact ⟨rfl, _, rfl, Bel.refl _, rfl⟩
                · have h7 : u 7 = _ := hd 7 (by kernel_rfl)
                  simp only [growFr, List.getElem?_cons_succ, List.getElem?_cons_zero, Option.bind_some, Act.put, List.setIfInBounds_toArray, List.set_cons_succ, List.set_cons_zero, h7]
                  go_wp2_with fail
                  exact ⟨rfl, _, rfl, Bel.refl _, rfl⟩
                · have h8 : u 8 = _ := hd 8 (by kernel_rfl)
                  simp only [growFr, List.getElem?_cons_succ, List.getElem?_cons_zero, Option.bind_some, Act.put, List.setIfInBounds_toArray, List.set_cons_succ, List.set_cons_zero, h8]
                  go_wp2_with fail
                  exact ⟨rfl, _, rfl, Bel.refl _, rfl⟩
                · have h3 : u 3 = _ := hd 3 (by kernel_rfl)
                  have h6 : u 6 = _ := hd 6 (by kernel_rfl)
                  have h9 : u 9 = _ := hd 9 (by kernel_rfl)
                  simp only [growFr, List.getElem?_cons_succ, List.getElem?_cons_zero, Option.bind_some, Act.put, List.setIfInBounds_toArray, List.set_cons_succ, List.set_cons_zero, h3, h6, h9]
                  go_wp2_with fail
                  exact ⟨rfl, _, rfl, Bel.refl _, rfl⟩
                · have h10 : u 10 = _ := hd 10 (by kernel_rfl)
                  simp only [growFr, List.getElem?_cons_succ, List.getElem?_cons_zero, Option.bind_some, Act.put, List.setIfInBounds_toArray, List.set_cons_succ, List.set_cons_zero, h10]
                  go_wp2_with fail
                  exact ⟨rfl, _, rfl, (Bel.refl _).alloc _, rfl, heap_alloc_new _ _⟩
              · intro u ρ w8 hb8 hall hdj
                have h1 : u 1 = _ := (hall 1 (by omega)).1
                obtain ⟨⟨h11, h11b⟩, h11c, _⟩ := hall 11 (by omega)
                simp only [List.drop_succ_cons, List.drop_zero, growFr, List.getElem?_cons_succ, List.getElem?_cons_zero, Option.bind_some, Act.put, List.setIfInBounds_toArray, List.set_cons_succ, List.set_cons_zero, h1, h11]
                generalize (ρ 11).1 = lo at *
                clear hall hdj h1 h11
                go_wp2_with (at_builtin; go_loud (refine wp_append cellT (w0 := We) 25 32 (.agg #[.int .i64 0, .int .i64 0, .bool false]) 24 rfl _ _ rfl Try.underlying25 infoCell rfl (fun _ => False) (fun _ => True) (.slice AO i cO) xs [cellOf z] (some ⟨lo, 0, none⟩) 1 1 rfl rfl rfl (HOC.out.to hb8) (rd_litC h11b) (fun x cs h => cellT_rd.2 (cellT_rd.1 h)) (HBC2.out.trans hb8) (by have := HLN.out; have := c3.out; simp [maxLen]; omega) (by have := HLN.out; have := c3.out; simp; omega) ?_); go_loud (rintro v2 W4 ho4 hb4 hg4 hf4; obtain ⟨A4, c4, hv4⟩ := ho4.form; have hv5 : v2 = .slice A4 (i + 1) c4 := (by rw [hv4, List.length_append, List.length_singleton, HLN.out]); clear hv4; subst hv5; have HO4 := Lib.hid ho4; have HB4 := Lib.hid hb4; have HG4 := Lib.hid hg4; have HF4 := Lib.hid hf4; have hx4 := (HX.out.to hb8).grown hg4 (fun k hk => (HOC.out.to hb8).notBox4 (HX.out.to hb8) (by decide) hk); have HX4 := Lib.hid hx4; have y3 := hx4.cells.2.2.2; have y4 := hx4.free 3; clear ho4 hb4 hg4 hf4 hx4))
                go_roundw
                case rel =>
                  have H1 : wC.grownBy w8 (some g) := gr_trans HG.out (gr_bel hb8)
                  have H2 : wC.grownBy W4 (some g) := ⟨HG4.out.os.trans H1.os, HG4.out.tape.trans H1.tape, HG4.out.output.trans H1.output, Nat.le_trans H1.size HG4.out.size, fun j hj hne => (HG4.out.block j (Nat.lt_of_lt_of_le hj H1.size) (fun e => absurd (HLO.out j e.symm) (by omega))).trans (H1.block j hj hne)⟩
                  exact ⟨i + 1, _, A4, c4, rfl, by omega, by go_num, HX4.out.set3 _, by rw [HTK.out]; exact HO4.out.step (fun j hj => (Upd.one W4 g 3 _).block j (HO4.out.notBox4 HX4.out (by decide) hj)) (fun _ h => h.elim), HB4.out.set (p := ⟨g, 3, none⟩) HGE.out _, gr_trans H2 (grown_store W4 g 3 _), fun b hb => by
                    rcases HF4.out with h | h
                    · rw [h] at hb; exact HLO.out b hb
                    · rw [h] at hb
                      injection hb with hb
                      rw [← hb]
                      exact H1.size⟩
                case measure => simp [intOf]; omega
            · obtain rfl : i = cs.length := by omega
              obtain ⟨q0, q1, q2, q3⟩ := HX.out.cells
              have HOD : Own cellT 32 W We.heap.size (fun _ => False) (.slice AO cs.length cO) (cs.map cellOf) := by
                have := HOC.out
                rwa [List.take_length] at this
              obtain ⟨A0, c0, e0, r0⟩ := HOD.rd
              injection e0 with e1 e2 e3
              subst e1 e3
              have HRD := Lib.hid (show Rd cellT W (fun j => Ge wB.heap.size j ∧ some j ≠ (Value.slice AS k cS).ownBlock) AO cO (cs.map cellOf) from r0.mono (fun j hj => by
                rcases hj with hj | hj
                · exact hj.elim
                · exact ⟨Nat.le_trans HBE.out.size (HOD.ge hj.symm), HOD.notOwn (HOE.out.to HBC2.out) (by decide) hj⟩))
              have HKL := Lib.hid (show ((ls.take k).map evR).length = k by simp; omega)
              have l24' := Lib.hid l24
              clear e2 r0 HOD
              go_wp2_with (at_builtin; go_loud (refine wp_append1 evT (w0 := wB) 23 27 (.agg #[.int .i64 0, .int .i64 0, .int .i64 0, .slice none 0 0]) 48 rfl _ _ rfl Try.underlying23 infoKEvs rfl (Ge wB.heap.size) (.slice AS k cS) ((ls.take k).map evR) ⟨za, withinI xk 5, withinI xn 4, cs.map cellOf⟩ [.int .i64 za, .int .i64 (withinI xk 5), .int .i64 (withinI xn 4), .slice AO cs.length cO] rfl rfl (HOE.out.to HBC2.out) (evT_rd.2 ⟨AO, cO, by simp, HRD.out⟩) (HBE.out.trans HBC2.out) (by have := HKL.out; simp [maxLen]; omega) (by have := HKL.out; simp; omega) ?_); go_loud (rintro v2 W6 ho6 hb6 hg6 hf6; obtain ⟨A6, c6, hv6⟩ := ho6.form; have hv7 : v2 = .slice A6 (k + 1) c6 := (by rw [hv6, List.length_append, List.length_singleton, HKL.out]); clear hv6; subst hv7))
              go_roundw
              case rel => exact ⟨k + 1, _, A6, c6, rfl, by omega, by go_num, rfl, by rw [HT.out, HEV.out]; exact ho6, hb6⟩
              case measure => simp [intOf]; omega
    · obtain rfl : k = ls.length := by omega
      have HO2 : Own evT 27 W0 wB.heap.size (Ge wB.heap.size) (.slice AS ls.length cS) (ls.map evR) := by
        have := hO
        rwa [List.take_length] at this
      obtain ⟨A9, c9, e9, r9⟩ := HO2.rdAll
      injection e9 with z1 z2 z3
      subst z1 z3
      have HR9 := Lib.hid r9
      have HBS := Lib.hid (HBB.out.trans hbS)
      clear z2 r9 HO2 hO hbS
      go_wp2
      go_ret
      exact ⟨_, _, rfl, HR9.out, HBS.out⟩
end Go.Proofs.Ytamihjibdcccmaa
