/- Walks: raw items, cut, as the statements of chapter 9 take them. -/
import Derived.Test.YtbfbhacdllhddaaKeep9
import Derived.Test.YtbfbhacdllhddaaAut9
set_option linter.unusedVariables false
set_option linter.unusedSimpArgs false
set_option linter.all false
namespace Go.Cb
open Go.RowKit
def rawI (l : List Itm) : List Itm := l.map fun x => (x.1, x.2.take 6)
theorem rawI_take {l : List Itm} {k : Nat} {x : Itm} (h : l[k]? = some x) : rawI (l.take (k + 1)) = rawI (l.take k) ++ [(x.1, x.2.take 6)] := by
  unfold rawI
  rw [List.take_add_one, h]; simp
end Go.Cb
namespace Go.Proofs.Ytbfbhacdllhddaa
open Go.RowKit Go.Cb Go.Sort
/-- An item, its word in blocks that the region made (which began when there were b). -/
def itmP (b : Nat) (x : Itm) : SPred := ⟨fun v _ hi w => ∃ A c, v = .agg #[.int .i64 x.1, .slice A x.2.length c] ∧ RdW w (fun k => b ≤ k ∧ k < hi) A c x.2, fun _ _ _ _ _ ⟨A, c, e, h⟩ hb => ⟨A, c, e, h.to hb⟩⟩
/-- A row of one item. -/
def litIP (b : Nat) (t : TypeId) (x : Itm) : SPred :=
  ⟨fun v lo hi w => v = .slice (some ⟨lo, 0, none⟩) 1 1 ∧ b ≤ lo ∧ lo < hi ∧ ∃ A c, w.heap[lo]? = some (.cells #[.int .i64 x.1, .slice A x.2.length c] t (0, 0)) ∧ RdW w (fun k => b ≤ k ∧ k < lo) A c x.2,
    fun _ _ _ w1 w2 ⟨e, h1, h2, A, c, h3, h4⟩ hb => ⟨e, h1, h2, A, c, (hb.block (blk_lt h3)).trans h3, h4.to hb⟩⟩
theorem litIP_rd {b : Nat} {t : TypeId} {x : Itm} {v : Value} {lo hi : Nat} {w : World} (h : (litIP b t x).φ v lo hi w) :
    v = .slice (some ⟨lo, 0, none⟩) 1 1 ∧ b ≤ lo ∧ lo < w.heap.size ∧ Rd itemT w (fun k => b ≤ k ∧ k < lo + 1) (some ⟨lo, 0, none⟩) 1 [x] := by
  obtain ⟨e, h1, h2, A, c, h3, h4⟩ := h
  refine ⟨e, h1, blk_lt h3, by simp, by decide, fun j y hj => ?_⟩
  rcases j with _ | j
  · obtain rfl : x = y := by simpa using hj
    refine ⟨_, [.int .i64 x.1, .slice A x.2.length c], rfl, ⟨h1, Nat.lt_succ_self _⟩, ⟨[_], [_], rfl, rfl, ⟨A, c, rfl, h4.rd.mono (fun k hk => ⟨hk.1, by omega⟩)⟩⟩, fun i u hu => ?_⟩
    rw [add_plain, cellAt h3, show 0 * itemT.sz + i = i by omega]
    rcases i with _ | _ | i
    · exact hu
    · exact hu
    · simp at hu
  · simp at hj
set_option maxRecDepth 100000 in
set_option maxHeartbeats 16000000 in
theorem oflaw09_c (S : Nat → Prop) (A : Option Addr) (c : Nat) (l : List Itm) (w : World) (h : Rd itemT w S A c l) (n : Nat) (hn : n = l.length) :
    Calls Try.prog 21 #[.slice A n c] w fun e w' => ∃ v, e = .returned v ∧ DItm w.heap.size w' v (rawI (l.take 6)) ∧ Bel w w' := by
  subst hn
  have HC := Lib.hid (cutRaws9_c itemT rfl S A c l 6 w h _ rfl (Nat.le_trans (Nat.mul_le_mul_right _ (List.length_take_le 6 l)) (by decide)) 6 rfl)
  have l6 := List.length_take_le 6 l
  clear h
  generalize l.take 6 = ls at *
  go_enter Try.func21, Try.ntmps21
  go_wp2_with fail
  refine HC.out.mono ?_
  rintro e wB ⟨vB, rfl, hoB, hbB⟩
  obtain ⟨AB, cB, rfl, hrB⟩ := hoB.rdAll
  have HRB := Lib.hid hrB
  clear hoB hrB HC
  go_wp2
  go_loopw [3, 9] (fun v3 v9 wr => ∃ (k : Nat) (W : World) (AS : Option Addr) (cS : Nat), W = wr ∧ k ≤ ls.length ∧ v9 = .int .i64 k ∧ v3 = .slice AS k cS ∧ Own itemT 76 W wB.heap.size (Ge wB.heap.size) (.slice AS k cS) (rawI (ls.take k)) ∧ Bel wB W) (fun _ v9 _ => ls.length - (intOf v9).toNat)
  case atStart => exact ⟨0, _, none, 0, rfl, Nat.zero_le _, rfl, rfl, Own.nil _ _ _ _ _, Bel.refl _⟩
  case round =>
    obtain ⟨k, W0, AS, cS, rfl, hk, rfl, rfl, hO, hbS⟩ := hrel
    by_cases hlt : k < ls.length
    · obtain ⟨ad, Bx, cx, rfl, x0, x1, rx⟩ := item_rd (HRB.out.to hbS) hlt
      obtain ⟨⟨j, p⟩, hx⟩ : ∃ x, ls[k] = x := ⟨_, rfl⟩
      obtain ⟨pt, hpt⟩ : ∃ pt, p.take 6 = pt := ⟨_, rfl⟩
      have HT := Lib.hid (show rawI (ls.take (k + 1)) = rawI (ls.take k) ++ [(j, pt)] by rw [rawI_take (show ls[k]? = some (j, p) by rw [List.getElem?_eq_getElem hlt, hx]), ← hpt])
      have HPT := Lib.hid hpt
      have lpt : pt.length ≤ 6 := by rw [← hpt, List.length_take]; omega
      rw [hx] at x0 x1 rx
      dsimp only at x0 x1 rx
      have hal : Bel W0 (W0.alloc (.cells #[.int .i64 j, .slice Bx p.length cx] 96)) := (Bel.refl _).alloc _
      have X := Box.new W0 96 (.int .i64 j) (.slice Bx p.length cx)
      have HO := Lib.hid (hO.to hal)
      have HLN := Lib.hid (show (rawI (ls.take k)).length = k by unfold rawI; rw [List.length_map, List.length_take]; omega)
      have HOL := Lib.hid (fun q hq => hO.lt (k := q) hq)
      have HB1 := Lib.hid (hbS.trans hal)
      have HRX := Lib.hid (rx.to hal)
      have hs1 := hal.size
      have hsS := hbS.size
      obtain ⟨z0, z1, _, _⟩ := X.cells
      clear hx hpt rx hO hal hbS
      go_wp2_with fail
      clear z0 z1 x0 x1
      generalize W0.alloc (.cells #[.int .i64 j, .slice Bx p.length cx] 96) = W at *
      refine wp_region_grow2 8 (by kernel_rfl) (by kernel_rfl) (by kernel_rfl) [SPred.val (.slice AS k cS), SPred.val (.pointer (some ⟨W0.heap.size, 0, none⟩)), SPred.val (.int .i64 j), SPred.val (.pointer (some ⟨W0.heap.size, 1, none⟩)), SPred.val (.slice Bx p.length cx), SPred.word W.heap.size pt, itmP W.heap.size (j, pt), litIP W.heap.size 76 (j, pt)] ?_ ?_
      · refine ⟨fun u ρ w2 hb2 hd => ?_, fun u ρ w2 hb2 hd => ?_, fun u ρ w2 hb2 hd => ?_, fun u ρ w2 hb2 hd => ?_, fun u ρ w2 hb2 hd => ?_, fun u ρ w2 hb2 hd => ?_, fun u ρ w2 hb2 hd => ?_, fun u ρ w2 hb2 hd => ?_, trivial⟩
        · simp only [growFr, List.getElem?_cons_succ, List.getElem?_cons_zero, Option.bind_some, Act.put, List.setIfInBounds_toArray, List.set_cons_succ, List.set_cons_zero]
          go_wp2_with fail
          exact ⟨rfl, _, rfl, Bel.refl _, rfl⟩
        · simp only [growFr, List.getElem?_cons_succ, List.getElem?_cons_zero, Option.bind_some, Act.put, List.setIfInBounds_toArray, List.set_cons_succ, List.set_cons_zero]
          go_wp2_with fail
          exact ⟨rfl, _, rfl, Bel.refl _, rfl⟩
        · have h1 : u 1 = _ := hd 1 (by kernel_rfl)
          obtain ⟨y0, y1, _, _⟩ := (X.to hb2).cells
          simp only [growFr, List.getElem?_cons_succ, List.getElem?_cons_zero, Option.bind_some, Act.put, List.setIfInBounds_toArray, List.set_cons_succ, List.set_cons_zero, h1]
          go_wp2_with fail
          exact ⟨rfl, _, rfl, Bel.refl _, rfl⟩
        · simp only [growFr, List.getElem?_cons_succ, List.getElem?_cons_zero, Option.bind_some, Act.put, List.setIfInBounds_toArray, List.set_cons_succ, List.set_cons_zero]
          go_wp2_with fail
          exact ⟨rfl, _, rfl, Bel.refl _, rfl⟩
        · have h1 : u 3 = _ := hd 3 (by kernel_rfl)
          obtain ⟨y0, y1, _, _⟩ := (X.to hb2).cells
          simp only [growFr, List.getElem?_cons_succ, List.getElem?_cons_zero, Option.bind_some, Act.put, List.setIfInBounds_toArray, List.set_cons_succ, List.set_cons_zero, h1]
          go_wp2_with fail
          exact ⟨rfl, _, rfl, Bel.refl _, rfl⟩
        · have h1 : u 4 = _ := hd 4 (by kernel_rfl)
          simp only [growFr, List.getElem?_cons_succ, List.getElem?_cons_zero, Option.bind_some, Act.put, List.setIfInBounds_toArray, List.set_cons_succ, List.set_cons_zero, h1]
          go_wp2_with fail
          refine (cutIntS_c _ _ _ _ 6 _ (HRX.out.to hb2) _ rfl (by rw [HPT.out]; omega) _ rfl).mono ?_
          rw [HPT.out]
          rintro e w3 ⟨v3, rfl, ho3, hb3⟩
          go_wp2_with fail
          obtain ⟨A3, c3, rfl, r3⟩ := ho3.rdW
          have hs2 := hb2.size
          exact ⟨rfl, _, rfl, hb3, A3, c3, rfl, r3.mono (fun k hk => ⟨by omega, hk.2⟩)⟩
        · have h1 : u 2 = _ := hd 2 (by kernel_rfl)
          obtain ⟨A4, c4, h2, r4⟩ : (SPred.word W.heap.size pt).φ (u 5) (ρ 5).1 (ρ 5).2 w2 := hd 5 (by kernel_rfl)
          simp only [growFr, List.getElem?_cons_succ, List.getElem?_cons_zero, Option.bind_some, Act.put, List.setIfInBounds_toArray, List.set_cons_succ, List.set_cons_zero, h1, h2]
          go_wp2_with fail
          exact ⟨rfl, _, rfl, Bel.refl _, A4, c4, rfl, r4.bound.mono (fun k hk => ⟨hk.1.1, hk.2⟩)⟩
        · obtain ⟨A4, c4, h1, r4⟩ : (itmP W.heap.size (j, pt)).φ (u 6) (ρ 6).1 (ρ 6).2 w2 := hd 6 (by kernel_rfl)
          simp only [growFr, List.getElem?_cons_succ, List.getElem?_cons_zero, Option.bind_some, Act.put, List.setIfInBounds_toArray, List.set_cons_succ, List.set_cons_zero, h1]
          go_wp2_with fail
          have hal2 : Bel w2 (w2.alloc (.cells #[.int .i64 j, .slice A4 pt.length c4] 76)) := (Bel.refl _).alloc _
          have hs2 := hb2.size
          refine ⟨rfl, _, rfl, hal2, rfl, hs2, by simp, A4, c4, heap_alloc_new w2 _, ((r4.bound).to hal2).mono (fun k hk => ⟨hk.1.1, hk.2⟩)⟩
      · intro u ρ w2 hb2 hall hdj
        have h0 : u 0 = _ := (hall 0 (by omega)).1
        have h1 : u 1 = _ := (hall 1 (by omega)).1
        have h2 : u 2 = _ := (hall 2 (by omega)).1
        have h3 : u 3 = _ := (hall 3 (by omega)).1
        have h4 : u 4 = _ := (hall 4 (by omega)).1
        obtain ⟨A5, c5, h5, _⟩ : (SPred.word W.heap.size pt).φ (u 5) (ρ 5).1 (ρ 5).2 w2 := (hall 5 (by omega)).1
        obtain ⟨A6, c6, h6, _⟩ : (itmP W.heap.size (j, pt)).φ (u 6) (ρ 6).1 (ρ 6).2 w2 := (hall 6 (by omega)).1
        obtain ⟨h7, hlo, hlt7, hR⟩ := litIP_rd (hall 7 (by omega)).1
        simp only [List.drop_succ_cons, List.drop_zero, growFr, List.getElem?_cons_succ, List.getElem?_cons_zero, Option.bind_some, Act.put, List.setIfInBounds_toArray, List.set_cons_succ, List.set_cons_zero, h0, h1, h2, h3, h4, h5, h6, h7]
        have HO2 := Lib.hid (HO.out.to hb2)
        have HB2 := Lib.hid (HB1.out.trans hb2)
        have HR := Lib.hid hR
        have hs2 := hb2.size
        generalize (ρ 7).1 = q at *
        clear hall hdj h0 h1 h2 h3 h4 h5 h6 h7 hR
        go_wp2_with (at_builtin; refine wp_append itemT (w0 := wB) 27 76 (.agg #[.int .i64 0, .slice none 0 0]) 32 rfl _ _ rfl Try.underlying27 info_item rfl (Ge wB.heap.size) (fun j => W.heap.size ≤ j ∧ j < q + 1) (.slice AS k cS) (rawI (ls.take k)) [(j, pt)] (some ⟨q, 0, none⟩) 1 1 rfl rfl rfl HO2.out HR.out (itemT.rdS (fun j hj _ => ⟨by unfold Ge; omega, fun e => by have := HOL.out j e.symm; omega⟩)) HB2.out (by rw [HLN.out]; simp [maxLen]; omega) (by rw [HLN.out]; simp; omega) ?_; rintro v6 w6 ho6 hb6 _ _; rw [← HT.out] at ho6; obtain ⟨A6, c6, hv6⟩ := ho6.form; rw [show (rawI (ls.take (k + 1))).length = k + 1 by rw [HT.out, List.length_append, HLN.out]; rfl] at hv6; subst hv6)
        go_roundw
        case rel => exact ⟨k + 1, _, A6, c6, rfl, by omega, by go_num, rfl, ho6, hb6⟩
        case measure => simp [intOf]; omega
    · obtain rfl : k = ls.length := by omega
      rw [List.take_length] at hO
      obtain ⟨AZ, cZ, eZ, rZ⟩ := hO.rdGe
      injection eZ with z1 z2 z3
      clear z2
      subst z1 z3
      have HLN := Lib.hid (show (rawI ls).length = ls.length by unfold rawI; rw [List.length_map])
      have HZ := Lib.hid rZ
      have hbz := hbB.trans hbS
      have hsB := hbB.size
      clear hO rZ
      go_wp2
      go_ret
      exact ⟨_, rfl, ⟨AS, cS, by rw [HLN.out]; rfl, HZ.out.mono (fun k hk => by unfold Ge at *; omega)⟩, hbz⟩
end Go.Proofs.Ytbfbhacdllhddaa
