/- Walks: lin.Of. -/
import Derived.Test.YtghdleofbkalbaaLin7
import Derived.Shelf.SlSortCmp.NoneTotal
import Derived.Laws.ResultCell
namespace Go.Cb
theorem nzB_snoc {ps : List (List Int)} {k : Nat} {p : List Int} (h : ps[k]? = some p) : nzB (ps.take (k + 1)) = if (normB p).isEmpty = true then nzB (ps.take k) else nzB (ps.take k) ++ [normB p] := by
  unfold nzB
  rw [List.take_add_one, h]
  simp only [Option.toList_some, List.map_append, List.map_cons, List.map_nil, List.filter_append]
  by_cases e : (normB p).isEmpty = true
  · rw [if_pos e]; simp [e]
  · rw [if_neg e]; simp [e]
theorem own_snoc {α : Type} {d : Ty α} {e : TypeId} {w : World} {base : Nat} {S : Nat → Prop} {v : Value} {q : List α} {x : α} (h : Own d e w base S v (q ++ [x])) : ∃ A c, v = .slice A (q.length + 1) c := by
  obtain ⟨A, c, hv⟩ := h.form
  exact ⟨A, c, by rw [hv, List.length_append]; rfl⟩
theorem nzB_length (ps : List (List Int)) : (nzB ps).length ≤ ps.length := by
  unfold nzB
  exact Nat.le_trans (List.length_filter_le _ _) (by rw [List.length_map]; exact Nat.le_refl _)
end Go.Cb
namespace Go.Proofs.Ytghdleofbkalbaa
open Go.RowKit Go.Cb Go.Proofs
theorem info_bagO : (Try.prog.info? 23).map (fun i => (i.zero, i.size, i.bytes)) = some (some (.slice none 0 0), 1, 24) := by kernel_rfl
theorem sortNil_c (fv : Value) (w : World) : Calls Try.prog 35 #[.slice none 0 0, fv] w fun e w' => e = .returned (.tuple #[]) ∧ w' = w :=
  AnyF.slices_SortFunc_none { Try.sortL with } none 0 fv w
set_option maxRecDepth 100000 in
set_option maxHeartbeats 8000000 in
theorem ofW_c (S S' : Nat → Prop) (A B : Option Addr) (ca cb : Nat) (base : List Int) (ps : List (List Int)) (w : World) (h0 : Rd intT w S A ca base) (h1 : Rd bagT w S' B cb ps) (n m : Nat) (hn : n = base.length) (hm : m = ps.length)
    (hl : base.length ≤ 1000000) (hl2 : ps.length ≤ 1000000) (hl3 : ∀ p ∈ ps, p.length ≤ 1000000) :
    Calls Try.prog 15 #[.slice A n ca, .slice B m cb] w fun e w' => ∃ A0 c0 A1 c1, e = .returned (.tuple #[.agg #[.slice A0 (ofLin base ps).1.1.length c0, .slice A1 (ofLin base ps).1.2.length c1], .bool (ofLin base ps).2]) ∧ RdW w' (Ge w.heap.size) A0 c0 (ofLin base ps).1.1 ∧ Rd wbT w' (Ge w.heap.size) A1 c1 (ofLin base ps).1.2 ∧ Bel w w' := by
  subst hn hm
  have lm := h1.lenMax
  have Hl3 := Lib.hid hl3
  clear hl3
  cases hbad : badB base with
  | true =>
    have He := Lib.hid (ofLin_no (ps := ps) hbad)
    go_enter Try.func15, Try.ntmps15
    go_wp2_with fail
    have B0 := Box.new w 26 (.slice none 0 0) (.slice none 0 0)
    have hb0 : Bel w (w.alloc (.cells #[.slice none 0 0, .slice none 0 0] 26)) := (Bel.refl _).alloc _
    generalize w.alloc (.cells #[.slice none 0 0, .slice none 0 0] 26) = W0 at *
    refine (word_c _ _ _ _ _ (h0.to hb0) _ rfl (by omega)).mono ?_
    rw [hbad]
    rintro e w2 ⟨v2, rfl, ho2, hb2⟩
    obtain ⟨A2, c2, rfl⟩ := ho2.form
    have B1 := B0.to hb2
    obtain ⟨x0, x1, f0, f1⟩ := B1.cells
    obtain ⟨y0, y1, g0, g1⟩ := (B1.set0 (.slice A2 (normB base).length c2)).cells
    obtain ⟨z0, z1, k0, k1⟩ := ((B1.set0 (.slice A2 (normB base).length c2)).set0 (.slice none 0 0)).cells
    obtain ⟨u0, u1, l0, l1⟩ := (((B1.set0 (.slice A2 (normB base).length c2)).set0 (.slice none 0 0)).set1 (.slice none 0 0)).cells
    clear ho2 hbad
    go_wp2_with fail
    (try simp only [Exit.inBlock, Exit.then])
    refine bodyPost_ret (v := .tuple #[.agg #[.slice none 0 0, .slice none 0 0], .bool false]) ?_ rfl ?_
    · rw [results_cell_tmp rfl]
      go_simp
    · rw [He.out]
      exact ⟨none, 0, none, 0, rfl, RdW.nil _ _ _ _ (by simp [maxLen]), Rd.nil _ _ _ _ _ (by simp [maxLen]), (((hb0.trans hb2).set (Nat.le_refl _) _).set (Nat.le_refl _) _).set (Nat.le_refl _) _⟩
  | false =>
    have Hbad := Lib.hid hbad
    go_enter Try.func15, Try.ntmps15
    go_wp2_with fail
    have B0 := Box.new w 26 (.slice none 0 0) (.slice none 0 0)
    have hb0 : Bel w (w.alloc (.cells #[.slice none 0 0, .slice none 0 0] 26)) := (Bel.refl _).alloc _
    have hs0 : (w.alloc (.cells #[.slice none 0 0, .slice none 0 0] 26)).heap.size = w.heap.size + 1 := by simp
    generalize w.alloc (.cells #[.slice none 0 0, .slice none 0 0] 26) = W0 at *
    refine (word_c _ _ _ _ _ (h0.to hb0) _ rfl (by omega)).mono ?_
    rw [hbad]
    rintro e w2 ⟨v2, rfl, ho2, hb2⟩
    obtain ⟨A2, c2, rfl, hr2⟩ := ho2.rdW
    have B1 := (B0.to hb2).set0 (.slice A2 (normB base).length c2)
    obtain ⟨x0, x1, f0, f1⟩ := (B0.to hb2).cells
    have hb3 : Bel w (w2.setCell ⟨w.heap.size, 0, none⟩ (.slice A2 (normB base).length c2)) := (hb0.trans hb2).set (Nat.le_refl _) _
    have hu3 : Upd w.heap.size w2 (w2.setCell ⟨w.heap.size, 0, none⟩ (.slice A2 (normB base).length c2)) := Upd.one _ _ _ _
    have hr3' : RdW (w2.setCell ⟨w.heap.size, 0, none⟩ (.slice A2 (normB base).length c2)) (fun q => w.heap.size < q) A2 c2 (normB base) := (hr2.mono (S' := fun q => w.heap.size < q) (fun q hq => by omega)).upd hu3 (Nat.lt_irrefl _)
    have hr3 := hr3'.bound
    obtain ⟨nb, hnb⟩ : ∃ nb, normB base = nb := ⟨_, rfl⟩
    rw [hnb] at B1 hb3 hr3 ⊢
    have HNB := Lib.hid hnb
    clear ho2 hbad B0 hr2 hu3 hr3' hnb
    go_wp2
    clear x0 x1 f0 f1
    generalize w2.setCell ⟨w.heap.size, 0, none⟩ (.slice A2 nb.length c2) = W3 at *
    have hL3 : w.heap.size < W3.heap.size := B1.lt
    obtain ⟨L, hLe⟩ : ∃ L, L = W3.heap.size := ⟨_, rfl⟩
    rw [← hLe] at hr3 hL3
    have hLW : L ≤ W3.heap.size := by omega
    clear hLe
    go_loopw [21] (fun v21 wr => ∃ (k : Nat) (W : World) (q : List (List Int)) (vP : Value), W = wr ∧ k ≤ ps.length ∧ v21 = .int .i64 k ∧ Hid (∀ p ∈ ps.take k, badB p = false) ∧ Hid (q = nzB (ps.take k)) ∧ q.length ≤ k ∧ Box W 26 w.heap.size (.slice A2 nb.length c2) vP ∧ RdW W (fun q => w.heap.size < q ∧ q < L) A2 c2 nb ∧
        Own wbT 23 W w.heap.size (fun q => w.heap.size < q) vP q ∧ Hid (∀ j, vP.ownBlock = some j → L ≤ j) ∧ L ≤ W.heap.size ∧ Hid (q = [] → vP = .slice none 0 0) ∧ Bel w W) (fun v21 _ => ps.length - (intOf v21).toNat)
    case atStart => exact ⟨0, _, [], .slice none 0 0, rfl, Nat.zero_le _, rfl, (fun p hp => by simp at hp : ∀ p ∈ ps.take 0, badB p = false), (by simp [nzB] : ([] : List (List Int)) = nzB (ps.take 0)), Nat.zero_le _, B1, hr3, Own.nil _ _ _ _ _, ((fun j hj => by cases hj) : ∀ j, (Value.slice none 0 0).ownBlock = some j → L ≤ j), hLW, (fun _ => rfl : ([] : List (List Int)) = [] → Value.slice none 0 0 = .slice none 0 0), hb3⟩
    case round =>
      clear B1 hr3 hb3 hb0 hb2 hs0 hLW
      obtain ⟨k, W, q, vP, rfl, hk, rfl, HBD, HQ, hql, B1, hr3, hoP, HVP, hLW, HNL, hb3⟩ := hrel
      by_cases hlt : k < ps.length
      · obtain ⟨ad, P, cp, rfl, hpc, hpr⟩ := (h1.to hb3).row hlt
        have hl3 := Hl3.out ps[k] (List.getElem_mem hlt)
        obtain ⟨p, hpe⟩ : ∃ p, ps[k] = p := ⟨_, rfl⟩
        have HPK := Lib.hid (show ps[k]? = some p by rw [List.getElem?_eq_getElem hlt, hpe])
        rw [hpe] at hpc hpr hl3
        clear hpe
        have CW := word_c _ _ _ _ _ hpr _ rfl (by omega)
        cases hbp : badB p with
        | true =>
          rw [hbp] at CW
          have He := Lib.hid (ofLin_no2 (ps := ps) Hbad.out (ofF_none.2 ⟨p, List.mem_of_getElem? HPK.out, hbp⟩))
          have HCW := Lib.hid CW
          clear CW hbp
          go_wp2_with fail
          refine HCW.out.mono ?_
          rintro e w5 ⟨v5, rfl, ho5, hb5⟩
          have B2 := B1.to hb5
          obtain ⟨x0, x1, f0, f1⟩ := B2.cells
          obtain ⟨y0, y1, g0, g1⟩ := (B2.set0 (.slice none 0 0)).cells
          obtain ⟨z0, z1, k0, k1⟩ := ((B2.set0 (.slice none 0 0)).set1 (.slice none 0 0)).cells
          clear ho5
          go_wp2_with fail
          (try simp only [Exit.inBlock, Exit.then])
          refine bodyPost_ret (v := .tuple #[.agg #[.slice none 0 0, .slice none 0 0], .bool false]) ?_ rfl ?_
          · rw [results_cell_tmp rfl]
            go_simp
          · rw [He.out]
            exact ⟨none, 0, none, 0, rfl, RdW.nil _ _ _ _ (by simp [maxLen]), Rd.nil _ _ _ _ _ (by simp [maxLen]), ((hb3.trans hb5).set (Nat.le_refl _) _).set (Nat.le_refl _) _⟩
        | false =>
          rw [hbp] at CW
          have hsn := nzB_snoc HPK.out
          have hbd2 : ∀ p' ∈ ps.take (k + 1), badB p' = false := fun p' hp' => by
            rw [List.take_add_one, HPK.out] at hp'
            rcases List.mem_append.1 hp' with h | h
            · exact HBD.out p' h
            · simp at h; subst h; exact hbp
          have HBD2 := Lib.hid hbd2
          have lp12 := normB_len p
          clear hbd2 hbp
          cases hpn : normB p with
          | nil =>
            rw [hpn] at CW hsn
            simp only [List.isEmpty_nil, if_true] at hsn
            have HQ2 := Lib.hid (show q = nzB (ps.take (k + 1)) by rw [hsn]; exact HQ.out)
            have HCW := Lib.hid CW
            clear CW hsn hpn lp12
            go_wp2_with fail
            refine HCW.out.mono ?_
            rintro e w5 ⟨v5, rfl, ho5, hb5⟩
            obtain ⟨A5, c5, rfl⟩ := ho5.form
            have B2 := B1.to hb5
            clear ho5
            go_wp2
            go_roundw
            case rel => exact ⟨k + 1, _, q, vP, rfl, by omega, by go_num, HBD2.out, HQ2.out, by omega, B2, hr3.to hb5, hoP.to hb5, HVP.out, by have := hb5.size; omega, HNL.out, hb3.trans hb5⟩
            case measure => simp [intOf]; omega
          | cons x0 r0 =>
            rw [hpn] at CW hsn lp12
            rw [if_neg (by simp)] at hsn
            have HQ2 := Lib.hid (show q ++ [x0 :: r0] = nzB (ps.take (k + 1)) by rw [hsn, ← HQ.out])
            have HCW := Lib.hid CW
            clear CW hsn hpn
            go_wp2_with fail
            refine HCW.out.mono ?_
            rintro e w5 ⟨v5, rfl, ho5, hb5⟩
            obtain ⟨A5, c5, rfl, hr5⟩ := ho5.rdW
            have B2 := B1.to hb5
            have hoP2 := hoP.to hb5
            have hb35 := hb3.trans hb5
            have hsz := hb3.size
            have hsz5 := hb5.size
            have hlt3 : ∀ j, vP.ownBlock = some j → j < W.heap.size := fun j hj => hoP.lt hj
            obtain ⟨AP, cP, rfl⟩ := hoP2.form
            obtain ⟨x1, x2, f0, f1⟩ := B2.cells
            have h5 : wbT.rd w5 (fun j => w.heap.size < j ∧ some j ≠ (Value.slice AP q.length cP).ownBlock) (x0 :: r0) [.slice A5 (x0 :: r0).length c5] := ⟨A5, c5, rfl, hr5.mono (fun j hj => ⟨by have := B1.lt; omega, fun e => by have := hlt3 j e.symm; omega⟩)⟩
            have hr35 := hr3.to hb5
            have HO := Lib.hid hoP2
            clear ho5 hr5 hoP hoP2 hr3 B1
            go_wp2_with (at_builtin; refine wp_append1 wbT (w0 := w) 24 23 (.slice none 0 0) 24 rfl _ _ rfl Try.underlying24 info_bagO rfl (fun j => w.heap.size < j) (.slice AP q.length cP) q (x0 :: r0) [.slice A5 (x0 :: r0).length c5] rfl rfl HO.out h5 hb35 (by unfold maxLen; omega) (by omega) ?_; rintro v6 w6 ho6 hb6 hg6 hf6; obtain ⟨A6, c6, rfl⟩ := own_snoc ho6; obtain ⟨B6, HO6, HG6, HF6⟩ : Box w6 26 w.heap.size (.slice A2 nb.length c2) (.slice AP q.length cP) ∧ Hid (Own wbT 23 w6 w.heap.size (fun j => w.heap.size < j) (.slice A6 (q.length + 1) c6) (q ++ [x0 :: r0])) ∧ Hid (w5.grownBy w6 (Value.slice AP q.length cP).ownBlock) ∧ Hid ((Value.slice A6 (q.length + 1) c6).ownBlock = (Value.slice AP q.length cP).ownBlock ∨ ∃ b, (Value.slice A6 (q.length + 1) c6).ownBlock = some b ∧ w5.heap.size ≤ b) := ⟨(hg6.block _ B2.lt (fun e => by have := HVP.out _ e.symm; omega)).trans B2, ho6, hg6, hf6⟩; clear ho6 hg6 hf6; obtain ⟨z1, z2, k0, k1⟩ := B6.cells)
            have hv6 : ∀ j, (Value.slice A6 (q.length + 1) c6).ownBlock = some j → L ≤ j := fun j hj => by
              rcases HF6.out with e | ⟨b, e, hbb⟩
              · exact HVP.out j (by rw [← e]; exact hj)
              · rw [e] at hj; injection hj with hj; omega
            have HV6 := Lib.hid hv6
            have hu6 := Upd.one w6 w.heap.size 1 (.slice A6 (q.length + 1) c6)
            have o7 := HO6.out.step (w' := w6.setCell ⟨w.heap.size, 1, none⟩ (.slice A6 (q.length + 1) c6)) (fun j hj => hu6.block j (by have := hv6 j hj; omega)) (fun j hj _ _ => hu6.block j (by omega))
            have r7 := (hr35.step' (w' := w6) (fun j hj => HG6.out.block j (by omega) (fun e => by have := HVP.out j e.symm; omega))).upd hu6 (by omega)
            have b7 := B6.set1 (.slice A6 (q.length + 1) c6)
            have bb7 := hb6.set (p := ⟨w.heap.size, 1, none⟩) (Nat.le_refl _) (.slice A6 (q.length + 1) c6)
            have l7 : L ≤ (w6.setCell ⟨w.heap.size, 1, none⟩ (.slice A6 (q.length + 1) c6)).heap.size := by rw [hu6.size]; have := HG6.out.size; omega
            clear hu6 hv6 B6 B2 hr35
            go_roundw
            case rel => exact ⟨k + 1, _, q ++ [x0 :: r0], _, rfl, by omega, by go_num, HBD2.out, HQ2.out, by rw [List.length_append]; simp; omega, b7, r7, o7, HV6.out, l7, (fun e => by simp at e : q ++ [x0 :: r0] = [] → _), bb7⟩
            case measure => simp [intOf]; omega
      · obtain rfl : k = ps.length := by omega
        have HALL := Lib.hid (show ps.take ps.length = ps from List.take_length)
        have hq := HQ.out
        rw [HALL.out] at hq
        have hno := HBD.out
        rw [HALL.out] at hno
        rcases Nat.eq_zero_or_pos q.length with hq0 | hq0
        · obtain rfl : q = [] := List.eq_nil_of_length_eq_zero hq0
          obtain rfl := HNL.out rfl
          have He := Lib.hid (show ofLin base ps = ((nb, []), true) by rw [ofLin_yes Hbad.out (ofF_sorted hno (List.Perm.of_eq hq) List.Pairwise.nil), HNB.out]; rfl)
          clear hq hno hq0 hoP
          obtain ⟨x1, x2, f0, f1⟩ := B1.cells
          have CC := Lib.hid (fun w7 => compact_c (w := w7) (base := w.heap.size) (S := fun j => w.heap.size < j) (xs := []) (Own.nil _ _ _ _ _) rfl)
          go_wp2_with fail
          refine (sortNil_c _ _).mono ?_
          rintro e w6 ⟨rfl, rfl⟩
          go_wp2_with fail
          refine (CC.out _).mono ?_
          rintro e w7 ⟨rfl, o7, g7⟩
          have b7 : Bel w6 w7 := (Bel.refl _).grown g7 (fun j hj => by cases hj)
          have B7 := B1.to b7
          obtain ⟨y1, y2, k0, k1⟩ := B7.cells
          have hr7 := hr3.to b7
          have hb7 := hb3.trans b7
          clear o7 g7 b7 x1 x2 f0 f1 B1 hr3 hb3
          obtain ⟨a0, a1, a2, a3⟩ := (B7.set1 (.slice none 0 0)).cells
          obtain ⟨c0', c1', c2', c3'⟩ := ((B7.set1 (.slice none 0 0)).set0 (.slice A2 nb.length c2)).cells
          obtain ⟨d0, d1, d2, d3⟩ := (((B7.set1 (.slice none 0 0)).set0 (.slice A2 nb.length c2)).set1 (.slice none 0 0)).cells
          have HR7 := Lib.hid hr7
          clear hr7
          go_wp2_with fail
          (try simp only [Exit.inBlock, Exit.then])
          refine bodyPost_ret (v := .tuple #[.agg #[.slice A2 nb.length c2, .slice none 0 0], .bool true]) ?_ rfl ?_
          · rw [results_cell_tmp rfl]
            go_simp
            rfl
          · rw [He.out]
            exact ⟨A2, c2, none, 0, rfl, (((HR7.out.upd (Upd.one _ _ _ _) (by omega)).upd (Upd.one _ _ _ _) (by omega)).upd (Upd.one _ _ _ _) (by omega)).mono (fun j hj => by have := hj.1; show w.heap.size ≤ j; omega), Rd.nil _ _ _ _ _ (by simp [maxLen]), ((hb7.set (Nat.le_refl _) _).set (Nat.le_refl _) _).set (Nat.le_refl _) _⟩
        · obtain ⟨AP, cP, rfl⟩ := hoP.form
          obtain ⟨g, rfl, hg1, hg2⟩ := hoP.addr hq0
          have hgL := HVP.out g rfl
          have hqr : ∀ p ∈ q, rightB p = true := fun p hp => (nzB_ok ps p (by rw [← hq]; exact hp)).2
          have CS := Lib.hid (sort_c hoP rfl hqr (by omega))
          have HNO := Lib.hid hno
          have HQ2 := Lib.hid hq
          obtain ⟨x1, x2, f0, f1⟩ := B1.cells
          have hGW := B1.lt
          clear hq hno hoP hqr
          go_wp2_with fail
          refine CS.out.mono ?_
          rintro e w6 ⟨rfl, ys, hperm, hsort, o6, g6⟩
          have B6 : Box w6 26 w.heap.size (.slice A2 nb.length c2) (.slice (some ⟨g, 0, none⟩) q.length cP) := (g6.block _ hGW (fun e => by injection e with e; omega)).trans B1
          have r6 := hr3.step' (w' := w6) (fun j hj => g6.block j (by omega) (fun e => by injection e with e; omega))
          have b6 := hb3.grown g6 (fun j hj => by have e : g = j := Option.some.inj hj; omega)
          have hyl : q.length = ys.length := hperm.length_eq.symm
          have CC := Lib.hid (compact_c o6 hyl)
          have He := Lib.hid (show ofLin base ps = ((nb, cmpct ys), true) by rw [ofLin_yes Hbad.out (ofF_sorted HNO.out (hperm.trans (List.Perm.of_eq HQ2.out)) (by first | exact hsort | exact hsort.imp (fun h => Int.not_lt.2 h))), HNB.out])
          have hs6 : L ≤ w6.heap.size := by have := g6.size; omega
          obtain ⟨y1, y2, k0, k1⟩ := B6.cells
          have hG6 := B6.lt
          clear CS hperm hsort o6 g6 hyl x1 x2 f0 f1 B1 hr3 hb3 hGW
          go_wp2_with fail
          refine CC.out.mono ?_
          rintro e w7 ⟨rfl, o7, g7⟩
          have B7 : Box w7 26 w.heap.size (.slice A2 nb.length c2) (.slice (some ⟨g, 0, none⟩) q.length cP) := (g7.block _ hG6 (fun e => by have e2 : w.heap.size = g := Option.some.inj e; omega)).trans B6
          have r7 := r6.step' (w' := w7) (fun j hj => g7.block j (by omega) (fun e => by have e2 : j = g := Option.some.inj e; omega))
          have b7 := b6.grown g7 (fun j hj => by have e : g = j := Option.some.inj hj; omega)
          obtain ⟨A9, c9, he9, R9⟩ := o7.rd
          injection he9 with e91 _ e93
          subst e91 e93
          have R9' : Rd wbT w7 (fun j => w.heap.size < j) (some ⟨g, 0, none⟩) cP (cmpct ys) := R9.mono (fun j hj => by
            rcases hj with hj | hj
            · exact hj
            · have e2 : j = g := Option.some.inj hj
              omega)
          have HR9 := Lib.hid R9'
          have HR7 := Lib.hid r7
          obtain ⟨z1, z2, l0, l1⟩ := B7.cells
          generalize hnq : (cmpct ys).length = nq at *
          have HNQ := Lib.hid hnq
          clear hnq
          obtain ⟨a0, a1, a2, a3⟩ := (B7.set1 (.slice (some ⟨g, 0, none⟩) nq cP)).cells
          obtain ⟨c0', c1', c2', c3'⟩ := ((B7.set1 (.slice (some ⟨g, 0, none⟩) nq cP)).set0 (.slice A2 nb.length c2)).cells
          obtain ⟨d0, d1, d2, d3⟩ := (((B7.set1 (.slice (some ⟨g, 0, none⟩) nq cP)).set0 (.slice A2 nb.length c2)).set1 (.slice (some ⟨g, 0, none⟩) nq cP)).cells
          clear CC R9 R9' r7 r6 o7 g7 y1 y2 k0 k1 B6
          go_wp2_with fail
          (try simp only [Exit.inBlock, Exit.then])
          refine bodyPost_ret (v := .tuple #[.agg #[.slice A2 nb.length c2, .slice (some ⟨g, 0, none⟩) nq cP], .bool true]) ?_ rfl ?_
          · rw [results_cell_tmp rfl]
            go_simp
          · rw [He.out]
            exact ⟨A2, c2, some ⟨g, 0, none⟩, cP, by rw [← HNQ.out], (((HR7.out.upd (Upd.one _ _ _ _) (by omega)).upd (Upd.one _ _ _ _) (by omega)).upd (Upd.one _ _ _ _) (by omega)).mono (fun j hj => by have := hj.1; show w.heap.size ≤ j; omega),
              (((HR9.out.upd (Upd.one _ _ _ _) (by omega)).upd (Upd.one _ _ _ _) (by omega)).upd (Upd.one _ _ _ _) (by omega)).mono (fun j hj => by show w.heap.size ≤ j; omega), ((b7.set (Nat.le_refl _) _).set (Nat.le_refl _) _).set (Nat.le_refl _) _⟩
theorem of_c (S S' : Nat → Prop) (A B : Option Addr) (ca cb : Nat) (base : List Int) (ps : List (List Int)) (w : World) (h0 : Rd intT w S A ca base) (h1 : Rd bagT w S' B cb ps) (n m : Nat) (hn : n = base.length) (hm : m = ps.length)
    (hl : base.length ≤ 1000000) (hl2 : ps.length ≤ 1000000) (hl3 : ∀ p ∈ ps, p.length ≤ 1000000) :
    Calls Try.prog 15 #[.slice A n ca, .slice B m cb] w fun e w' => ∃ A0 c0 A1 c1, e = .returned (.tuple #[.agg #[.slice A0 (ofLin base ps).1.1.length c0, .slice A1 (ofLin base ps).1.2.length c1], .bool (ofLin base ps).2]) ∧ Rd intT w' (Ge w.heap.size) A0 c0 (ofLin base ps).1.1 ∧ Rd bagT w' (Ge w.heap.size) A1 c1 (ofLin base ps).1.2 ∧ Bel w w' :=
  (ofW_c S S' A B ca cb base ps w h0 h1 n m hn hm hl hl2 hl3).mono fun _ _ ⟨A0, c0, A1, c1, e, r0, r1, hb⟩ => ⟨A0, c0, A1, c1, e, r0.rd, r1.bags, hb⟩
end Go.Proofs.Ytghdleofbkalbaa
