/- ResidCovers: if tags cover a set, each of its words has one of them, or is empty, and free; if not, what is told is one of its words that is none such. -/
import Derived.Test.YtbfbhacdllhddaaCovG
import Derived.Test.YtbfbhacdllhddaaInclH
import Derived.Test.YtbfbhacdllhddaaMB
set_option linter.unusedVariables false
set_option linter.unusedSimpArgs false
set_option linter.all false
namespace Go.Cb
open Go.RowKit
theorem bel_cut {w W : World} {n : Nat} (h : Bel w W) (h1 : w.heap.size ≤ n) (h2 : n ≤ W.heap.size) : Bel w (cutW W n) :=
  ⟨⟨h.out.os, h.out.tape, h.out.output, by rw [cutW_size h2]; exact h1, fun k hk => ((cutW_bel h2).block (by rw [cutW_size h2]; omega)).symm.trans (h.block hk)⟩⟩
theorem rd_cut {α : Type} {d : Ty α} {W : World} {S : Nat → Prop} {A : Option Addr} {c : Nat} {xs : List α} {n : Nat} (h : Rd d W S A c xs) (h2 : n ≤ W.heap.size) (hS : ∀ k, S k → k < n) : Rd d (cutW W n) S A c xs :=
  h.step' (fun k hk => ((cutW_bel h2).block (by rw [cutW_size h2]; exact hS k hk)).symm)
theorem cell_cut {W : World} {g i n : Nat} {v : Value} (h : W.cell? ⟨g, i, none⟩ = some v) (h2 : n ≤ W.heap.size) (hg : g < n) : (cutW W n).cell? ⟨g, i, none⟩ = some v :=
  cell_keep h ((cutW_bel h2).block (by rw [cutW_size h2]; exact hg)).symm
end Go.Cb
namespace Go.Proofs.Ytbfbhacdllhddaa
open Go.RowKit Go.Cb Go.Sort
set_option maxHeartbeats 64000000 in
set_option maxRecDepth 100000 in
theorem ResidCovers_walk (w : World) (L : Option Addr) (cl : Nat) (l : List Int) (hl : Rd intT w All L cl l) (il : ∀ x ∈ l, inI64 x) (_ : l.length * 8 ≤ 140737488351232) (free : Bool)
    (G : Option Addr) (cg : Nat) (tags0 : List Int) (hgt : Rd intT w All G cg tags0) (_ : ∀ x ∈ tags0, inI64 x) (_ : tags0.length * 8 ≤ 140737488351232)
    (T : Option Addr) (ct9 : Nat) (times : List Int) (htm : Rd intT w All T ct9 times) (_ : ∀ x ∈ times, inI64 x) (_ : times.length * 8 ≤ 140737488351232) :
    Calls Try.prog 7 #[.slice L l.length cl, .bool free, .slice G tags0.length cg, .slice T times.length ct9] w fun e w' => e = .returned (.bool true) ∧ Bel w w' := by
  obtain ⟨l7, hl7⟩ : ∃ x, l.take 7 = x := ⟨_, rfl⟩
  have il7 : ∀ x ∈ l7, inI64 x := by rw [← hl7]; exact fun x hx => il x (List.mem_of_mem_take hx)
  have HL7 := Lib.hid hl7
  have IL7 := Lib.hid il7
  have oP := playSem_P l7
  obtain ⟨s, hs⟩ : ∃ s, playSem l7 = s := ⟨_, rfl⟩
  have Hs := Lib.hid hs
  rw [hs] at oP
  have hs6 := oP.six
  have HSP := Lib.hid oP
  obtain ⟨ts, hts⟩ : ∃ ts, tags0.take 4 = ts := ⟨_, rfl⟩
  have HTE := Lib.hid hts
  have hts4 : ts.length ≤ 4 := by rw [← hts, List.length_take]; omega
  have lmt := htm.lenMax
  obtain ⟨Wb, hWb⟩ : ∃ W, (w.alloc (.cells #[.bool free] 4)).alloc (.cells #[.slice G tags0.length cg] 22) = W := ⟨_, rfl⟩
  have hsz : (w.alloc (.cells #[.bool free] 4)).heap.size = w.heap.size + 1 := by simp
  have hB5 : Wb.heap[w.heap.size]? = some (.cells #[.bool free] 4) := by
    rw [← hWb]
    exact (((Bel.refl (w.alloc (.cells #[.bool free] 4))).alloc _).block (by omega)).trans (heap_alloc_new w _)
  have hB6 : Wb.heap[w.heap.size + 1]? = some (.cells #[.slice G tags0.length cg] 22) := by
    rw [← hWb, ← hsz]
    exact heap_alloc_new _ _
  have hb0 : Bel w Wb := by rw [← hWb]; exact ((Bel.refl _).alloc _).alloc _
  have hsb : Wb.heap.size = w.heap.size + 2 := by rw [← hWb]; simp
  have HWB := Lib.hid hWb
  have HB5 := Lib.hid hB5
  have HB6 := Lib.hid hB6
  have HB0 := Lib.hid hb0
  have HSB := Lib.hid hsb
  have HL := Lib.hid (hl.to hb0)
  have HG := Lib.hid (hgt.to hb0)
  have HTM := Lib.hid htm
  have hcf : ∀ (args : Array Value) (w : World), (callFunc 28 args).run Try.prog w = .ok (.enter 28 args) w := fun _ _ => by kernel_rfl
  have HC7 := Lib.hid (cutIntS_c _ L cl l 7 Wb HL.out _ rfl (Nat.le_trans (Nat.mul_le_mul_right _ (List.length_take_le 7 l)) (by decide)) 7 rfl)
  clear hs hts hl7 il7 oP hB5 hB6 hb0 hsb hsz hWb hl hgt htm
  go_enter Try.func7, Try.ntmps7
  rw [← HWB.out] at HC7
  go_wp2_with fail
  refine HC7.out.mono ?_
  rw [HL7.out]
  rintro e w1 ⟨v, rfl, ho1, hb1⟩
  rw [HWB.out] at hb1
  have HB1 := Lib.hid hb1
  obtain ⟨A7, c7, rfl, r7⟩ := ho1.rdAll
  have HR7 := Lib.hid r7
  clear HC7 ho1 r7 hb1
  go_wp2_with fail
  refine (playSemi_c _ A7 c7 l7 w1 HR7.out IL7.out _ rfl).mono ?_
  rw [Hs.out]
  rintro e w2 ⟨v, rfl, r, hb2⟩
  obtain ⟨As, cs, rfl, hr⟩ := r.rd
  have HR := Lib.hid hr.bound
  have HB2 := Lib.hid (HB1.out.trans hb2)
  have HS1 := Lib.hid HB1.out.size
  have HS2 := Lib.hid hb2.size
  have hc6 : w2.cell? ⟨w.heap.size + 1, 0, none⟩ = some (.slice G tags0.length cg) := cellAt ((HB2.out.block (by rw [HSB.out]; omega)).trans HB6.out) 0
  have HC4 := Lib.hid (cutIntS_c _ G cg tags0 4 w2 (HG.out.to HB2.out) _ rfl (Nat.le_trans (Nat.mul_le_mul_right _ (List.length_take_le 4 tags0)) (by decide)) 4 rfl)
  rw [HTE.out] at HC4
  clear hr r hb2 HR7 HL
  go_wp2_with fail
  refine HC4.out.mono ?_
  rintro e w3 ⟨v, rfl, ho3, hb3⟩
  obtain ⟨At, ct, rfl⟩ := ho3.form
  have HO3 := Lib.hid ho3
  have HB3 := Lib.hid hb3
  have hB63 := (hb3.block (by have := HS1.out; have := HS2.out; have := HSB.out; omega)).trans ((HB2.out.block (by rw [HSB.out]; omega)).trans HB6.out)
  have hc63 : w3.cell? ⟨w.heap.size + 1, 0, none⟩ = some (.slice G tags0.length cg) := cellAt hB63 0
  have hf63 : w3.frozen? ⟨w.heap.size + 1, 0, none⟩ = false := frozenAt hB63 0
  obtain ⟨W4, hW4⟩ : ∃ W, w3.setCell ⟨w.heap.size + 1, 0, none⟩ (.slice At ts.length ct) = W := ⟨_, rfl⟩
  have hc64 : W4.cell? ⟨w.heap.size + 1, 0, none⟩ = some (.slice At ts.length ct) := by
    rw [← hW4]
    have : (w3.setCell ⟨w.heap.size + 1, 0, none⟩ (.slice At ts.length ct)).heap[w.heap.size + 1]? = some (.cells #[.slice At ts.length ct] 22) := by
      simp [World.setCell, Array.getElem?_modify, hB63]
    exact cellAt this 0
  have hs4 : W4.heap.size = w3.heap.size := by rw [← hW4, World.size_setCell]
  have hk4 : ∀ k, k ≠ w.heap.size + 1 → W4.heap[k]? = w3.heap[k]? := fun k hk => by rw [← hW4]; exact Below.heap_setCell w3 _ _ k hk
  have hbw4 : Bel w W4 := by rw [← hW4]; exact ((HB0.out.trans HB2.out).trans hb3).set (by show w.heap.size ≤ w.heap.size + 1; omega) _
  have hb24 := hb3.size
  have hs1 := HS1.out
  have hs2 := HS2.out
  have hsb := HSB.out
  have hn4 : w2.heap.size ≤ W4.heap.size := by omega
  have HSZ := Lib.hid hn4
  obtain ⟨Wg, hWg⟩ : ∃ W, cutW W4 w2.heap.size = W := ⟨_, rfl⟩
  have HGS := Lib.hid (show Wg.heap.size = w2.heap.size by rw [← hWg, cutW_size hn4])
  have HWG := Lib.hid (show Bel w Wg by rw [← hWg]; exact bel_cut hbw4 (by omega) hn4)
  have HG4 := Lib.hid (show Bel Wg W4 by rw [← hWg]; exact cutW_bel hn4)
  have HSX := Lib.hid (show ∀ W, Bel Wg W → Rd linT W _ As cs s from by
    rw [← hWg]
    exact fun W h => (rd_cut ((HR.out.to hb3).step' (fun k hk => hk4 k (by have := hk.1; unfold Ge at this; omega))) hn4 (fun k hk => hk.2)).to h)
  have HC5 := Lib.hid (show ∀ W, Bel Wg W → W.cell? ⟨w.heap.size, 0, none⟩ = some (.bool free) from by
    rw [← hWg]
    have h5 : W4.cell? ⟨w.heap.size, 0, none⟩ = some (.bool free) := cellAt ((hk4 _ (by omega)).trans ((hb3.block (by omega)).trans ((HB2.out.block (by omega)).trans HB5.out))) 0
    exact fun W h => cell_keep (cell_cut h5 hn4 (by omega)) (h.block (by rw [cutW_size hn4]; show w.heap.size < _; omega)))
  have HC6 := Lib.hid (show ∀ W, Bel Wg W → W.cell? ⟨w.heap.size + 1, 0, none⟩ = some (.slice At ts.length ct) from by
    rw [← hWg]
    exact fun W h => cell_keep (cell_cut hc64 hn4 (by omega)) (h.block (by rw [cutW_size hn4]; show w.heap.size + 1 < _; omega)))
  have HO4 := Lib.hid (show Own intT 3 W4 Wg.heap.size (Ge Wg.heap.size) (.slice At ts.length ct) ts from by
    rw [HGS.out]
    exact HO3.out.step (fun k hk => hk4 k (by have := HO3.out.ge hk; omega)) (fun k hk _ _ => hk4 k (by unfold Ge at hk; omega)))
  have HT4 := Lib.hid (fun W (h : Bel Wg W) => HTM.out.to (HWG.out.trans h))
  have HW4 := Lib.hid hW4
  clear HC4 hb3 ho3 HO3 hk4 hs4 hbw4 hn4 hWg HSZ HR HB1 HB2 HB3 HS1 HS2 HB5 HB6 HB0 HG HTM HSB hB63 hb24 hs1 hs2 hsb hc6
  go_wp2
  go_loopw [28] (fun v28 wr => ∃ (q : Nat) (W : World), W = wr ∧ q ≤ ts.length ∧ v28 = .int .i64 q ∧ Own intT 3 W Wg.heap.size (Ge Wg.heap.size) (.slice At ts.length ct) ((ts.take q).map wiT ++ ts.drop q) ∧ Bel Wg W) (fun v28 _ => ts.length - (intOf v28).toNat)
  case atStart => exact ⟨0, _, rfl, Nat.zero_le _, rfl, HO4.out, HG4.out⟩
  case round =>
    obtain ⟨q, W, rfl, hq, rfl, hO, hbq⟩ := hrel
    have hll : ((ts.take q).map wiT ++ ts.drop q).length = ts.length := by simp; omega
    have hc6 := HC6.out W hbq
    by_cases hlt : q < ts.length
    · obtain ⟨gt, rfl, hg0, _⟩ := hO.addr (by omega)
      obtain ⟨hc1, hf1⟩ := hO.cell (i := q) (by omega)
      obtain ⟨z, hz⟩ : ∃ z, ts[q] = z := ⟨_, rfl⟩
      have hgx : ((ts.take q).map wiT ++ ts.drop q)[q]'(by omega) = z := wiT_at hlt hz (by omega)
      rw [hgx] at hc1
      have HST := Lib.hid (show ((ts.take q).map wiT ++ ts.drop q).set q (withinI z 4) = (ts.take (q + 1)).map wiT ++ ts.drop (q + 1) from wiT_set hlt hz)
      have HO := Lib.hid hO
      have HBQ := Lib.hid hbq
      have hgl := World.block_lt_of_cell? _ _ hc1
      have HCK := Lib.hid (fun W' (h : Bel W W') => cell_keep hc1 (h.block hgl))
      have HCF := Lib.hid (show ∀ W', Bel W W' → W'.frozen? ⟨gt, q, none⟩ = false from fun W' h => ((HO.out.to h).cell (i := q) (by omega)).2)
      clear hz hgx hll hO hbq hc1 hf1 hgl
      go_wp2_with fail
      refine wp_region_grow2 7 (by kernel_rfl) (by kernel_rfl) (by kernel_rfl) [SPred.val (.slice (some ⟨gt, 0, none⟩) ts.length ct), SPred.val (.int .i64 q), SPred.val (.slice (some ⟨gt, 0, none⟩) ts.length ct), SPred.val (.int .i64 q), SPred.val (.pointer (some ⟨gt, q, none⟩)), SPred.val (.int .i64 z), SPred.val (.int .i64 (withinI z 4))] ?_ ?_
      · refine ⟨fun u ρ w8 hb8 hd => ?_, fun u ρ w8 hb8 hd => ?_, fun u ρ w8 hb8 hd => ?_, fun u ρ w8 hb8 hd => ?_, fun u ρ w8 hb8 hd => ?_, fun u ρ w8 hb8 hd => ?_, fun u ρ w8 hb8 hd => ?_, trivial⟩
        · have y6 := HC6.out w8 (HBQ.out.trans hb8)
          simp only [growFr, List.getElem?_cons_succ, List.getElem?_cons_zero, Option.bind_some, Act.put, List.setIfInBounds_toArray, List.set_cons_succ, List.set_cons_zero]
          go_wp2_with fail
          exact ⟨rfl, _, rfl, Bel.refl _, rfl⟩
        · simp only [growFr, List.getElem?_cons_succ, List.getElem?_cons_zero, Option.bind_some, Act.put, List.setIfInBounds_toArray, List.set_cons_succ, List.set_cons_zero]
          go_wp2_with fail
          exact ⟨rfl, _, rfl, Bel.refl _, rfl⟩
        · have y6 := HC6.out w8 (HBQ.out.trans hb8)
          simp only [growFr, List.getElem?_cons_succ, List.getElem?_cons_zero, Option.bind_some, Act.put, List.setIfInBounds_toArray, List.set_cons_succ, List.set_cons_zero]
          go_wp2_with fail
          exact ⟨rfl, _, rfl, Bel.refl _, rfl⟩
        · simp only [growFr, List.getElem?_cons_succ, List.getElem?_cons_zero, Option.bind_some, Act.put, List.setIfInBounds_toArray, List.set_cons_succ, List.set_cons_zero]
          go_wp2_with fail
          exact ⟨rfl, _, rfl, Bel.refl _, rfl⟩
        · have h2 : u 2 = _ := hd 2 (by kernel_rfl)
          have h3 : u 3 = _ := hd 3 (by kernel_rfl)
          simp only [growFr, List.getElem?_cons_succ, List.getElem?_cons_zero, Option.bind_some, Act.put, List.setIfInBounds_toArray, List.set_cons_succ, List.set_cons_zero, h2, h3]
          go_wp2_with fail
          exact ⟨rfl, _, rfl, Bel.refl _, rfl⟩
        · have h4 : u 4 = _ := hd 4 (by kernel_rfl)
          have y6 := HCK.out w8 hb8
          simp only [growFr, List.getElem?_cons_succ, List.getElem?_cons_zero, Option.bind_some, Act.put, List.setIfInBounds_toArray, List.set_cons_succ, List.set_cons_zero, h4]
          go_wp2_with fail
          exact ⟨rfl, _, rfl, Bel.refl _, rfl⟩
        · have h5 : u 5 = _ := hd 5 (by kernel_rfl)
          simp only [growFr, List.getElem?_cons_succ, List.getElem?_cons_zero, Option.bind_some, Act.put, List.setIfInBounds_toArray, List.set_cons_succ, List.set_cons_zero, h5]
          go_wp2_with fail
          refine (within_c z 4 _ (by decide)).mono ?_
          rintro e wB ⟨rfl, rfl⟩
          go_wp2_with fail
          exact ⟨rfl, _, rfl, Bel.refl _, rfl⟩
      · intro u ρ w8 hb8 hall hdj
        have h0 : u 0 = _ := (hall 0 (by omega)).1
        have h1 : u 1 = _ := (hall 1 (by omega)).1
        have h2 : u 2 = _ := (hall 2 (by omega)).1
        have h3 : u 3 = _ := (hall 3 (by omega)).1
        have h4 : u 4 = _ := (hall 4 (by omega)).1
        have h5 : u 5 = _ := (hall 5 (by omega)).1
        have h6 : u 6 = _ := (hall 6 (by omega)).1
        simp only [List.drop_succ_cons, List.drop_zero, growFr, List.getElem?_cons_succ, List.getElem?_cons_zero, Option.bind_some, Act.put, List.setIfInBounds_toArray, List.set_cons_succ, List.set_cons_zero, h0, h1, h2, h3, h4, h5, h6]
        have HO8 := Lib.hid (HO.out.to hb8)
        have HBQ8 := Lib.hid (HBQ.out.trans hb8)
        have y1 := HCK.out w8 hb8
        have y2 := HCF.out w8 hb8
        clear hall hdj h0 h1 h2 h3 h4 h5 h6 hb8
        go_wp2_with fail
        go_roundw
        case rel => exact ⟨q + 1, _, rfl, by omega, by go_num, by rw [← HST.out]; exact HO8.out.set q _, HBQ8.out.set hg0 _⟩
        case measure => simp [intOf]; omega
    · obtain rfl : q = ts.length := by omega
      rw [List.take_length, List.drop_length, List.append_nil] at hO
      obtain ⟨tl, htl⟩ : ∃ tl, ts.map wiT = tl := ⟨_, rfl⟩
      have htll : tl.length = ts.length := by rw [← htl, List.length_map]
      have HT0 := Lib.hid (show ∀ t ∈ tl, 0 ≤ t by rw [← htl]; exact wiT_pos)
      rw [htl] at hO
      obtain ⟨AZ, cZ, eZ, rZ⟩ := hO.rdAll
      injection eZ with z1 z2 z3
      clear z2
      subst z1 z3
      have HTR := Lib.hid rZ
      obtain ⟨R, wc, hcv⟩ : ∃ a b, coverS s free tl = (a, b) := ⟨_, _, rfl⟩
      have hc5 := HC5.out W hbq
      have Q1 := residCover_c _ _ As At cs ct s free tl W (HSX.out W hbq) rZ _ ts.length rfl htll.symm
      rw [hcv] at Q1
      dsimp only at Q1
      have HQ1 := Lib.hid Q1
      have HGC := Lib.hid (fun W' (hb : Bel W W') A c v (hv : Rd intT W' All A c v) => good_c (w.heap.size + 1) w.heap.size _ _ A At c ct v tl free W' hv (by rw [htll]; exact HC6.out W' (hbq.trans hb)) (HC5.out W' (hbq.trans hb)) (HTR.out.to hb) HT0.out _ rfl)
      have HBQ := Lib.hid hbq
      clear Q1 hO rZ htl htll hlt hll hbq hq
      cases R with
      | false =>
        obtain ⟨d1, d2, d3, d4⟩ := cover_told HSP.out hcv
        have D1 := Lib.hid d1
        have D2 := Lib.hid d2
        have D3 := Lib.hid d3
        have D4 := Lib.hid d4
        clear hcv d1 d2 d3 d4
        go_wp2_with fail
        refine HQ1.out.mono ?_
        rintro e wd ⟨v, rfl, ⟨Aw, cw, rfl, hrw⟩, hbd⟩
        have Q2 := inclHasN_c _ _ As Aw cs cw s wc wd (HSX.out wd (HBQ.out.trans hbd)) hrw _ _ rfl rfl HSP.out D1.out D2.out
        rw [D3.out] at Q2
        have HQ2 := Lib.hid Q2
        have HRW := Lib.hid hrw
        have HBD := Lib.hid hbd
        clear Q2 HQ1 hrw hbd hc5 hc6
        go_wp2_with fail
        refine HQ2.out.mono ?_
        rintro e we ⟨rfl, hbe⟩
        have Q3 := HGC.out we (HBD.out.trans hbe) Aw cw wc (HRW.out.to hbe)
        rw [D4.out] at Q3
        have HQ3 := Lib.hid Q3
        have HBE := Lib.hid (HWG.out.trans (HBQ.out.trans (HBD.out.trans hbe)))
        clear Q3 HQ2 hbe
        go_wp2_with fail
        refine HQ3.out.mono ?_
        rintro e wf ⟨rfl, rfl⟩
        go_wp2_with fail
        refine (wakes11 _).mono ?_
        rintro e wf ⟨rfl, hbf⟩
        go_wp2
        go_ret
        exact ⟨rfl, HBE.out.trans hbf⟩
      | true =>
        have HCI := Lib.hid (cover_inv HSP.out.right hcv)
        clear hcv
        go_wp2_with fail
        refine HQ1.out.mono ?_
        rintro e wd ⟨v, rfl, ⟨Aw, cw, rfl, hrw⟩, hbd⟩
        have HBD := Lib.hid hbd
        clear HQ1 hrw hbd hc5 hc6
        go_wp2
        go_loopw [72] (fun v72 wr => ∃ (k : Nat) (W : World), W = wr ∧ k ≤ s.length ∧ v72 = .int .i64 k ∧ Bel wd W) (fun v72 _ => s.length - (intOf v72).toNat)
        case atStart => exact ⟨0, _, rfl, Nat.zero_le _, rfl, Bel.refl _⟩
        case round =>
          obtain ⟨k, Wk, rfl, hk, rfl, hbk⟩ := hrel
          have HBK := Lib.hid (HBD.out.trans hbk)
          have HBK2 := Lib.hid hbk
          clear hbk
          by_cases hlt : k < s.length
          · obtain ⟨ad, A0, c0, A1, c1, rfl, x0, x1, r0, r1⟩ := (HSX.out Wk (HBQ.out.trans HBK.out)).lrow hlt
            obtain ⟨⟨base, ps⟩, hse⟩ : ∃ y, s[k] = y := ⟨_, rfl⟩
            have hmem : (base, ps) ∈ s := by rw [← hse]; exact List.getElem_mem hlt
            have hp8 : ps.length ≤ 8 := HSP.out.per _ hmem
            have hpl : ∀ p ∈ ps, rightB p = true ∧ p.length ≤ 4 ∧ ∀ i, p.getD i 0 ≤ 20 := HSP.out.pl _ hmem
            obtain ⟨hb1, hb2, hb3⟩ : rightB base = true ∧ base.length ≤ 4 ∧ ∀ i, base.getD i 0 ≤ 120 := HSP.out.base _ hmem
            have HPL := Lib.hid hpl
            have HBR := Lib.hid hb1
            have HBL := Lib.hid hb2
            have HBT := Lib.hid hb3
            have HI0 := Lib.hid (HCI.out _ hmem)
            rw [hse] at x0 x1 r0 r1
            dsimp only at x0 x1 r0 r1
            have hal : Bel Wk (Wk.alloc (.cells #[.slice A0 base.length c0, .slice A1 ps.length c1] 43)) := (Bel.refl _).alloc _
            have X := Box.new Wk 43 (.slice A0 base.length c0) (.slice A1 ps.length c1)
            have HX := Lib.hid X
            have R0 := Lib.hid ((r0.to hal).all)
            have R1 := Lib.hid ((r1.to hal).all)
            have HBA := Lib.hid (HBK.out.trans hal)
            have HBA2 := Lib.hid (HBK2.out.trans hal)
            obtain ⟨z0, z1, _, _⟩ := HX.out.cells
            clear hse hmem hpl hb1 hb2 hb3 r0 r1 hal X
            have Q3 := HGC.out _ HBA.out A0 c0 base R0.out
            rw [HI0.out.good] at Q3
            have HQ3 := Lib.hid Q3
            clear Q3
            go_wp2_with fail
            refine HQ3.out.mono ?_
            rintro e wf ⟨rfl, rfl⟩
            clear HQ3 x0 x1
            go_wp2
            clear z0 z1
            generalize (Wk.alloc (.cells #[.slice A0 base.length c0, .slice A1 ps.length c1] 43)) = W1 at *
            go_loopw [18, 85] (fun v18 v85 wr => ∃ (i : Nat) (W : World) (Aw : Option Addr) (cw : Nat) (wl : List Int), W = wr ∧ i ≤ ps.length ∧ v85 = .int .i64 i ∧ v18 = .slice Aw wl.length cw ∧ Rd intT W All Aw cw wl ∧ Hid (rightB wl = true) ∧ Hid (wl.length ≤ 4) ∧ Hid (∀ t, wl.getD t 0 ≤ 120 + 20 * (i : Int)) ∧ Hid (InvG free tl ps wl) ∧ Bel W1 W) (fun _ v85 _ => ps.length - (intOf v85).toNat)
            case atStart => exact ⟨0, _, A0, c0, base, rfl, Nat.zero_le _, rfl, rfl, R0.out, HBR.out, HBL.out, (fun t => by have := HBT.out t; omega : ∀ t, base.getD t 0 ≤ 120 + 20 * ((0 : Nat) : Int)), HI0.out, Bel.refl _⟩
            case round =>
              obtain ⟨i, Wi, Av, cv, wl, rfl, hi, rfl, rfl, hwl, HRW, HLW, HFW, HIW, hbi⟩ := hrel
              by_cases hil : i < ps.length
              · obtain ⟨ad9, Ap, cp, rfl, y0, hpr⟩ := (R1.out.to hbi).row hil
                obtain ⟨p, hpe⟩ : ∃ p, ps[i] = p := ⟨_, rfl⟩
                have hpm : p ∈ ps := by rw [← hpe]; exact List.getElem_mem hil
                rw [hpe] at y0 hpr
                have hpp := HPL.out p hpm
                have ha : (addB wl p).2 = true := addB_small HRW.out hpp.1 (fun t => by
                  have h4 := HFW.out t
                  have h6 := hpp.2.2 t
                  have h7 := (right_getD hpp.1 t).1
                  unfold far
                  omega)
                obtain ⟨y, hy⟩ : ∃ y, (addB wl p).1 = y := ⟨_, rfl⟩
                have A1' := Lib.hid (show rightB y = true by rw [← hy]; exact addB_right ha)
                have A2' := Lib.hid (show y.length ≤ 4 by rw [← hy, addB_len ha]; have := hpp.2.1; have := HLW.out; omega)
                have A3' := Lib.hid (show ∀ t, y.getD t 0 ≤ 120 + 20 * ((i + 1 : Nat) : Int) from fun t => by rw [← hy, addB_getD ha]; have := HFW.out t; have := hpp.2.2 t; omega)
                have A4' := Lib.hid (show InvG free tl ps y by rw [← hy]; exact HIW.out.add HT0.out hpm HRW.out hpp.1 ha)
                have A5' := Lib.hid (show ∀ t, wl.getD t 0 ≤ 120 + 20 * ((i + 1 : Nat) : Int) from fun t => by have := HFW.out t; omega)
                have Q4 := refAddBag_c _ _ Av Ap cv cp wl p Wi hwl hpr _ _ rfl rfl
                rw [ha, hy] at Q4
                have HQ4 := Lib.hid Q4
                have Q5 := HGC.out Wi (HBA.out.trans hbi) Av cv wl hwl
                rw [HIW.out.good] at Q5
                have HQ5 := Lib.hid Q5
                have HWL := Lib.hid hwl
                have HBI := Lib.hid hbi
                clear hpe hpm hpp ha hy Q4 Q5 hpr hwl
                by_cases hti : i < times.length
                · obtain ⟨adt, rfl, hct⟩ := (HT4.out Wi (HBQ.out.trans (HBA.out.trans hbi))).int hti
                  obtain ⟨x, hx⟩ : ∃ x, times[i] = x := ⟨_, rfl⟩
                  rw [hx] at hct
                  clear hx hbi
                  by_cases hx2 : x.tmod 2 = 0
                  · have e2 : (x.tmod 2 == 0) = true := by rw [hx2]; rfl
                    clear hx2
                    go_wp2_with fail
                    refine HQ4.out.mono ?_
                    rintro e w9 ⟨v9, rfl, ho9, hb9⟩
                    obtain ⟨A9, c9, rfl, hr9⟩ := ho9.rdAll
                    have Q6 := HGC.out w9 (HBA.out.trans (HBI.out.trans hb9)) A9 c9 y hr9
                    rw [A4'.out.good] at Q6
                    have HQ6 := Lib.hid Q6
                    have HR9 := Lib.hid hr9
                    have HBI9 := Lib.hid (HBI.out.trans hb9)
                    clear Q6 hr9 ho9 hb9 hct y0
                    go_wp2_with fail
                    refine HQ6.out.mono ?_
                    rintro e wf ⟨rfl, rfl⟩
                    go_wp2
                    go_roundw
                    case rel => exact ⟨i + 1, _, A9, c9, y, rfl, by omega, by go_num, rfl, HR9.out, A1'.out, A2'.out, A3'.out, A4'.out, HBI9.out⟩
                    case measure => simp [intOf]; omega
                  · have e2 : (x.tmod 2 == 0) = false := beq_eq_false_iff_ne.2 hx2
                    clear hx2
                    go_wp2_with fail
                    refine HQ5.out.mono ?_
                    rintro e wf ⟨rfl, rfl⟩
                    go_wp2
                    go_roundw
                    case rel => exact ⟨i + 1, _, Av, cv, wl, rfl, by omega, by go_num, rfl, HWL.out, HRW.out, HLW.out, A5'.out, HIW.out, HBI.out⟩
                    case measure => simp [intOf]; omega
                · clear hbi
                  go_wp2_with fail
                  refine HQ5.out.mono ?_
                  rintro e wf ⟨rfl, rfl⟩
                  go_wp2
                  go_roundw
                  case rel => exact ⟨i + 1, _, Av, cv, wl, rfl, by omega, by go_num, rfl, HWL.out, HRW.out, HLW.out, A5'.out, HIW.out, HBI.out⟩
                  case measure => simp [intOf]; omega
              · obtain rfl : i = ps.length := by omega
                have HBI := Lib.hid (HBA2.out.trans hbi)
                clear hbi
                go_wp2
                go_roundw
                case rel => exact ⟨k + 1, _, rfl, by omega, by go_num, HBI.out⟩
                case measure => simp [intOf]; omega
          · obtain rfl : k = s.length := by omega
            have HBE := Lib.hid (HWG.out.trans (HBQ.out.trans HBK.out))
            go_wp2_with fail
            refine (wakes11 _).mono ?_
            rintro e wf ⟨rfl, hbf⟩
            go_wp2
            go_ret
            exact ⟨rfl, HBE.out.trans hbf⟩
end Go.Proofs.Ytbfbhacdllhddaa
namespace Go.Proofs.Ytbfbhacdllhddaa.rowResidCovers
open Go.ChangeShapes Go.WideShapes Go.ChangeAt Go.RowKit Go.Cb
open Go.ChangeMaps (open_string shut_string)
theorem own : ownKnob Try.prog.godebug = none := by kernel_rfl
theorem laidOut : laidOutB Try.prog = true := by kernel_rfl
set_option maxRecDepth 100000 in
theorem lifted (os : Os) (started : os.Started) (H : Type) (enc : TypeId × Value → H) :
    ReturnsInHanded {} Try.checked os 7 .any (Rows.residCoversSpec.pre6 enc Try.prog Try.f7 Rows.residCoversRow.domain false) (Rows.residCoversSpec.post enc Try.prog Try.f7 false true false false) := by
  refine returnsInHanded_of_change_sized (C := Try.checked) own started (by kernel_rfl) Try.func7
    (ChangeSpec.witness6 (enc := enc) (C := Try.checked) false ⟨#[], #[.slice none 0 0, .bool false, .slice none 0 0, .slice none 0 0], []⟩ 8 (by kernel_rfl) (by kernel_rfl) (by kernel_rfl) (by kernel_rfl)) ?_
  intro W base args ds gs before hval0 hW hcnd hsz0 _
  have hsz : (DataW.weightsEach Try.prog (Try.f7.params.toList ++ Rows.residCoversSpec.plain.varTypes Try.prog) (ds ++ gs)).all (· ≤ reachBytes) = true := hsz0
  have hval : ∀ (j : Nat) t v, Try.f7.params[j]? = some t → args[j]? = some v → Value.okWide Try.prog W .any base t v := hval0
  have hW' := hW
  obtain ⟨p, q, hA0, hV, rfl, hfz, hnd⟩ := hW
  have hA : DataW.TrodAll enc Try.prog W 0 (fun _ => true) true Try.f7.params.toList args.toList ds p := hA0
  rw [Try.params7] at hA hval hsz
  obtain ⟨v0, vs0, d0, ds0, p0, q0, hargs, rfl, rfl, h0, r0⟩ := trodAll_cons hA
  obtain ⟨v1, vs1, d1, ds1, p1, q1, rfl, rfl, rfl, h1, r1⟩ := trodAll_cons r0
  obtain ⟨v2, vs2, d2, ds2, p2, q2, rfl, rfl, rfl, h2, r2⟩ := trodAll_cons r1
  obtain ⟨v3, vs3, d3, ds3, p3, q3, rfl, rfl, rfl, h3, r3⟩ := trodAll_cons r2
  obtain ⟨rfl, rfl, rfl⟩ := trodAll_nil r3
  obtain rfl : args = #[v0, v1, v2, v3] := by cases args; simp_all
  obtain ⟨rfl, rfl⟩ := trodVars_none hV
  obtain ⟨a0, len0, cap0, rfl⟩ := okWide_slice Try.underlying22 (hval 0 22 v0 rfl rfl)
  have k0 := h0
  have lt0 : ∀ x ∈ p0, x.block < W.heap.size := by obtain ⟨m, hm⟩ := k0; exact DataW.trod_lt m _ _ _ hm
  obtain ⟨l0, rfl, R0, wf0, sz0⟩ := open_rd hsz (j := 0) (t := 22) rfl rfl Try.underlying22 Try.underlying3 (by kernel_rfl) (by kernel_rfl) h0
  obtain ⟨a1, rfl, rfl, rfl⟩ := open_bool Try.underlying4 (hval 1 4 v1 rfl rfl) h1
  obtain ⟨a2, len2, cap2, rfl⟩ := okWide_slice Try.underlying22 (hval 2 22 v2 rfl rfl)
  have k2 := h2
  have lt2 : ∀ x ∈ p2, x.block < W.heap.size := by obtain ⟨m, hm⟩ := k2; exact DataW.trod_lt m _ _ _ hm
  obtain ⟨l2, rfl, R2, wf2, sz2⟩ := open_rd hsz (j := 2) (t := 22) rfl rfl Try.underlying22 Try.underlying3 (by kernel_rfl) (by kernel_rfl) h2
  obtain ⟨a3, len3, cap3, rfl⟩ := okWide_slice Try.underlying22 (hval 3 22 v3 rfl rfl)
  have k3 := h3
  have lt3 : ∀ x ∈ p3, x.block < W.heap.size := by obtain ⟨m, hm⟩ := k3; exact DataW.trod_lt m _ _ _ hm
  obtain ⟨l3, rfl, R3, wf3, sz3⟩ := open_rd hsz (j := 3) (t := 22) rfl rfl Try.underlying22 Try.underlying3 (by kernel_rfl) (by kernel_rfl) h3
  clear hA0 hval0 hsz0 hsz
  refine (ResidCovers_walk W a0 cap0 l0 R0 (fun x hx => inI64_wf (wf0 x hx)) sz0 a1 a2 cap2 l2 R2 (fun x hx => inI64_wf (wf2 x hx)) sz2 a3 cap3 l3 R3 (fun x hx => inI64_wf (wf3 x hx)) sz3).mono fun e W' ⟨he, bel⟩ => ?_
  subst he
  exact ⟨_, rfl, _, _, _, [], _, [], hW', trodAll_mk1 (shut_bool Try.underlying4 _), (trodAll_cons_mk (Below.trod laidOut (by kernel_rfl) (of_decide_eq_true (by kernel_rfl)) k0 bel.out lt0) (trodAll_cons_mk (shut_bool Try.underlying4 _) (trodAll_cons_mk (Below.trod laidOut (by kernel_rfl) (of_decide_eq_true (by kernel_rfl)) k2 bel.out lt2) (trodAll_cons_mk (Below.trod laidOut (by kernel_rfl) (of_decide_eq_true (by kernel_rfl)) k3 bel.out lt3) trodAll_mk0)))), rfl, bel.out.frame _, fun h => by cases h⟩
theorem over : Rows.residCoversRow.holds Try.pinned (OpenSpec.ofChange Rows.residCoversSpec) :=
  OpenClaim.holds_of_wide 7 Try.f7 rfl rfl rfl rfl rfl rfl rfl ⟨rfl, rfl, rfl, rfl, rfl⟩ rfl rfl rfl rfl rfl (by kernel_rfl) Try.func7 (by kernel_rfl)
    (of_decide_eq_true (by kernel_rfl)) (by unfold Func.isWrapper; first | (rw [if_pos (by decide +kernel)]; kernel_rfl) | (rw [if_neg (by decide +kernel)]; exact ⟨rfl, rfl⟩))
    (fun os started H enc _ => lifted os started H enc)
end Go.Proofs.Ytbfbhacdllhddaa.rowResidCovers
namespace Go.Proofs.Ytbfbhacdllhddaa
theorem ResidCovers_holds : Rows.ResidCoversSaid := rowResidCovers.over
#print axioms ResidCovers_holds
end Go.Proofs.Ytbfbhacdllhddaa
