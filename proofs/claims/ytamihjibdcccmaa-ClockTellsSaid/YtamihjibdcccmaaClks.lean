/- Walks: are these the document's clocks. -/
import Derived.Test.YtamihjibdcccmaaRefB
import Derived.Test.YtamihjibdcccmaaTab7
import Derived.Test.YtamihjibdcccmaaClk9
set_option linter.unusedVariables false
set_option linter.unusedSimpArgs false
set_option linter.all false
namespace Go.Proofs.Ytamihjibdcccmaa
open Go.RowKit Go.Cb Go.Sort
set_option maxHeartbeats 16000000 in
set_option maxRecDepth 100000 in
theorem clocks29_c (w : World) (A : Option Addr) (c : Nat) (l : List Ev) (hl : Rd evT w All A c l) (h24 : l.length ≤ 24) (il : ∀ x ∈ l, inI64 x.a ∧ inI64 x.n) (n : Nat) (hn : n = l.length) :
    Calls Try.prog 12 #[.slice A n c] w fun e w' => e = .returned (.bool true) ∧ Bel w w' := by
  subst hn
  have HQ := Lib.hid (clocks_c w A c l hl h24 il _ rfl)
  have HL := Lib.hid hl
  have H24 := Lib.hid h24
  clear hl il
  go_enter Try.func12, Try.ntmps12
  go_wp2_with fail
  refine HQ.out.mono ?_
  rintro e w1 ⟨A1, c1, gs, rfl, hr, hgl, ht, hb⟩
  have HQ2 := Lib.hid (refClocks_c _ w1 A c l (HL.out.to hb) (by omega) _ rfl)
  have HR := Lib.hid hr
  have HGL := Lib.hid hgl
  have HT := Lib.hid ht
  have HB := Lib.hid hb
  clear hr hgl ht hb HQ
  go_wp2_with fail
  refine HQ2.out.mono ?_
  rintro e w2 ⟨A2, c2, rfl, hr2, hb2⟩
  have HR1 := Lib.hid (HR.out.to hb2)
  have HR2 := Lib.hid hr2
  have HB2 := Lib.hid (HB.out.trans hb2)
  have KT := Lib.hid (show ∀ j g, gs[j]? = some g → ∃ vt, TabI w2 w.heap.size g vt (clkE l j) from fun j g hg => let ⟨vt, h⟩ := HT.out j g hg; ⟨vt, h.to hb2⟩)
  clear hr2 hb2 HQ2 HR HT
  have nm : l.length ≤ 9223372036854775807 := by omega
  go_wp2
  go_loopw [23] (fun v23 wr => ∃ (j : Nat) (W : World), W = wr ∧ j ≤ l.length ∧ v23 = .int .i64 j ∧ Bel w2 W) (fun v23 _ => l.length - (intOf v23).toNat)
  case atStart => exact ⟨0, _, rfl, Nat.zero_le _, rfl, Bel.refl _⟩
  case round =>
    obtain ⟨j, W, rfl, hj, rfl, hbW⟩ := hrel
    have HBW := Lib.hid hbW
    clear hbW
    by_cases hlt : j < l.length
    · obtain ⟨g, hg⟩ : ∃ g, gs[j]? = some g := ⟨_, List.getElem?_eq_getElem (by have := HGL.out; omega)⟩
      obtain ⟨bd, rfl, pj⟩ := (HR1.out.to HBW.out).ptr hg
      obtain ⟨vt, hT⟩ := KT.out j g hg
      have HTW := Lib.hid (hT.to HBW.out)
      obtain ⟨adB, B, cb, rfl, a0, hRI⟩ := (HR2.out.to HBW.out).row (k := j) (by rw [cntsE_len]; exact hlt)
      have hrow : (cntsE l l.length)[j]'(by rw [cntsE_len]; exact hlt) = clkE l j := by
        have := cntsE_get (l := l) hlt
        rw [List.getElem?_eq_getElem (by rw [cntsE_len]; exact hlt)] at this
        injection this
      rw [hrow] at a0 hRI
      have hll := hRI.lenMax
      obtain ⟨t, htt⟩ : ∃ t, clkE l j = t := ⟨_, rfl⟩
      rw [htt] at a0 hRI HTW hll
      have HRI := Lib.hid hRI
      have HA0 := Lib.hid (fun W' (h : Bel W W') => cell_keep a0 (h.block (World.block_lt_of_cell? _ _ a0)))
      have K1 := Lib.hid (show ∀ W', Bel W W' → Calls Try.prog 23 #[.pointer (some ⟨g, 0, none⟩)] W' fun e w' => e = .returned (.int .i64 t.length) ∧ Bel W' w' from fun W' h => (len_ii (HTW.out.to h)).mono fun e w' hh => ⟨hh.1, hh.2 ▸ Bel.refl _⟩)
      have B0 := cellReg a0
      have j1 : (j : Int) < (l.length : Int) := by omega
      clear hg hT hRI hrow htt
      go_wp2_with fail
      refine wp_region_quiet_below (by kernel_rfl) (by kernel_rfl) ?_
      repeat (go_big_quiet_step (first | with_reducible exact callsReg K1.out))
      refine wpQuiet_nil ?_
      intro _ hw'
      obtain ⟨⟨dq, oq⟩, hw''⟩ := hw'
      subst hw''
      have hbq := bel_regrown W dq oq
      have b0 := HA0.out _ hbq
      have HBQ := Lib.hid hbq
      generalize grow (redrawn W dq) oq = W3 at *
      clear B0 a0 pj hbq
      go_wp2_with fail
      clear b0
      go_loopw [45] (fun v45 wr => ∃ (i : Nat) (W4 : World), W4 = wr ∧ i ≤ t.length ∧ v45 = .int .i64 i ∧ Bel W W4) (fun v45 _ => t.length - (intOf v45).toNat)
      case atStart => exact ⟨0, _, rfl, Nat.zero_le _, rfl, HBQ.out⟩
      case round =>
        obtain ⟨i, W4, rfl, hi, rfl, hb4⟩ := hrel
        have HB4 := Lib.hid hb4
        clear hb4
        by_cases hli : i < t.length
        · obtain ⟨⟨x, y⟩, hx⟩ : ∃ x, t[i]? = some x := ⟨_, List.getElem?_eq_getElem hli⟩
          obtain ⟨ad, cs, rfl, _, hr, hc⟩ := (HRI.out.to HB4.out).2.2 i _ hx
          rw [kept_rd.1 hr] at hc
          have a0 : W4.cell? (ad.add (i * 2)) = some (.int .i64 x) := hc 0 _ rfl
          have a1 : W4.cell? ⟨(ad.add (i * 2)).block, (ad.add (i * 2)).off + 1, none⟩ = some (.int .i64 y) := nth_cellE (hc 1 _ rfl)
          have hal : Bel W4 (W4.alloc (.cells #[.int .i64 x, .int .i64 y] 34)) := (Bel.refl _).alloc _
          have hnw := heap_alloc_new W4 (.cells #[.int .i64 x, .int .i64 y] 34)
          have Q := at_ii (HTW.out.to (HB4.out.trans hal)) i
          rw [show atV t i = #[.int .i64 x, .int .i64 y, .bool true] by unfold atV; rw [if_pos (by omega), Int.toNat_natCast, hx]] at Q
          have HQ := Lib.hid Q
          have HAL := Lib.hid hal
          have HNW := Lib.hid hnw
          clear hx hr hc Q hal hnw
          go_wp2_with fail
          refine HQ.out.mono ?_
          rintro e w5 ⟨rfl, q, rfl⟩
          have hb5 := HAL.out.trans ((Bel.refl _).drewN q)
          have c0 : ((W4.alloc (.cells #[.int .i64 x, .int .i64 y] 34)).drewN q).cell? ⟨W4.heap.size, 0, none⟩ = some (.int .i64 x) := cellAt HNW.out 0
          have c1 : ((W4.alloc (.cells #[.int .i64 x, .int .i64 y] 34)).drewN q).cell? ⟨W4.heap.size, 1, none⟩ = some (.int .i64 y) := cellAt HNW.out 1
          have HB5 := Lib.hid (HB4.out.trans hb5)
          clear hb5 a0 a1 HQ
          go_wp2_with fail
          go_roundw
          case rel => exact ⟨i + 1, _, rfl, by omega, by go_num, HB5.out⟩
          case measure => simp [intOf]; omega
        · obtain rfl : i = t.length := by omega
          have HB6 := Lib.hid (HBW.out.trans HB4.out)
          go_wp2_with fail
          go_roundw
          case rel => exact ⟨j + 1, _, rfl, by omega, by go_num, HB6.out⟩
          case measure => simp [intOf]; omega
    · obtain rfl : j = l.length := by omega
      go_wp2
      go_ret
      exact ⟨rfl, HB2.out.trans HBW.out⟩
end Go.Proofs.Ytamihjibdcccmaa
