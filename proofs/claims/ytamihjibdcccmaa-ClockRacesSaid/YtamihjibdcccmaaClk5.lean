/- Walks: the clocks of events. -/
import Derived.Test.YtamihjibdcccmaaClk4
import Derived.Test.YtamihjibdcccmaaCA
import Derived.Maps.OwnOps
import Derived.Deep.CutRange
set_option linter.unusedVariables false
set_option linter.unusedSimpArgs false
set_option linter.all false
namespace Go.Proofs.Ytamihjibdcccmaa
open Go.RowKit Go.Cb Go.Sort Go.Maps
theorem keyI : Keyed Try.prog 3 := int_keyed Try.underlying3
theorem zeroI (w : World) : (zeroValue 3).run Try.prog w = .ok (.int .i64 0) w := by kernel_rfl
theorem zeroSI (w : World) : (zeroValue 43).run Try.prog w = .ok (.slice none 0 0) w := by kernel_rfl
theorem info_int9 : (Try.prog.info? 3).map (fun i => (i.zero, i.size, i.bytes)) = some (some (.int .i64 0), 1, 8) := by kernel_rfl
theorem info_ptr : (Try.prog.info? 56).map (fun i => (i.zero, i.size, i.bytes)) = some (some (.pointer none), 1, 8) := by kernel_rfl
theorem key_of {a : Int} (h : inI64 a) : keyOf Try.prog 3 (.int .i64 a) = some (.int .i64 a) := keyOf_int_mk Try.underlying3 (WalkArith.wf_i64 (by unfold inI64 at h; omega))
abbrev StI (l : List Ev) (b0 k1 k2 k3 j : Nat) (W : World) (Z : Nat → Nat) (v : Value) (gs : List Nat) : Prop := StE Unit Try.prog 3 56 71 73 l b0 b0 k1 k2 k3 j W Z v gs
set_option maxHeartbeats 64000000 in
set_option maxRecDepth 100000 in
theorem clocks_c (w : World) (A : Option Addr) (c : Nat) (l : List Ev) (hl : Rd evT w All A c l) (h24 : l.length ≤ 24) (il : ∀ x ∈ l, inI64 x.a ∧ inI64 x.n) (n : Nat) (hn : n = l.length) :
    Calls Try.prog 18 #[.slice A n c] w fun e w' => ∃ A' c' gs, e = .returned (.slice A' l.length c') ∧ Rd ptrT w' All A' c' gs ∧ gs.length = l.length ∧ (∀ i g, gs[i]? = some g → ∃ vt, TabI w' w.heap.size g vt (clkE l i)) ∧ Bel w w' := by
  subst hn
  have hmm := @run_makeMap Try.prog
  have HST := Lib.hid (StE.start Unit Try.prog 3 56 71 73 l w)
  have hb3 : Bel w (((w.alloc (.map #[] 0)).alloc (.map #[] 0)).alloc (.map #[] 0)) := (((Bel.refl _).alloc _).alloc _).alloc _
  have HB3 := Lib.hid hb3
  have HL := Lib.hid hl
  have IL := Lib.hid il
  clear hl il hb3
  go_enter Try.func18, Try.ntmps18
  go_wp2
  clear hmm
  go_loopw [3, 22] (fun v3 v22 wr => ∃ (k : Nat) (W : World) (Z : Nat → Nat) (AO : Option Addr) (cO : Nat) (gs : List Nat), W = wr ∧ k ≤ l.length ∧ v22 = .int .i64 k ∧ v3 = .slice AO k cO ∧ Hid (StI l w.heap.size k k k k W Z (.slice AO k cO) gs) ∧ Bel w W) (fun _ v22 _ => l.length - (intOf v22).toNat)
  case atStart => exact ⟨0, _, _, none, 0, [], rfl, Nat.zero_le _, rfl, rfl, HST.out, HB3.out⟩
  case round =>
    clear HST HB3
    obtain ⟨k, W, Z, AO, cO, gs, rfl, hk, rfl, rfl, HS, hbW⟩ := hrel
    by_cases hlt : k < l.length
    · obtain ⟨⟨xa, xk, xn, xcs⟩, hx⟩ : ∃ x, l[k]? = some x := ⟨_, List.getElem?_eq_getElem hlt⟩
      obtain ⟨ia, inn⟩ := IL.out _ (List.mem_of_getElem? hx)
      dsimp only at ia inn
      obtain ⟨ad, Ac, cc, rfl, c0, c1, c2, c3, _⟩ := (HL.out.to hbW).ev hx
      dsimp only at c0 c1 c2 c3
      have hD : l.getD k default = ⟨xa, xk, xn, xcs⟩ := by rw [List.getD_eq_getElem?_getD, hx]; rfl
      have hact : actE l k = xa := by unfold actE; rw [hD]
      have HD := Lib.hid hD
      have HACT := Lib.hid hact
      have IA := Lib.hid ia
      have IN := Lib.hid inn
      obtain ⟨We, hWe⟩ : ∃ We, W.alloc (.cells #[.int .i64 xa, .int .i64 xk, .int .i64 xn, .slice Ac xcs.length cc] 27) = We := ⟨_, rfl⟩
      have hbe : Bel W We := by rw [← hWe]; exact (Bel.refl _).alloc _
      have hne : We.heap[W.heap.size]? = some (.cells #[.int .i64 xa, .int .i64 xk, .int .i64 xn, .slice Ac xcs.length cc] 27 (0, 0)) := by rw [← hWe]; exact heap_alloc_new W _
      have HNE := Lib.hid hne
      have hez : We.heap.size = W.heap.size + 1 := by rw [← hWe]; simp
      have QN := Lib.hid (new_ii We)
      have hT0 := newTab_ii (Value.int .i64) We (base := We.heap.size) (Nat.le_refl _)
      obtain ⟨V1, hW1⟩ : ∃ V1, We.alloc (.cells #[.slice none 0 0] 71) = V1 := ⟨_, rfl⟩
      have hb1 : Bel We V1 := by rw [← hW1]; exact (Bel.refl _).alloc _
      rw [hW1] at QN hT0
      have HT0 := Lib.hid (show TabI V1 We.heap.size We.heap.size (.slice none 0 0) [] from hT0)
      have HB1 := Lib.hid hb1
      have HBE := Lib.hid hbe
      have HEZ := Lib.hid hez
      have HEL := Lib.hid (show W.heap.size < We.heap.size by omega)
      have HBWE := Lib.hid (hbW.trans hbe)
      obtain ⟨Z1, hZ1⟩ : ∃ Z1 : Nat → Nat, (fun q => if q < W.heap.size then Z q else 0) = Z1 := ⟨_, rfl⟩
      have HZ1 := Lib.hid (show ∀ q, W.heap.size ≤ q → Z1 q = 0 from fun q hq => by rw [← hZ1]; exact if_neg (by omega))
      have HSE := Lib.hid (show StI l w.heap.size k k k k We Z1 (.slice AO k cO) gs from (HS.out.rezone (Z' := Z1) (fun q hq => by rw [← hZ1]; exact if_pos hq)).bel hbe)
      clear hZ1
      have HRO := Lib.hid (show Rd ptrT We All AO cO gs from by
        obtain ⟨A9, c9, e9, r9⟩ := HSE.out.out.rdAll
        injection e9 with z1 _ z3
        rw [z1, z3]
        exact r9)
      obtain ⟨D1, ho1, hn1⟩ := (HSE.out.bel hb1).m1
      obtain ⟨cown, hlo, hato, hcown⟩ := ho1.lookup_int keyI Try.underlying62 Try.underlying3 (zeroI _) (key_of ia)
      have HCO := Lib.hid (hn1.look ia hato)
      obtain ⟨D2, ho2, hn2⟩ := HSE.out.m2
      obtain ⟨vB, zsB, hlr2, hat2, hoi2, hzl2, _, _⟩ := groups_at ho2 keyI Try.underlying63 zeroSI (by unfold maxLen; omega) (key_of ia)
      have HZB := Lib.hid (hn2.look ia hat2 hoi2)
      obtain ⟨AzB, czB, rfl, hrzB⟩ := ints_rd hoi2
      have HRZB := Lib.hid hrzB
      obtain ⟨D3, ho3, hn3⟩ := HSE.out.m3
      obtain ⟨vC, zsC, hlr3, hat3, hoi3, hzl3, _, _⟩ := groups_at ho3 keyI Try.underlying63 zeroSI (by unfold maxLen; omega) (key_of inn)
      have HZC := Lib.hid (hn3.look inn hat3 hoi3)
      obtain ⟨AzC, czC, rfl, hrzC⟩ := ints_rd hoi3
      have HRZC := Lib.hid hrzC
      have HL2 := Lib.hid hlr2
      have HL3 := Lib.hid hlr3
      have hkb := (hb1.block HEL.out).trans HNE.out
      have r0 : V1.cell? ⟨W.heap.size, 0, none⟩ = some (.int .i64 xa) := cellAt hkb 0
      have r1 : V1.cell? ⟨W.heap.size, 1, none⟩ = some (.int .i64 xk) := cellAt hkb 1
      have r2 : V1.cell? ⟨W.heap.size, 2, none⟩ = some (.int .i64 xn) := cellAt hkb 2
      clear hx hD hact hne hez hbe hb1 hT0 hW1 ho1 hn1 hato ho2 hn2 hat2 hoi2 hrzB ho3 hn3 hat3 hoi3 hrzC hkb ia inn hlr2 hlr3
      go_wp2_with fail
      refine QN.out.mono ?_
      rintro e W1 ⟨rfl, rfl⟩
      clear c0 c1 c2 c3 QN
      cases hown : ownE l xa k with
      | none =>
        have HOW := Lib.hid (show (ownE l xa k).toList = [] by rw [hown]; rfl)
        have hc0 : cown = 0 := HCO.out.trans (ownN_none hown)
        clear hown
        subst hc0
        go_upto_region 12 with fail
        clear hlo r0 r1 r2 hcown
        have HP0 := Lib.hid (show ∀ q ∈ ([] : List Nat), q < k from fun q hq => by simp at hq)
        have HTX := Lib.hid (show TabI W1 We.heap.size We.heap.size (.slice none 0 0) (([] : List Nat).foldl (fun t p => joinT t (clkE l p)) []) from HT0.out)
        have HBX := Lib.hid HB1.out
        have HLR := Lib.hid (HL2.out W1 (HBX.out.block (by rw [HEZ.out]; have := HS.out.size; omega)))
        have hlr := HLR.out
        have hkb := (HBX.out.block HEL.out).trans HNE.out
        have q0 : W1.cell? ⟨W.heap.size, 0, none⟩ = some (.int .i64 xa) := cellAt hkb 0
        have q1 : W1.cell? ⟨W.heap.size, 1, none⟩ = some (.int .i64 xk) := cellAt hkb 1
        have q2 : W1.cell? ⟨W.heap.size, 2, none⟩ = some (.int .i64 xn) := cellAt hkb 2
        clear hkb
        go_wp2
        clear q0 q1 q2 hlr HLR
        go_loopw [9, 46] (fun v9 v46 wr => ∃ (i : Nat) (Wi : World) (vt : Value), Wi = wr ∧ i ≤ zsB.length ∧ v46 = .int .i64 i ∧ v9 = .pointer (some ⟨We.heap.size, 0, none⟩) ∧ Hid (TabI Wi We.heap.size We.heap.size vt ((([] : List Nat) ++ (kindE l 2 xa k).take i).foldl (fun t p => joinT t (clkE l p)) [])) ∧ Bel We Wi) (fun _ v46 _ => zsB.length - (intOf v46).toNat)
        case atStart => exact ⟨0, _, _, rfl, Nat.zero_le _, rfl, rfl, by rw [List.take_zero, List.append_nil]; exact HTX.out, HBX.out⟩
        case round =>
          obtain ⟨i, Wi, vtB, rfl, hi, rfl, rfl, HTB, hbi⟩ := hrel
          by_cases hli : i < zsB.length
          · obtain ⟨ads, rfl, hcs⟩ := (HRZB.out.to hbi).int hli
            obtain ⟨p, hp1, hp2, hp3⟩ := kindN_at HZB.out hli
            rw [hp2] at hcs
            obtain ⟨gp, hgp⟩ : ∃ g, gs[p]? = some g := ⟨_, List.getElem?_eq_getElem (by rw [HS.out.len]; exact hp3)⟩
            obtain ⟨bd, eAO, hcp⟩ := (HRO.out.to hbi).ptr hgp
            first | subst eAO | (injection eAO with eAO; subst eAO)
            obtain ⟨vp, htp, _, _⟩ := HSE.out.tabs p gp hgp
            have Q := joined_c We Wi We.heap.size gp w.heap.size vtB vp _ (clkE l p) HTB.out htp (mid_take (mid_fold l _ [] (MidE.nil l k) (fun q hq => by
              rcases List.mem_append.1 hq with hq | hq
              · exact HP0.out q hq
              · exact kindE_lt (List.mem_of_mem_take hq))) hp3 (by omega)) hbi
            rw [← fold_more ([] : List Nat) (kindE l 2 xa k) hp1] at Q
            have HQ := Lib.hid Q
            have hpl : (p : Int) < (k : Int) := by omega
            clear hp1 hp2 hgp htp Q
            go_wp2_with fail
            refine HQ.out.mono ?_
            rintro e W3 ⟨v3, rfl, hT3, hb3⟩
            have HT3 := Lib.hid hT3
            clear HQ hT3 hcs hcp
            go_wp2
            go_roundw
            case rel => exact ⟨i + 1, _, v3, rfl, by omega, by go_num, rfl, HT3, hb3⟩
            case measure => simp [intOf]; omega
          · obtain rfl : i = zsB.length := by omega
            rw [kindN_all HZB.out] at HTB
            have HBB := Lib.hid hbi
            have HPB := Lib.hid (show ∀ q ∈ ([] : List Nat) ++ kindE l 2 xa k, q < k from fun q hq => by
              rcases List.mem_append.1 hq with hq | hq
              · exact HP0.out q hq
              · exact kindE_lt hq)
            clear hbi hli hi
            have hkb := (HBB.out.block HEL.out).trans HNE.out
            have q0 : Wi.cell? ⟨W.heap.size, 0, none⟩ = some (.int .i64 xa) := cellAt hkb 0
            have q1 : Wi.cell? ⟨W.heap.size, 1, none⟩ = some (.int .i64 xk) := cellAt hkb 1
            have q2 : Wi.cell? ⟨W.heap.size, 2, none⟩ = some (.int .i64 xn) := cellAt hkb 2
            clear hkb
            by_cases k4 : xk = 4
            · have n4 : (xk == 4) = true := by rw [k4]; rfl
              have K4 := Lib.hid k4
              clear k4 q0 q1 q2
              have HLR := Lib.hid (HL3.out Wi (HBB.out.block (by rw [HEZ.out]; have := HS.out.size; omega)))
              have hlr := HLR.out
              have hkb := (HBB.out.block HEL.out).trans HNE.out
              have q0 : Wi.cell? ⟨W.heap.size, 0, none⟩ = some (.int .i64 xa) := cellAt hkb 0
              have q1 : Wi.cell? ⟨W.heap.size, 1, none⟩ = some (.int .i64 xk) := cellAt hkb 1
              have q2 : Wi.cell? ⟨W.heap.size, 2, none⟩ = some (.int .i64 xn) := cellAt hkb 2
              clear hkb
              go_wp2
              clear q0 q1 q2 hlr HLR
              go_loopw [9, 65] (fun v9 v46 wr => ∃ (i : Nat) (Wi : World) (vt : Value), Wi = wr ∧ i ≤ zsC.length ∧ v46 = .int .i64 i ∧ v9 = .pointer (some ⟨We.heap.size, 0, none⟩) ∧ Hid (TabI Wi We.heap.size We.heap.size vt (((([] : List Nat) ++ kindE l 2 xa k) ++ (kindE l 3 xn k).take i).foldl (fun t p => joinT t (clkE l p)) [])) ∧ Bel We Wi) (fun _ v46 _ => zsC.length - (intOf v46).toNat)
              case atStart => exact ⟨0, _, vtB, rfl, Nat.zero_le _, rfl, rfl, by rw [List.take_zero, List.append_nil]; exact HTB.out, HBB.out⟩
              case round =>
                obtain ⟨i, Wi, vtC, rfl, hi, rfl, rfl, HTC, hbi⟩ := hrel
                by_cases hli : i < zsC.length
                · obtain ⟨ads, rfl, hcs⟩ := (HRZC.out.to hbi).int hli
                  obtain ⟨p, hp1, hp2, hp3⟩ := kindN_at HZC.out hli
                  rw [hp2] at hcs
                  obtain ⟨gp, hgp⟩ : ∃ g, gs[p]? = some g := ⟨_, List.getElem?_eq_getElem (by rw [HS.out.len]; exact hp3)⟩
                  obtain ⟨bd, eAO, hcp⟩ := (HRO.out.to hbi).ptr hgp
                  first | subst eAO | (injection eAO with eAO; subst eAO)
                  obtain ⟨vp, htp, _, _⟩ := HSE.out.tabs p gp hgp
                  have Q := joined_c We Wi We.heap.size gp w.heap.size vtC vp _ (clkE l p) HTC.out htp (mid_take (mid_fold l _ [] (MidE.nil l k) (fun q hq => by
                    rcases List.mem_append.1 hq with hq | hq
                    · exact HPB.out q hq
                    · exact kindE_lt (List.mem_of_mem_take hq))) hp3 (by omega)) hbi
                  rw [← fold_more (([] : List Nat) ++ kindE l 2 xa k) (kindE l 3 xn k) hp1] at Q
                  have HQ := Lib.hid Q
                  have hpl : (p : Int) < (k : Int) := by omega
                  clear hp1 hp2 hgp htp Q
                  go_wp2_with fail
                  refine HQ.out.mono ?_
                  rintro e W3 ⟨v3, rfl, hT3, hb3⟩
                  have HT3 := Lib.hid hT3
                  clear HQ hT3 hcs hcp
                  go_wp2
                  go_roundw
                  case rel => exact ⟨i + 1, _, v3, rfl, by omega, by go_num, rfl, HT3, hb3⟩
                  case measure => simp [intOf]; omega
                · obtain rfl : i = zsC.length := by omega
                  rw [kindN_all HZC.out] at HTC
                  have HBC := Lib.hid hbi
                  have HPC := Lib.hid (show ∀ q ∈ (([] : List Nat) ++ kindE l 2 xa k) ++ kindE l 3 xn k, q < k from fun q hq => by
                    rcases List.mem_append.1 hq with hq | hq
                    · exact HPB.out q hq
                    · exact kindE_lt hq)
                  clear hbi hli hi
                  have HPR := Lib.hid (show ((([] : List Nat) ++ kindE l 2 xa k) ++ kindE l 3 xn k) = predsE l k by unfold predsE; rw [HD.out]; dsimp only; rw [HOW.out]; rw [if_pos K4.out])
                  have HMID := Lib.hid (mid_fold l ((([] : List Nat) ++ kindE l 2 xa k) ++ kindE l 3 xn k) [] (MidE.nil l k) HPC.out)
                  obtain ⟨J, hJ⟩ : ∃ J, ((([] : List Nat) ++ kindE l 2 xa k) ++ kindE l 3 xn k).foldl (fun t p => joinT t (clkE l p)) [] = J := ⟨_, rfl⟩
                  have HCE := Lib.hid (show clkE l k = putT cmpI J xa (valT J xa + 1) by rw [clkE_put, HACT.out, ← HPR.out, hJ])
                  rw [hJ] at HMID HTC
                  have hvl : 0 ≤ valT J xa ∧ valT J xa ≤ 24 := by
                    have h1 := clkE_val_le l k xa
                    have h2 := (HMID.out.ok.val xa).1
                    unfold vE at h1
                    rw [HCE.out, valT_put HMID.out.ok.ok, if_pos rfl] at h1
                    omega
                  have Q1 := get_ii HTC.out HMID.out.ok.ok xa
                  rw [opt_val] at Q1
                  have HQ1 := Lib.hid Q1
                  obtain ⟨nn, hnn⟩ : ∃ nn, valT J xa = nn := ⟨_, rfl⟩
                  rw [hnn] at HQ1 HCE hvl
                  have hlJ := HMID.out.len
                  have hkb := (HBC.out.block HEL.out).trans HNE.out
                  have q0 : Wi.cell? ⟨W.heap.size, 0, none⟩ = some (.int .i64 xa) := cellAt hkb 0
                  have q1 : Wi.cell? ⟨W.heap.size, 1, none⟩ = some (.int .i64 xk) := cellAt hkb 1
                  have q2 : Wi.cell? ⟨W.heap.size, 2, none⟩ = some (.int .i64 xn) := cellAt hkb 2
                  clear hkb
                  have HPU := Lib.hid (fun W' (h : Bel Wi W') => put_ii (HTC.out.to h) HMID.out.ok.ok (Nat.le_trans HBC.out.size h.size) (by omega) xa (nn + 1))
                  have HLOW := Lib.hid (And.intro HTC.out.low HTC.out.ge)
                  clear hJ hnn Q1 hlJ
                  go_wp2_with fail
                  refine HQ1.out.mono ?_
                  rintro e Wg ⟨rfl, hbg⟩
                  have HPG := Lib.hid (HPU.out Wg hbg)
                  have HBG := Lib.hid (HBC.out.trans hbg)
                  clear q0 q1 q2 HQ1 HPU hbg
                  have hkb := (HBG.out.block HEL.out).trans HNE.out
                  have q0 : Wg.cell? ⟨W.heap.size, 0, none⟩ = some (.int .i64 xa) := cellAt hkb 0
                  have q1 : Wg.cell? ⟨W.heap.size, 1, none⟩ = some (.int .i64 xk) := cellAt hkb 1
                  have q2 : Wg.cell? ⟨W.heap.size, 2, none⟩ = some (.int .i64 xn) := cellAt hkb 2
                  clear hkb
                  have hwn : IntKind.i64.wrap (nn + 1) = nn + 1 := by rw [IntKind.wrap_i64]; omega
                  go_wp2_with fail
                  refine HPG.out.mono ?_
                  rintro e Wp ⟨vp, rfl, hTp, hSp⟩
                  rw [← HCE.out] at hTp
                  have hbp := hSp.bel HBG.out HLOW.out.1 HLOW.out.2
                  have HBP := Lib.hid hbp
                  have HTP := Lib.hid hTp
                  clear q0 q1 q2 HPG hSp hTp
                  obtain ⟨Z2, hZ2⟩ : ∃ Z2 : Nat → Nat, (fun q => if q < Wp.heap.size then Z1 q else 1) = Z2 := ⟨_, rfl⟩
                  have HSP := Lib.hid (show StI l w.heap.size k k k k Wp Z2 (.slice AO k cO) gs from (HSE.out.bel hbp).rezone (fun q hq => by rw [← hZ2]; exact if_pos hq))
                  have HZT := Lib.hid (show Z2 We.heap.size = 0 ∧ (∀ q, vp.ownBlock = some q → Z2 q = 0) from by
                    have hlt := HTP.out.lt
                    constructor
                    · rw [← hZ2]
                      show (if We.heap.size < Wp.heap.size then Z1 We.heap.size else 1) = 0
                      rw [if_pos hlt]
                      exact HZ1.out _ (by have := HEZ.out; omega)
                    · intro q hq
                      have h1 := HTP.out.ge q hq
                      have h2 := (World.ownsRow.lt HTP.out.row q hq).2
                      rw [← hZ2]
                      show (if q < Wp.heap.size then Z1 q else 1) = 0
                      rw [if_pos h2]
                      exact HZ1.out _ (by have := HEZ.out; omega))
                  have HZW := Lib.hid (show Z2 W.heap.size = 0 from by
                    have hlt := HTP.out.lt
                    rw [← hZ2]
                    show (if W.heap.size < Wp.heap.size then Z1 W.heap.size else 1) = 0
                    rw [if_pos (by have := HEZ.out; omega)]
                    exact HZ1.out _ (Nat.le_refl _))
                  have HZG := Lib.hid (show ∀ q, Wp.heap.size ≤ q → Z2 q = 1 from fun q hq => by rw [← hZ2]; exact if_neg (by omega))
                  have HGL := Lib.hid HS.out.len
                  have HBWP := Lib.hid (HBWE.out.trans hbp)
                  clear hZ2 hbp
                  have hkb := (HBP.out.block HEL.out).trans HNE.out
                  have q0 : Wp.cell? ⟨W.heap.size, 0, none⟩ = some (.int .i64 xa) := cellAt hkb 0
                  have q1 : Wp.cell? ⟨W.heap.size, 1, none⟩ = some (.int .i64 xk) := cellAt hkb 1
                  have q2 : Wp.cell? ⟨W.heap.size, 2, none⟩ = some (.int .i64 xn) := cellAt hkb 2
                  clear hkb
                  go_upto_region 26 with (at_builtin; go_loud (refine wp_append1 ptrT (w0 := w) 47 56 (.pointer none) 8 rfl _ _ rfl Try.underlying47 info_ptr rfl (fun _ => False) (.slice AO k cO) gs We.heap.size [.pointer (some ⟨We.heap.size, 0, none⟩)] rfl rfl HSP.out.out rfl HBWP.out (by rw [HGL.out]; unfold maxLen; omega) (by rw [HGL.out]; omega) ?_); go_loud (rintro v2 Wa ho2 hb2 hg2 hf2; obtain ⟨A2, c2, hv2⟩ := ho2.form; rw [List.length_append, HGL.out] at hv2; subst hv2))
                  have HS2 := Lib.hid (show StI l w.heap.size k k k (k + 1) Wa Z2 (.slice A2 (k + 1) c2) (gs ++ [We.heap.size]) from HSP.out.push (Tab.lower HTP.out HBWE.out.size) HZT.out.1 HZT.out.2 hg2 ho2 (by
                    rcases hf2 with h | ⟨b, h, h'⟩
                    · exact .inl h
                    · exact .inr ⟨b, h, h'⟩) HZG.out)
                  have hea : Wa.heap[W.heap.size]? = some (.cells #[.int .i64 xa, .int .i64 xk, .int .i64 xn, .slice Ac xcs.length cc] 27 (0, 0)) :=
                    (hg2.block W.heap.size (by have := HBP.out.size; have := HEZ.out; omega) (fun e => by have := HS.out.out.lt e.symm; omega)).trans ((HBP.out.block HEL.out).trans HNE.out)
                  have HEA := Lib.hid hea
                  have HBA := Lib.hid hb2
                  clear q0 q1 q2 ho2 hb2 hg2 hf2 HSP HTP HZT HZG hea
                  obtain ⟨D1, ho1, hn1⟩ := HS2.out.m1
                  have HN1 := Lib.hid hn1
                  have q0 : Wa.cell? ⟨W.heap.size, 0, none⟩ = some (.int .i64 xa) := cellAt HEA.out 0
                  have q1 : Wa.cell? ⟨W.heap.size, 1, none⟩ = some (.int .i64 xk) := cellAt HEA.out 1
                  have hwk : IntKind.i64.wrap ((k : Int) + 1) = (k : Int) + 1 := by rw [IntKind.wrap_i64]; omega
                  clear hn1
                  go_upto_region 27 with (at_mapUpdate; refine wpList_mapUpdate_own _ rfl _ _ _ 62 rfl 3 3 keyI Try.underlying62 _ w.heap.size k _ rfl ho1 (by unfold maxLen; omega) _ _ _ rfl rfl (key_of IA.out) _ [] (plainElem_int Try.underlying3 (WalkArith.wf_i64 (by omega))) ?_; intro Wb hown1 hgb)
                  have HS3 := Lib.hid (show StI l w.heap.size (k + 1) k k (k + 1) Wb Z2 (.slice A2 (k + 1) c2) (gs ++ [We.heap.size]) from HS2.out.own hgb ⟨_, hown1, by
                    have := HN1.out.put (g := fun a => ownN l a (k + 1)) (num_map ho1) (a := xa) (fun b hb => ownN_other l k (by rw [HACT.out]; exact hb))
                    have h9 : ownN l xa (k + 1) = (k : Int) + 1 := by rw [← HACT.out]; exact ownN_here l k
                    rw [h9] at this
                    exact this⟩)
                  have heb : Wb.heap[W.heap.size]? = some (.cells #[.int .i64 xa, .int .i64 xk, .int .i64 xn, .slice Ac xcs.length cc] 27 (0, 0)) :=
                    (hgb.block W.heap.size (blk_lt HEA.out) (fun e => by injection e with e; have := HS.out.size; omega)).trans HEA.out
                  have HEBB := Lib.hid heb
                  have HBB := Lib.hid (HBA.out.grown hgb (fun q hq => by injection hq with hq; omega))
                  clear hown1 hgb heb HEA HBA q0 q1 ho1 HN1 HS2
                  have q0 : Wb.cell? ⟨W.heap.size, 0, none⟩ = some (.int .i64 xa) := cellAt HEBB.out 0
                  have q1 : Wb.cell? ⟨W.heap.size, 1, none⟩ = some (.int .i64 xk) := cellAt HEBB.out 1
                  have q2 : Wb.cell? ⟨W.heap.size, 2, none⟩ = some (.int .i64 xn) := cellAt HEBB.out 2
                  have n2 : (xk == 2) = false := by rw [K4.out]; rfl
                  have n3 : (xk == 3) = false := by rw [K4.out]; rfl
                  have HS5 := Lib.hid ((HS3.out.skip2 (by rw [HD.out]; show xk ≠ 2; rw [K4.out]; decide)).skip3 (by rw [HD.out]; show xk ≠ 3; rw [K4.out]; decide))
                  go_wp2
                  go_roundw
                  case rel => exact ⟨k + 1, _, Z2, A2, c2, _, rfl, by omega, by go_num, rfl, HS5.out, HBB.out⟩
                  case measure => simp [intOf]; omega
            · have n4 : (xk == 4) = false := beq_eq_false_iff_ne.2 k4
              clear q0 q1 q2
              have HPR := Lib.hid (show (([] : List Nat) ++ kindE l 2 xa k) = predsE l k by unfold predsE; rw [HD.out]; dsimp only; rw [HOW.out]; rw [if_neg k4, List.append_nil])
              have HMID := Lib.hid (mid_fold l (([] : List Nat) ++ kindE l 2 xa k) [] (MidE.nil l k) HPB.out)
              obtain ⟨J, hJ⟩ : ∃ J, (([] : List Nat) ++ kindE l 2 xa k).foldl (fun t p => joinT t (clkE l p)) [] = J := ⟨_, rfl⟩
              have HCE := Lib.hid (show clkE l k = putT cmpI J xa (valT J xa + 1) by rw [clkE_put, HACT.out, ← HPR.out, hJ])
              rw [hJ] at HMID HTB
              have hvl : 0 ≤ valT J xa ∧ valT J xa ≤ 24 := by
                have h1 := clkE_val_le l k xa
                have h2 := (HMID.out.ok.val xa).1
                unfold vE at h1
                rw [HCE.out, valT_put HMID.out.ok.ok, if_pos rfl] at h1
                omega
              have Q1 := get_ii HTB.out HMID.out.ok.ok xa
              rw [opt_val] at Q1
              have HQ1 := Lib.hid Q1
              obtain ⟨nn, hnn⟩ : ∃ nn, valT J xa = nn := ⟨_, rfl⟩
              rw [hnn] at HQ1 HCE hvl
              have hlJ := HMID.out.len
              have hkb := (HBB.out.block HEL.out).trans HNE.out
              have q0 : Wi.cell? ⟨W.heap.size, 0, none⟩ = some (.int .i64 xa) := cellAt hkb 0
              have q1 : Wi.cell? ⟨W.heap.size, 1, none⟩ = some (.int .i64 xk) := cellAt hkb 1
              have q2 : Wi.cell? ⟨W.heap.size, 2, none⟩ = some (.int .i64 xn) := cellAt hkb 2
              clear hkb
              have HPU := Lib.hid (fun W' (h : Bel Wi W') => put_ii (HTB.out.to h) HMID.out.ok.ok (Nat.le_trans HBB.out.size h.size) (by omega) xa (nn + 1))
              have HLOW := Lib.hid (And.intro HTB.out.low HTB.out.ge)
              clear hJ hnn Q1 hlJ
              go_wp2_with fail
              refine HQ1.out.mono ?_
              rintro e Wg ⟨rfl, hbg⟩
              have HPG := Lib.hid (HPU.out Wg hbg)
              have HBG := Lib.hid (HBB.out.trans hbg)
              clear q0 q1 q2 HQ1 HPU hbg
              have hkb := (HBG.out.block HEL.out).trans HNE.out
              have q0 : Wg.cell? ⟨W.heap.size, 0, none⟩ = some (.int .i64 xa) := cellAt hkb 0
              have q1 : Wg.cell? ⟨W.heap.size, 1, none⟩ = some (.int .i64 xk) := cellAt hkb 1
              have q2 : Wg.cell? ⟨W.heap.size, 2, none⟩ = some (.int .i64 xn) := cellAt hkb 2
              clear hkb
              have hwn : IntKind.i64.wrap (nn + 1) = nn + 1 := by rw [IntKind.wrap_i64]; omega
              go_wp2_with fail
              refine HPG.out.mono ?_
              rintro e Wp ⟨vp, rfl, hTp, hSp⟩
              rw [← HCE.out] at hTp
              have hbp := hSp.bel HBG.out HLOW.out.1 HLOW.out.2
              have HBP := Lib.hid hbp
              have HTP := Lib.hid hTp
              clear q0 q1 q2 HPG hSp hTp
              obtain ⟨Z2, hZ2⟩ : ∃ Z2 : Nat → Nat, (fun q => if q < Wp.heap.size then Z1 q else 1) = Z2 := ⟨_, rfl⟩
              have HSP := Lib.hid (show StI l w.heap.size k k k k Wp Z2 (.slice AO k cO) gs from (HSE.out.bel hbp).rezone (fun q hq => by rw [← hZ2]; exact if_pos hq))
              have HZT := Lib.hid (show Z2 We.heap.size = 0 ∧ (∀ q, vp.ownBlock = some q → Z2 q = 0) from by
                have hlt := HTP.out.lt
                constructor
                · rw [← hZ2]
                  show (if We.heap.size < Wp.heap.size then Z1 We.heap.size else 1) = 0
                  rw [if_pos hlt]
                  exact HZ1.out _ (by have := HEZ.out; omega)
                · intro q hq
                  have h1 := HTP.out.ge q hq
                  have h2 := (World.ownsRow.lt HTP.out.row q hq).2
                  rw [← hZ2]
                  show (if q < Wp.heap.size then Z1 q else 1) = 0
                  rw [if_pos h2]
                  exact HZ1.out _ (by have := HEZ.out; omega))
              have HZW := Lib.hid (show Z2 W.heap.size = 0 from by
                have hlt := HTP.out.lt
                rw [← hZ2]
                show (if W.heap.size < Wp.heap.size then Z1 W.heap.size else 1) = 0
                rw [if_pos (by have := HEZ.out; omega)]
                exact HZ1.out _ (Nat.le_refl _))
              have HZG := Lib.hid (show ∀ q, Wp.heap.size ≤ q → Z2 q = 1 from fun q hq => by rw [← hZ2]; exact if_neg (by omega))
              have HGL := Lib.hid HS.out.len
              have HBWP := Lib.hid (HBWE.out.trans hbp)
              clear hZ2 hbp
              have hkb := (HBP.out.block HEL.out).trans HNE.out
              have q0 : Wp.cell? ⟨W.heap.size, 0, none⟩ = some (.int .i64 xa) := cellAt hkb 0
              have q1 : Wp.cell? ⟨W.heap.size, 1, none⟩ = some (.int .i64 xk) := cellAt hkb 1
              have q2 : Wp.cell? ⟨W.heap.size, 2, none⟩ = some (.int .i64 xn) := cellAt hkb 2
              clear hkb
              go_upto_region 26 with (at_builtin; go_loud (refine wp_append1 ptrT (w0 := w) 47 56 (.pointer none) 8 rfl _ _ rfl Try.underlying47 info_ptr rfl (fun _ => False) (.slice AO k cO) gs We.heap.size [.pointer (some ⟨We.heap.size, 0, none⟩)] rfl rfl HSP.out.out rfl HBWP.out (by rw [HGL.out]; unfold maxLen; omega) (by rw [HGL.out]; omega) ?_); go_loud (rintro v2 Wa ho2 hb2 hg2 hf2; obtain ⟨A2, c2, hv2⟩ := ho2.form; rw [List.length_append, HGL.out] at hv2; subst hv2))
              have HS2 := Lib.hid (show StI l w.heap.size k k k (k + 1) Wa Z2 (.slice A2 (k + 1) c2) (gs ++ [We.heap.size]) from HSP.out.push (Tab.lower HTP.out HBWE.out.size) HZT.out.1 HZT.out.2 hg2 ho2 (by
                rcases hf2 with h | ⟨b, h, h'⟩
                · exact .inl h
                · exact .inr ⟨b, h, h'⟩) HZG.out)
              have hea : Wa.heap[W.heap.size]? = some (.cells #[.int .i64 xa, .int .i64 xk, .int .i64 xn, .slice Ac xcs.length cc] 27 (0, 0)) :=
                (hg2.block W.heap.size (by have := HBP.out.size; have := HEZ.out; omega) (fun e => by have := HS.out.out.lt e.symm; omega)).trans ((HBP.out.block HEL.out).trans HNE.out)
              have HEA := Lib.hid hea
              have HBA := Lib.hid hb2
              clear q0 q1 q2 ho2 hb2 hg2 hf2 HSP HTP HZT HZG hea
              obtain ⟨D1, ho1, hn1⟩ := HS2.out.m1
              have HN1 := Lib.hid hn1
              have q0 : Wa.cell? ⟨W.heap.size, 0, none⟩ = some (.int .i64 xa) := cellAt HEA.out 0
              have q1 : Wa.cell? ⟨W.heap.size, 1, none⟩ = some (.int .i64 xk) := cellAt HEA.out 1
              have hwk : IntKind.i64.wrap ((k : Int) + 1) = (k : Int) + 1 := by rw [IntKind.wrap_i64]; omega
              clear hn1
              go_upto_region 27 with (at_mapUpdate; refine wpList_mapUpdate_own _ rfl _ _ _ 62 rfl 3 3 keyI Try.underlying62 _ w.heap.size k _ rfl ho1 (by unfold maxLen; omega) _ _ _ rfl rfl (key_of IA.out) _ [] (plainElem_int Try.underlying3 (WalkArith.wf_i64 (by omega))) ?_; intro Wb hown1 hgb)
              have HS3 := Lib.hid (show StI l w.heap.size (k + 1) k k (k + 1) Wb Z2 (.slice A2 (k + 1) c2) (gs ++ [We.heap.size]) from HS2.out.own hgb ⟨_, hown1, by
                have := HN1.out.put (g := fun a => ownN l a (k + 1)) (num_map ho1) (a := xa) (fun b hb => ownN_other l k (by rw [HACT.out]; exact hb))
                have h9 : ownN l xa (k + 1) = (k : Int) + 1 := by rw [← HACT.out]; exact ownN_here l k
                rw [h9] at this
                exact this⟩)
              have heb : Wb.heap[W.heap.size]? = some (.cells #[.int .i64 xa, .int .i64 xk, .int .i64 xn, .slice Ac xcs.length cc] 27 (0, 0)) :=
                (hgb.block W.heap.size (blk_lt HEA.out) (fun e => by injection e with e; have := HS.out.size; omega)).trans HEA.out
              have HEBB := Lib.hid heb
              have HBB := Lib.hid (HBA.out.grown hgb (fun q hq => by injection hq with hq; omega))
              clear hown1 hgb heb HEA HBA q0 q1 ho1 HN1 HS2
              have q0 : Wb.cell? ⟨W.heap.size, 0, none⟩ = some (.int .i64 xa) := cellAt HEBB.out 0
              have q1 : Wb.cell? ⟨W.heap.size, 1, none⟩ = some (.int .i64 xk) := cellAt HEBB.out 1
              have q2 : Wb.cell? ⟨W.heap.size, 2, none⟩ = some (.int .i64 xn) := cellAt HEBB.out 2
              by_cases k2 : xk = 2
              · have n2 : (xk == 2) = true := by rw [k2]; rfl
                have n3 : (xk == 3) = false := by rw [k2]; rfl
                have K2 := Lib.hid k2
                clear k2
                obtain ⟨Z3, hZ3⟩ : ∃ Z3 : Nat → Nat, (fun q => if q < Wb.heap.size then Z2 q else 2) = Z3 := ⟨_, rfl⟩
                have HS4 := Lib.hid (show StI l w.heap.size (k + 1) k k (k + 1) Wb Z3 (.slice A2 (k + 1) c2) (gs ++ [We.heap.size]) from HS3.out.rezone (fun q hq => by rw [← hZ3]; exact if_pos hq))
                have HZN := Lib.hid (show ∀ q, Wb.heap.size ≤ q → Z3 q = 2 from fun q hq => by rw [← hZ3]; exact if_neg (by omega))
                have hlw := blk_lt HEBB.out
                have hzw : Z3 W.heap.size = 0 := by
                  rw [← hZ3]
                  show (if W.heap.size < Wb.heap.size then Z2 W.heap.size else 2) = 0
                  rw [if_pos hlw]
                  exact HZW.out
                obtain ⟨Dg, hog, hng⟩ := HS4.out.m2
                obtain ⟨vg, zg, hlg, hatg, hoig, hzlg, hbackg, hshg⟩ := groups_at hog keyI Try.underlying63 zeroSI (by unfold maxLen; omega) (key_of IN.out)
                have HZG2 := Lib.hid (hng.look IN.out hatg hoig)
                have HROW := Lib.hid (show ∀ q, vg.ownBlock = some q → Z3 q = 2 from fun q hq => Decidable.not_not.1 (hshg (fun g => Z3 g ≠ 2) HS4.out.s2 q hq))
                have HGE := Lib.hid (show ∀ q, vg.ownBlock = some q → w.heap.size ≤ q ∧ q < Wb.heap.size from fun q hq => by have := hoig.1.lt q hq; omega)
                have HEW := Lib.hid (show ∀ w1 : World, Wb.grownBy w1 vg.ownBlock → w1.heap[W.heap.size]? = some (.cells #[.int .i64 xa, .int .i64 xk, .int .i64 xn, .slice Ac xcs.length cc] 27 (0, 0)) from fun w1 h => (h.block W.heap.size hlw (fun e => by have := HROW.out _ e.symm; rw [hzw] at this; cases this)).trans HEBB.out)
                have HOG := Lib.hid hog
                have HNG := Lib.hid hng
                have HLG := Lib.hid hlg
                have HOI := Lib.hid hoig
                have HBK := Lib.hid hbackg
                have hml := HS4.out.size
                obtain ⟨Ag, cg, rfl, _⟩ := ints_rd hoig
                clear hZ3 hog hng hlg hatg hoig hbackg hshg hzw
                go_upto_region 29 with fail
                clear q0 q1 q2
                obtain ⟨i0, hi0, hz0, hz1, hz2⟩ := info_parts info_int9
                refine wp_region_growM 10 9 (Value.slice Ag zg.length cg).ownBlock (by kernel_rfl) (by kernel_rfl) (by kernel_rfl) [SPred.val (.map (some (w.heap.size + 1))), SPred.val (.pointer (some ⟨W.heap.size, 2, none⟩)), SPred.val (.int .i64 xn), SPred.val (.map (some (w.heap.size + 1))), SPred.val (.pointer (some ⟨W.heap.size, 2, none⟩)), SPred.val (.int .i64 xn), SPred.val (.slice Ag zg.length cg), SPred.val (.int .i64 k), SPred.litI 3 (k : Int), SPred.grpI (w.heap.size + 2) 3 (zg ++ [(k : Int)]) (Value.slice Ag zg.length cg).ownBlock Wb.heap.size] ?_ ?_ ?_
                · intro i hi hi9 v lo hi2 w1 w2 hlo hφ hg
                  obtain rfl | rfl | rfl | rfl | rfl | rfl | rfl | rfl | rfl : i = 0 ∨ i = 1 ∨ i = 2 ∨ i = 3 ∨ i = 4 ∨ i = 5 ∨ i = 6 ∨ i = 7 ∨ i = 8 := by omega
                  all_goals first | exact hφ | exact ⟨hφ.1, (hg.block lo (blk_lt hφ.2) (fun e => by have := (HGE.out _ e.symm).2; omega)).trans hφ.2⟩
                · refine ⟨fun u ρ w8 hb8 hd => ?_, fun u ρ w8 hb8 hd => ?_, fun u ρ w8 hb8 hd => ?_, fun u ρ w8 hb8 hd => ?_, fun u ρ w8 hb8 hd => ?_, fun u ρ w8 hb8 hd => ?_, fun u ρ w8 hb8 hd => ?_, fun u ρ w8 hb8 hd => ?_, fun u ρ w8 hb8 hd => ?_, fun u ρ w8 hb8 hd => ?_, trivial⟩
                  · simp only [growFr, List.getElem?_cons_succ, List.getElem?_cons_zero, Option.bind_some, Act.put, List.setIfInBounds_toArray, List.set_cons_succ, List.set_cons_zero]
                    go_wp2_with fail
                    exact ⟨rfl, _, rfl, relM_bel (by decide) (Bel.refl _), rfl⟩
                  · simp only [growFr, List.getElem?_cons_succ, List.getElem?_cons_zero, Option.bind_some, Act.put, List.setIfInBounds_toArray, List.set_cons_succ, List.set_cons_zero]
                    go_wp2_with fail
                    exact ⟨rfl, _, rfl, relM_bel (by decide) (Bel.refl _), rfl⟩
                  · have h1 : u 1 = _ := (hd 1 (by kernel_rfl)).1
                    have p2 : w8.cell? ⟨W.heap.size, 2, none⟩ = some (.int .i64 xn) := cellAt (HEW.out w8 (preM_gr hb8)) 2
                    simp only [growFr, List.getElem?_cons_succ, List.getElem?_cons_zero, Option.bind_some, Act.put, List.setIfInBounds_toArray, List.set_cons_succ, List.set_cons_zero, h1]
                    go_wp2_with fail
                    exact ⟨rfl, _, rfl, relM_bel (by decide) (Bel.refl _), rfl⟩
                  · simp only [growFr, List.getElem?_cons_succ, List.getElem?_cons_zero, Option.bind_some, Act.put, List.setIfInBounds_toArray, List.set_cons_succ, List.set_cons_zero]
                    go_wp2_with fail
                    exact ⟨rfl, _, rfl, relM_bel (by decide) (Bel.refl _), rfl⟩
                  · simp only [growFr, List.getElem?_cons_succ, List.getElem?_cons_zero, Option.bind_some, Act.put, List.setIfInBounds_toArray, List.set_cons_succ, List.set_cons_zero]
                    go_wp2_with fail
                    exact ⟨rfl, _, rfl, relM_bel (by decide) (Bel.refl _), rfl⟩
                  · have h4 : u 4 = _ := (hd 4 (by kernel_rfl)).1
                    have p2 : w8.cell? ⟨W.heap.size, 2, none⟩ = some (.int .i64 xn) := cellAt (HEW.out w8 (preM_gr hb8)) 2
                    simp only [growFr, List.getElem?_cons_succ, List.getElem?_cons_zero, Option.bind_some, Act.put, List.setIfInBounds_toArray, List.set_cons_succ, List.set_cons_zero, h4]
                    go_wp2_with fail
                    exact ⟨rfl, _, rfl, relM_bel (by decide) (Bel.refl _), rfl⟩
                  · have h3 : u 3 = _ := (hd 3 (by kernel_rfl)).1
                    have h5 : u 5 = _ := (hd 5 (by kernel_rfl)).1
                    have hr8 := HLG.out w8 ((preM_bel hb8 (.inr (by kernel_rfl))).block (by omega))
                    simp only [growFr, List.getElem?_cons_succ, List.getElem?_cons_zero, Option.bind_some, Act.put, List.setIfInBounds_toArray, List.set_cons_succ, List.set_cons_zero, h3, h5]
                    go_wp2_with fail
                    exact ⟨rfl, _, rfl, relM_bel (by decide) (Bel.refl _), rfl⟩
                  · simp only [growFr, List.getElem?_cons_succ, List.getElem?_cons_zero, Option.bind_some, Act.put, List.setIfInBounds_toArray, List.set_cons_succ, List.set_cons_zero]
                    go_wp2_with fail
                    exact ⟨rfl, _, rfl, relM_bel (by decide) (Bel.refl _), rfl⟩
                  · have h7 : u 7 = _ := (hd 7 (by kernel_rfl)).1
                    simp only [growFr, List.getElem?_cons_succ, List.getElem?_cons_zero, Option.bind_some, Act.put, List.setIfInBounds_toArray, List.set_cons_succ, List.set_cons_zero, h7]
                    go_wp2_with fail
                    exact ⟨rfl, _, rfl, relM_bel (by decide) ((Bel.refl _).alloc _), rfl, heap_alloc_new _ _⟩
                  · have h6 : u 6 = _ := (hd 6 (by kernel_rfl)).1
                    obtain ⟨⟨h8, h8b⟩, h8c⟩ := hd 8 (by kernel_rfl)
                    have hbw := preM_bel hb8 (.inl rfl)
                    have ho8 := HOI.out.kept (bel_none' hbw) (by cases (Value.slice Ag zg.length cg).ownBlock; exact .inl rfl; exact .inr (fun e => by cases e))
                    have hsz8 := hbw.size
                    simp only [growFr, List.getElem?_cons_succ, List.getElem?_cons_zero, Option.bind_some, Act.put, List.setIfInBounds_toArray, List.set_cons_succ, List.set_cons_zero, h6, h8]
                    refine wpList_append_own_at (w := w8) rfl _ _ 43 rfl (w.heap.size + 2) 3 i0 (.int .i64 0) 1 8 Try.underlying43 hi0 hz0 hz1 hz2 rfl (by decide) (.slice Ag zg.length cg) zg.length (zg.map (Value.int .i64)) rfl ho8.1 ⟨(ρ 8).1, 0, none⟩ 1 1 [.int .i64 k] rfl rfl (fun j u hj => by
                      rcases j with _ | j
                      · have : u = .int .i64 k := by simpa using hj.symm
                        rw [this, add_plain, cellAt h8b]
                        rfl
                      · simp at hj) (fun u hu => by obtain rfl : u = .int .i64 k := (by simpa using hu); rfl) (by unfold maxLen; omega) (by omega) (by omega) ?_
                    intro v' w9 hown' hgr hnil hloc
                    exact ⟨rfl, v', rfl, relM_row hgr, ho8.appended hown' (WalkArith.wf_i64 (by omega)), hloc.imp id (fun h => ⟨_, h, hsz8⟩)⟩
                · intro u ρ w8 hb8 hall
                  have h0 : u 0 = _ := (hall 0 (by omega)).1
                  have h2 : u 2 = _ := (hall 2 (by omega)).1
                  obtain ⟨h9, h9l⟩ := (hall 9 (by omega)).1
                  obtain ⟨vn, hvn⟩ : ∃ vn, u 9 = vn := ⟨_, rfl⟩
                  rw [hvn] at h9 h9l
                  have HVN := Lib.hid h9
                  have HVL := Lib.hid h9l
                  have HG8 := Lib.hid hb8
                  simp only [List.drop_succ_cons, List.drop_zero, growFr, List.getElem?_cons_succ, List.getElem?_cons_zero, Option.bind_some, Act.put, List.setIfInBounds_toArray, List.set_cons_succ, List.set_cons_zero, h0, h2, hvn]
                  clear hall h0 h2 h9 h9l hb8 hvn
                  refine wpList_mapUpdate_back_shuns (w0 := Wb) (v' := vn) (No := fun g => Z3 g ≠ 2) w8 rfl _ _ _ 63 rfl keyI Try.underlying63 (key_of IN.out) HOG.out (by unfold maxLen; omega) HOI.out HS4.out.s2 (fun g hg hh => hh (by
                    rcases HVL.out with e | ⟨g', e, hg'⟩
                    · exact HROW.out g (by rw [← e]; exact hg)
                    · rw [e] at hg
                      injection hg with hg
                      exact HZN.out g (by omega))) HBK.out rfl rfl rfl HG8.out HVN.out (by rw [List.length_append, List.length_singleton]; omega) HVL.out ?_
                  intro Wc hown2 hg2 hs2
                  have HS5 := Lib.hid (show StI l w.heap.size (k + 1) (k + 1) (k + 1) (k + 1) Wc Z3 (.slice A2 (k + 1) c2) (gs ++ [We.heap.size]) from (HS4.out.grp2 HROW.out HG8.out hg2 ⟨_, hown2, HNG.out.put (groups_map HOG.out) IN.out HVN.out (by simp) (by
                    rw [kindN_next, if_pos (by rw [HD.out]; exact ⟨K2.out, rfl⟩), ← HZG2.out]) (fun b hb => by
                    rw [kindN_next, if_neg (by rw [HD.out]; exact fun h => hb h.2.symm)])⟩ hs2).skip3 (by rw [HD.out]; show xk ≠ 3; rw [K2.out]; decide))
                  have HBC := Lib.hid ((HBB.out.grown HG8.out (fun q hq => (HGE.out q hq).1)).grown hg2 (fun q hq => by injection hq with hq; omega))
                  clear hown2 hg2 hs2
                  go_wp2
                  go_roundw
                  case rel => exact ⟨k + 1, _, Z3, A2, c2, _, rfl, by omega, by go_num, rfl, HS5.out, HBC.out⟩
                  case measure => simp [intOf]; omega
              · by_cases k3 : xk = 3
                · have n2 : (xk == 2) = false := by rw [k3]; rfl
                  have n3 : (xk == 3) = true := by rw [k3]; rfl
                  have K3 := Lib.hid k3
                  clear k3 k2
                  obtain ⟨Z3, hZ3⟩ : ∃ Z3 : Nat → Nat, (fun q => if q < Wb.heap.size then Z2 q else 3) = Z3 := ⟨_, rfl⟩
                  have HS4 := Lib.hid (show StI l w.heap.size (k + 1) k k (k + 1) Wb Z3 (.slice A2 (k + 1) c2) (gs ++ [We.heap.size]) from HS3.out.rezone (fun q hq => by rw [← hZ3]; exact if_pos hq))
                  have HZN := Lib.hid (show ∀ q, Wb.heap.size ≤ q → Z3 q = 3 from fun q hq => by rw [← hZ3]; exact if_neg (by omega))
                  have hlw := blk_lt HEBB.out
                  have hzw : Z3 W.heap.size = 0 := by
                    rw [← hZ3]
                    show (if W.heap.size < Wb.heap.size then Z2 W.heap.size else 3) = 0
                    rw [if_pos hlw]
                    exact HZW.out
                  obtain ⟨Dg, hog, hng⟩ := HS4.out.m3
                  obtain ⟨vg, zg, hlg, hatg, hoig, hzlg, hbackg, hshg⟩ := groups_at hog keyI Try.underlying63 zeroSI (by unfold maxLen; omega) (key_of IN.out)
                  have HZG2 := Lib.hid (hng.look IN.out hatg hoig)
                  have HROW := Lib.hid (show ∀ q, vg.ownBlock = some q → Z3 q = 3 from fun q hq => Decidable.not_not.1 (hshg (fun g => Z3 g ≠ 3) HS4.out.s3 q hq))
                  have HGE := Lib.hid (show ∀ q, vg.ownBlock = some q → w.heap.size ≤ q ∧ q < Wb.heap.size from fun q hq => by have := hoig.1.lt q hq; omega)
                  have HEW := Lib.hid (show ∀ w1 : World, Wb.grownBy w1 vg.ownBlock → w1.heap[W.heap.size]? = some (.cells #[.int .i64 xa, .int .i64 xk, .int .i64 xn, .slice Ac xcs.length cc] 27 (0, 0)) from fun w1 h => (h.block W.heap.size hlw (fun e => by have := HROW.out _ e.symm; rw [hzw] at this; cases this)).trans HEBB.out)
                  have HOG := Lib.hid hog
                  have HNG := Lib.hid hng
                  have HLG := Lib.hid hlg
                  have HOI := Lib.hid hoig
                  have HBK := Lib.hid hbackg
                  have hml := HS4.out.size
                  obtain ⟨Ag, cg, rfl, _⟩ := ints_rd hoig
                  clear hZ3 hog hng hlg hatg hoig hbackg hshg hzw
                  go_upto_region 31 with fail
                  clear q0 q1 q2
                  obtain ⟨i0, hi0, hz0, hz1, hz2⟩ := info_parts info_int9
                  refine wp_region_growM 10 9 (Value.slice Ag zg.length cg).ownBlock (by kernel_rfl) (by kernel_rfl) (by kernel_rfl) [SPred.val (.map (some (w.heap.size + 2))), SPred.val (.pointer (some ⟨W.heap.size, 2, none⟩)), SPred.val (.int .i64 xn), SPred.val (.map (some (w.heap.size + 2))), SPred.val (.pointer (some ⟨W.heap.size, 2, none⟩)), SPred.val (.int .i64 xn), SPred.val (.slice Ag zg.length cg), SPred.val (.int .i64 k), SPred.litI 3 (k : Int), SPred.grpI (w.heap.size + 3) 3 (zg ++ [(k : Int)]) (Value.slice Ag zg.length cg).ownBlock Wb.heap.size] ?_ ?_ ?_
                  · intro i hi hi9 v lo hi2 w1 w2 hlo hφ hg
                    obtain rfl | rfl | rfl | rfl | rfl | rfl | rfl | rfl | rfl : i = 0 ∨ i = 1 ∨ i = 2 ∨ i = 3 ∨ i = 4 ∨ i = 5 ∨ i = 6 ∨ i = 7 ∨ i = 8 := by omega
                    all_goals first | exact hφ | exact ⟨hφ.1, (hg.block lo (blk_lt hφ.2) (fun e => by have := (HGE.out _ e.symm).2; omega)).trans hφ.2⟩
                  · refine ⟨fun u ρ w8 hb8 hd => ?_, fun u ρ w8 hb8 hd => ?_, fun u ρ w8 hb8 hd => ?_, fun u ρ w8 hb8 hd => ?_, fun u ρ w8 hb8 hd => ?_, fun u ρ w8 hb8 hd => ?_, fun u ρ w8 hb8 hd => ?_, fun u ρ w8 hb8 hd => ?_, fun u ρ w8 hb8 hd => ?_, fun u ρ w8 hb8 hd => ?_, trivial⟩
                    · simp only [growFr, List.getElem?_cons_succ, List.getElem?_cons_zero, Option.bind_some, Act.put, List.setIfInBounds_toArray, List.set_cons_succ, List.set_cons_zero]
                      go_wp2_with fail
                      exact ⟨rfl, _, rfl, relM_bel (by decide) (Bel.refl _), rfl⟩
                    · simp only [growFr, List.getElem?_cons_succ, List.getElem?_cons_zero, Option.bind_some, Act.put, List.setIfInBounds_toArray, List.set_cons_succ, List.set_cons_zero]
                      go_wp2_with fail
                      exact ⟨rfl, _, rfl, relM_bel (by decide) (Bel.refl _), rfl⟩
                    · have h1 : u 1 = _ := (hd 1 (by kernel_rfl)).1
                      have p2 : w8.cell? ⟨W.heap.size, 2, none⟩ = some (.int .i64 xn) := cellAt (HEW.out w8 (preM_gr hb8)) 2
                      simp only [growFr, List.getElem?_cons_succ, List.getElem?_cons_zero, Option.bind_some, Act.put, List.setIfInBounds_toArray, List.set_cons_succ, List.set_cons_zero, h1]
                      go_wp2_with fail
                      exact ⟨rfl, _, rfl, relM_bel (by decide) (Bel.refl _), rfl⟩
                    · simp only [growFr, List.getElem?_cons_succ, List.getElem?_cons_zero, Option.bind_some, Act.put, List.setIfInBounds_toArray, List.set_cons_succ, List.set_cons_zero]
                      go_wp2_with fail
                      exact ⟨rfl, _, rfl, relM_bel (by decide) (Bel.refl _), rfl⟩
                    · simp only [growFr, List.getElem?_cons_succ, List.getElem?_cons_zero, Option.bind_some, Act.put, List.setIfInBounds_toArray, List.set_cons_succ, List.set_cons_zero]
                      go_wp2_with fail
                      exact ⟨rfl, _, rfl, relM_bel (by decide) (Bel.refl _), rfl⟩
                    · have h4 : u 4 = _ := (hd 4 (by kernel_rfl)).1
                      have p2 : w8.cell? ⟨W.heap.size, 2, none⟩ = some (.int .i64 xn) := cellAt (HEW.out w8 (preM_gr hb8)) 2
                      simp only [growFr, List.getElem?_cons_succ, List.getElem?_cons_zero, Option.bind_some, Act.put, List.setIfInBounds_toArray, List.set_cons_succ, List.set_cons_zero, h4]
                      go_wp2_with fail
                      exact ⟨rfl, _, rfl, relM_bel (by decide) (Bel.refl _), rfl⟩
                    · have h3 : u 3 = _ := (hd 3 (by kernel_rfl)).1
                      have h5 : u 5 = _ := (hd 5 (by kernel_rfl)).1
                      have hr8 := HLG.out w8 ((preM_bel hb8 (.inr (by kernel_rfl))).block (by omega))
                      simp only [growFr, List.getElem?_cons_succ, List.getElem?_cons_zero, Option.bind_some, Act.put, List.setIfInBounds_toArray, List.set_cons_succ, List.set_cons_zero, h3, h5]
                      go_wp2_with fail
                      exact ⟨rfl, _, rfl, relM_bel (by decide) (Bel.refl _), rfl⟩
                    · simp only [growFr, List.getElem?_cons_succ, List.getElem?_cons_zero, Option.bind_some, Act.put, List.setIfInBounds_toArray, List.set_cons_succ, List.set_cons_zero]
                      go_wp2_with fail
                      exact ⟨rfl, _, rfl, relM_bel (by decide) (Bel.refl _), rfl⟩
                    · have h7 : u 7 = _ := (hd 7 (by kernel_rfl)).1
                      simp only [growFr, List.getElem?_cons_succ, List.getElem?_cons_zero, Option.bind_some, Act.put, List.setIfInBounds_toArray, List.set_cons_succ, List.set_cons_zero, h7]
                      go_wp2_with fail
                      exact ⟨rfl, _, rfl, relM_bel (by decide) ((Bel.refl _).alloc _), rfl, heap_alloc_new _ _⟩
                    · have h6 : u 6 = _ := (hd 6 (by kernel_rfl)).1
                      obtain ⟨⟨h8, h8b⟩, h8c⟩ := hd 8 (by kernel_rfl)
                      have hbw := preM_bel hb8 (.inl rfl)
                      have ho8 := HOI.out.kept (bel_none' hbw) (by cases (Value.slice Ag zg.length cg).ownBlock; exact .inl rfl; exact .inr (fun e => by cases e))
                      have hsz8 := hbw.size
                      simp only [growFr, List.getElem?_cons_succ, List.getElem?_cons_zero, Option.bind_some, Act.put, List.setIfInBounds_toArray, List.set_cons_succ, List.set_cons_zero, h6, h8]
                      refine wpList_append_own_at (w := w8) rfl _ _ 43 rfl (w.heap.size + 3) 3 i0 (.int .i64 0) 1 8 Try.underlying43 hi0 hz0 hz1 hz2 rfl (by decide) (.slice Ag zg.length cg) zg.length (zg.map (Value.int .i64)) rfl ho8.1 ⟨(ρ 8).1, 0, none⟩ 1 1 [.int .i64 k] rfl rfl (fun j u hj => by
                        rcases j with _ | j
                        · have : u = .int .i64 k := by simpa using hj.symm
                          rw [this, add_plain, cellAt h8b]
                          rfl
                        · simp at hj) (fun u hu => by obtain rfl : u = .int .i64 k := (by simpa using hu); rfl) (by unfold maxLen; omega) (by omega) (by omega) ?_
                      intro v' w9 hown' hgr hnil hloc
                      exact ⟨rfl, v', rfl, relM_row hgr, ho8.appended hown' (WalkArith.wf_i64 (by omega)), hloc.imp id (fun h => ⟨_, h, hsz8⟩)⟩
                  · intro u ρ w8 hb8 hall
                    have h0 : u 0 = _ := (hall 0 (by omega)).1
                    have h2 : u 2 = _ := (hall 2 (by omega)).1
                    obtain ⟨h9, h9l⟩ := (hall 9 (by omega)).1
                    obtain ⟨vn, hvn⟩ : ∃ vn, u 9 = vn := ⟨_, rfl⟩
                    rw [hvn] at h9 h9l
                    have HVN := Lib.hid h9
                    have HVL := Lib.hid h9l
                    have HG8 := Lib.hid hb8
                    simp only [List.drop_succ_cons, List.drop_zero, growFr, List.getElem?_cons_succ, List.getElem?_cons_zero, Option.bind_some, Act.put, List.setIfInBounds_toArray, List.set_cons_succ, List.set_cons_zero, h0, h2, hvn]
                    clear hall h0 h2 h9 h9l hb8 hvn
                    refine wpList_mapUpdate_back_shuns (w0 := Wb) (v' := vn) (No := fun g => Z3 g ≠ 3) w8 rfl _ _ _ 63 rfl keyI Try.underlying63 (key_of IN.out) HOG.out (by unfold maxLen; omega) HOI.out HS4.out.s3 (fun g hg hh => hh (by
                      rcases HVL.out with e | ⟨g', e, hg'⟩
                      · exact HROW.out g (by rw [← e]; exact hg)
                      · rw [e] at hg
                        injection hg with hg
                        exact HZN.out g (by omega))) HBK.out rfl rfl rfl HG8.out HVN.out (by rw [List.length_append, List.length_singleton]; omega) HVL.out ?_
                    intro Wc hown2 hg2 hs2
                    have HS5 := Lib.hid (show StI l w.heap.size (k + 1) (k + 1) (k + 1) (k + 1) Wc Z3 (.slice A2 (k + 1) c2) (gs ++ [We.heap.size]) from (HS4.out.grp3 HROW.out HG8.out hg2 ⟨_, hown2, HNG.out.put (groups_map HOG.out) IN.out HVN.out (by simp) (by
                      rw [kindN_next, if_pos (by rw [HD.out]; exact ⟨K3.out, rfl⟩), ← HZG2.out]) (fun b hb => by
                      rw [kindN_next, if_neg (by rw [HD.out]; exact fun h => hb h.2.symm)])⟩ hs2).skip2 (by rw [HD.out]; show xk ≠ 2; rw [K3.out]; decide))
                    have HBC := Lib.hid ((HBB.out.grown HG8.out (fun q hq => (HGE.out q hq).1)).grown hg2 (fun q hq => by injection hq with hq; omega))
                    clear hown2 hg2 hs2
                    go_wp2
                    go_roundw
                    case rel => exact ⟨k + 1, _, Z3, A2, c2, _, rfl, by omega, by go_num, rfl, HS5.out, HBC.out⟩
                    case measure => simp [intOf]; omega
                · have n2 : (xk == 2) = false := beq_eq_false_iff_ne.2 k2
                  have n3 : (xk == 3) = false := beq_eq_false_iff_ne.2 k3
                  have HS5 := Lib.hid ((HS3.out.skip2 (by rw [HD.out]; exact k2)).skip3 (by rw [HD.out]; exact k3))
                  clear k2 k3
                  go_wp2
                  go_roundw
                  case rel => exact ⟨k + 1, _, Z2, A2, c2, _, rfl, by omega, by go_num, rfl, HS5.out, HBB.out⟩
                  case measure => simp [intOf]; omega
      | some p0 =>
        obtain ⟨o1, _, _⟩ := ownE_lt hown
        have HOW := Lib.hid (show (ownE l xa k).toList = [p0] by rw [hown]; rfl)
        have hc0 : cown = (p0 : Int) + 1 := HCO.out.trans (ownN_some hown)
        clear hown
        subst hc0
        have hcd : decide ((0 : Int) < (p0 : Int) + 1) = true := decide_eq_true (by omega)
        have hcw : IntKind.i64.wrap ((p0 : Int) + 1 - 1) = (p0 : Int) := by rw [IntKind.wrap_i64]; omega
        have hpk : (p0 : Int) < (k : Int) := by omega
        obtain ⟨gp, hgp⟩ : ∃ g, gs[p0]? = some g := ⟨_, List.getElem?_eq_getElem (by rw [HS.out.len]; exact o1)⟩
        obtain ⟨bd0, rfl, hcp⟩ := (HRO.out.to HB1.out).ptr hgp
        obtain ⟨vp, htp, _, _⟩ := HSE.out.tabs p0 gp hgp
        have Q := joined_c We W1 We.heap.size gp w.heap.size _ vp [] (clkE l p0) HT0.out htp (mid_take (MidE.nil l k) o1 (by omega)) HB1.out
        have HQ := Lib.hid Q
        clear hgp htp Q
        go_wp2_with fail
        refine HQ.out.mono ?_
        rintro e Wx ⟨vx, rfl, hTx, hbx⟩
        have HTX := Lib.hid (show TabI Wx We.heap.size We.heap.size vx ([p0].foldl (fun t p => joinT t (clkE l p)) []) from hTx)
        have HBX := Lib.hid hbx
        have HP0 := Lib.hid (show ∀ q ∈ [p0], q < k from fun q hq => by obtain rfl : q = p0 := (by simpa using hq); exact o1)
        clear HQ hTx hbx hlo r0 r1 r2 hcp hcown
        go_upto_region 12 with fail
        have HLR := Lib.hid (HL2.out Wx (HBX.out.block (by rw [HEZ.out]; have := HS.out.size; omega)))
        have hlr := HLR.out
        have hkb := (HBX.out.block HEL.out).trans HNE.out
        have q0 : Wx.cell? ⟨W.heap.size, 0, none⟩ = some (.int .i64 xa) := cellAt hkb 0
        have q1 : Wx.cell? ⟨W.heap.size, 1, none⟩ = some (.int .i64 xk) := cellAt hkb 1
        have q2 : Wx.cell? ⟨W.heap.size, 2, none⟩ = some (.int .i64 xn) := cellAt hkb 2
        clear hkb
        go_wp2
        clear q0 q1 q2 hlr HLR
        go_loopw [9, 46] (fun v9 v46 wr => ∃ (i : Nat) (Wi : World) (vt : Value), Wi = wr ∧ i ≤ zsB.length ∧ v46 = .int .i64 i ∧ v9 = .pointer (some ⟨We.heap.size, 0, none⟩) ∧ Hid (TabI Wi We.heap.size We.heap.size vt (([p0] ++ (kindE l 2 xa k).take i).foldl (fun t p => joinT t (clkE l p)) [])) ∧ Bel We Wi) (fun _ v46 _ => zsB.length - (intOf v46).toNat)
        case atStart => exact ⟨0, _, vx, rfl, Nat.zero_le _, rfl, rfl, by rw [List.take_zero, List.append_nil]; exact HTX.out, HBX.out⟩
        case round =>
          obtain ⟨i, Wi, vtB, rfl, hi, rfl, rfl, HTB, hbi⟩ := hrel
          by_cases hli : i < zsB.length
          · obtain ⟨ads, rfl, hcs⟩ := (HRZB.out.to hbi).int hli
            obtain ⟨p, hp1, hp2, hp3⟩ := kindN_at HZB.out hli
            rw [hp2] at hcs
            obtain ⟨gp, hgp⟩ : ∃ g, gs[p]? = some g := ⟨_, List.getElem?_eq_getElem (by rw [HS.out.len]; exact hp3)⟩
            obtain ⟨bd, eAO, hcp⟩ := (HRO.out.to hbi).ptr hgp
            first | subst eAO | (injection eAO with eAO; subst eAO)
            obtain ⟨vp, htp, _, _⟩ := HSE.out.tabs p gp hgp
            have Q := joined_c We Wi We.heap.size gp w.heap.size vtB vp _ (clkE l p) HTB.out htp (mid_take (mid_fold l _ [] (MidE.nil l k) (fun q hq => by
              rcases List.mem_append.1 hq with hq | hq
              · exact HP0.out q hq
              · exact kindE_lt (List.mem_of_mem_take hq))) hp3 (by omega)) hbi
            rw [← fold_more [p0] (kindE l 2 xa k) hp1] at Q
            have HQ := Lib.hid Q
            have hpl : (p : Int) < (k : Int) := by omega
            clear hp1 hp2 hgp htp Q
            go_wp2_with fail
            refine HQ.out.mono ?_
            rintro e W3 ⟨v3, rfl, hT3, hb3⟩
            have HT3 := Lib.hid hT3
            clear HQ hT3 hcs hcp
            go_wp2
            go_roundw
            case rel => exact ⟨i + 1, _, v3, rfl, by omega, by go_num, rfl, HT3, hb3⟩
            case measure => simp [intOf]; omega
          · obtain rfl : i = zsB.length := by omega
            rw [kindN_all HZB.out] at HTB
            have HBB := Lib.hid hbi
            have HPB := Lib.hid (show ∀ q ∈ [p0] ++ kindE l 2 xa k, q < k from fun q hq => by
              rcases List.mem_append.1 hq with hq | hq
              · exact HP0.out q hq
              · exact kindE_lt hq)
            clear hbi hli hi
            have hkb := (HBB.out.block HEL.out).trans HNE.out
            have q0 : Wi.cell? ⟨W.heap.size, 0, none⟩ = some (.int .i64 xa) := cellAt hkb 0
            have q1 : Wi.cell? ⟨W.heap.size, 1, none⟩ = some (.int .i64 xk) := cellAt hkb 1
            have q2 : Wi.cell? ⟨W.heap.size, 2, none⟩ = some (.int .i64 xn) := cellAt hkb 2
            clear hkb
            by_cases k4 : xk = 4
            · have n4 : (xk == 4) = true := by rw [k4]; rfl
              have K4 := Lib.hid k4
              clear k4 q0 q1 q2
              have HLR := Lib.hid (HL3.out Wi (HBB.out.block (by rw [HEZ.out]; have := HS.out.size; omega)))
              have hlr := HLR.out
              have hkb := (HBB.out.block HEL.out).trans HNE.out
              have q0 : Wi.cell? ⟨W.heap.size, 0, none⟩ = some (.int .i64 xa) := cellAt hkb 0
              have q1 : Wi.cell? ⟨W.heap.size, 1, none⟩ = some (.int .i64 xk) := cellAt hkb 1
              have q2 : Wi.cell? ⟨W.heap.size, 2, none⟩ = some (.int .i64 xn) := cellAt hkb 2
              clear hkb
              go_wp2
              clear q0 q1 q2 hlr HLR
              go_loopw [9, 65] (fun v9 v46 wr => ∃ (i : Nat) (Wi : World) (vt : Value), Wi = wr ∧ i ≤ zsC.length ∧ v46 = .int .i64 i ∧ v9 = .pointer (some ⟨We.heap.size, 0, none⟩) ∧ Hid (TabI Wi We.heap.size We.heap.size vt ((([p0] ++ kindE l 2 xa k) ++ (kindE l 3 xn k).take i).foldl (fun t p => joinT t (clkE l p)) [])) ∧ Bel We Wi) (fun _ v46 _ => zsC.length - (intOf v46).toNat)
              case atStart => exact ⟨0, _, vtB, rfl, Nat.zero_le _, rfl, rfl, by rw [List.take_zero, List.append_nil]; exact HTB.out, HBB.out⟩
              case round =>
                obtain ⟨i, Wi, vtC, rfl, hi, rfl, rfl, HTC, hbi⟩ := hrel
                by_cases hli : i < zsC.length
                · obtain ⟨ads, rfl, hcs⟩ := (HRZC.out.to hbi).int hli
                  obtain ⟨p, hp1, hp2, hp3⟩ := kindN_at HZC.out hli
                  rw [hp2] at hcs
                  obtain ⟨gp, hgp⟩ : ∃ g, gs[p]? = some g := ⟨_, List.getElem?_eq_getElem (by rw [HS.out.len]; exact hp3)⟩
                  obtain ⟨bd, eAO, hcp⟩ := (HRO.out.to hbi).ptr hgp
                  first | subst eAO | (injection eAO with eAO; subst eAO)
                  obtain ⟨vp, htp, _, _⟩ := HSE.out.tabs p gp hgp
                  have Q := joined_c We Wi We.heap.size gp w.heap.size vtC vp _ (clkE l p) HTC.out htp (mid_take (mid_fold l _ [] (MidE.nil l k) (fun q hq => by
                    rcases List.mem_append.1 hq with hq | hq
                    · exact HPB.out q hq
                    · exact kindE_lt (List.mem_of_mem_take hq))) hp3 (by omega)) hbi
                  rw [← fold_more ([p0] ++ kindE l 2 xa k) (kindE l 3 xn k) hp1] at Q
                  have HQ := Lib.hid Q
                  have hpl : (p : Int) < (k : Int) := by omega
                  clear hp1 hp2 hgp htp Q
                  go_wp2_with fail
                  refine HQ.out.mono ?_
                  rintro e W3 ⟨v3, rfl, hT3, hb3⟩
                  have HT3 := Lib.hid hT3
                  clear HQ hT3 hcs hcp
                  go_wp2
                  go_roundw
                  case rel => exact ⟨i + 1, _, v3, rfl, by omega, by go_num, rfl, HT3, hb3⟩
                  case measure => simp [intOf]; omega
                · obtain rfl : i = zsC.length := by omega
                  rw [kindN_all HZC.out] at HTC
                  have HBC := Lib.hid hbi
                  have HPC := Lib.hid (show ∀ q ∈ ([p0] ++ kindE l 2 xa k) ++ kindE l 3 xn k, q < k from fun q hq => by
                    rcases List.mem_append.1 hq with hq | hq
                    · exact HPB.out q hq
                    · exact kindE_lt hq)
                  clear hbi hli hi
                  have HPR := Lib.hid (show (([p0] ++ kindE l 2 xa k) ++ kindE l 3 xn k) = predsE l k by unfold predsE; rw [HD.out]; dsimp only; rw [HOW.out]; rw [if_pos K4.out])
                  have HMID := Lib.hid (mid_fold l (([p0] ++ kindE l 2 xa k) ++ kindE l 3 xn k) [] (MidE.nil l k) HPC.out)
                  obtain ⟨J, hJ⟩ : ∃ J, (([p0] ++ kindE l 2 xa k) ++ kindE l 3 xn k).foldl (fun t p => joinT t (clkE l p)) [] = J := ⟨_, rfl⟩
                  have HCE := Lib.hid (show clkE l k = putT cmpI J xa (valT J xa + 1) by rw [clkE_put, HACT.out, ← HPR.out, hJ])
                  rw [hJ] at HMID HTC
                  have hvl : 0 ≤ valT J xa ∧ valT J xa ≤ 24 := by
                    have h1 := clkE_val_le l k xa
                    have h2 := (HMID.out.ok.val xa).1
                    unfold vE at h1
                    rw [HCE.out, valT_put HMID.out.ok.ok, if_pos rfl] at h1
                    omega
                  have Q1 := get_ii HTC.out HMID.out.ok.ok xa
                  rw [opt_val] at Q1
                  have HQ1 := Lib.hid Q1
                  obtain ⟨nn, hnn⟩ : ∃ nn, valT J xa = nn := ⟨_, rfl⟩
                  rw [hnn] at HQ1 HCE hvl
                  have hlJ := HMID.out.len
                  have hkb := (HBC.out.block HEL.out).trans HNE.out
                  have q0 : Wi.cell? ⟨W.heap.size, 0, none⟩ = some (.int .i64 xa) := cellAt hkb 0
                  have q1 : Wi.cell? ⟨W.heap.size, 1, none⟩ = some (.int .i64 xk) := cellAt hkb 1
                  have q2 : Wi.cell? ⟨W.heap.size, 2, none⟩ = some (.int .i64 xn) := cellAt hkb 2
                  clear hkb
                  have HPU := Lib.hid (fun W' (h : Bel Wi W') => put_ii (HTC.out.to h) HMID.out.ok.ok (Nat.le_trans HBC.out.size h.size) (by omega) xa (nn + 1))
                  have HLOW := Lib.hid (And.intro HTC.out.low HTC.out.ge)
                  clear hJ hnn Q1 hlJ
                  go_wp2_with fail
                  refine HQ1.out.mono ?_
                  rintro e Wg ⟨rfl, hbg⟩
                  have HPG := Lib.hid (HPU.out Wg hbg)
                  have HBG := Lib.hid (HBC.out.trans hbg)
                  clear q0 q1 q2 HQ1 HPU hbg
                  have hkb := (HBG.out.block HEL.out).trans HNE.out
                  have q0 : Wg.cell? ⟨W.heap.size, 0, none⟩ = some (.int .i64 xa) := cellAt hkb 0
                  have q1 : Wg.cell? ⟨W.heap.size, 1, none⟩ = some (.int .i64 xk) := cellAt hkb 1
                  have q2 : Wg.cell? ⟨W.heap.size, 2, none⟩ = some (.int .i64 xn) := cellAt hkb 2
                  clear hkb
                  have hwn : IntKind.i64.wrap (nn + 1) = nn + 1 := by rw [IntKind.wrap_i64]; omega
                  go_wp2_with fail
                  refine HPG.out.mono ?_
                  rintro e Wp ⟨vp, rfl, hTp, hSp⟩
                  rw [← HCE.out] at hTp
                  have hbp := hSp.bel HBG.out HLOW.out.1 HLOW.out.2
                  have HBP := Lib.hid hbp
                  have HTP := Lib.hid hTp
                  clear q0 q1 q2 HPG hSp hTp
                  obtain ⟨Z2, hZ2⟩ : ∃ Z2 : Nat → Nat, (fun q => if q < Wp.heap.size then Z1 q else 1) = Z2 := ⟨_, rfl⟩
                  have HSP := Lib.hid (show StI l w.heap.size k k k k Wp Z2 (.slice (some bd0) k cO) gs from (HSE.out.bel hbp).rezone (fun q hq => by rw [← hZ2]; exact if_pos hq))
                  have HZT := Lib.hid (show Z2 We.heap.size = 0 ∧ (∀ q, vp.ownBlock = some q → Z2 q = 0) from by
                    have hlt := HTP.out.lt
                    constructor
                    · rw [← hZ2]
                      show (if We.heap.size < Wp.heap.size then Z1 We.heap.size else 1) = 0
                      rw [if_pos hlt]
                      exact HZ1.out _ (by have := HEZ.out; omega)
                    · intro q hq
                      have h1 := HTP.out.ge q hq
                      have h2 := (World.ownsRow.lt HTP.out.row q hq).2
                      rw [← hZ2]
                      show (if q < Wp.heap.size then Z1 q else 1) = 0
                      rw [if_pos h2]
                      exact HZ1.out _ (by have := HEZ.out; omega))
                  have HZW := Lib.hid (show Z2 W.heap.size = 0 from by
                    have hlt := HTP.out.lt
                    rw [← hZ2]
                    show (if W.heap.size < Wp.heap.size then Z1 W.heap.size else 1) = 0
                    rw [if_pos (by have := HEZ.out; omega)]
                    exact HZ1.out _ (Nat.le_refl _))
                  have HZG := Lib.hid (show ∀ q, Wp.heap.size ≤ q → Z2 q = 1 from fun q hq => by rw [← hZ2]; exact if_neg (by omega))
                  have HGL := Lib.hid HS.out.len
                  have HBWP := Lib.hid (HBWE.out.trans hbp)
                  clear hZ2 hbp
                  have hkb := (HBP.out.block HEL.out).trans HNE.out
                  have q0 : Wp.cell? ⟨W.heap.size, 0, none⟩ = some (.int .i64 xa) := cellAt hkb 0
                  have q1 : Wp.cell? ⟨W.heap.size, 1, none⟩ = some (.int .i64 xk) := cellAt hkb 1
                  have q2 : Wp.cell? ⟨W.heap.size, 2, none⟩ = some (.int .i64 xn) := cellAt hkb 2
                  clear hkb
                  go_upto_region 26 with (at_builtin; go_loud (refine wp_append1 ptrT (w0 := w) 47 56 (.pointer none) 8 rfl _ _ rfl Try.underlying47 info_ptr rfl (fun _ => False) (.slice (some bd0) k cO) gs We.heap.size [.pointer (some ⟨We.heap.size, 0, none⟩)] rfl rfl HSP.out.out rfl HBWP.out (by rw [HGL.out]; unfold maxLen; omega) (by rw [HGL.out]; omega) ?_); go_loud (rintro v2 Wa ho2 hb2 hg2 hf2; obtain ⟨A2, c2, hv2⟩ := ho2.form; rw [List.length_append, HGL.out] at hv2; subst hv2))
                  have HS2 := Lib.hid (show StI l w.heap.size k k k (k + 1) Wa Z2 (.slice A2 (k + 1) c2) (gs ++ [We.heap.size]) from HSP.out.push (Tab.lower HTP.out HBWE.out.size) HZT.out.1 HZT.out.2 hg2 ho2 (by
                    rcases hf2 with h | ⟨b, h, h'⟩
                    · exact .inl h
                    · exact .inr ⟨b, h, h'⟩) HZG.out)
                  have hea : Wa.heap[W.heap.size]? = some (.cells #[.int .i64 xa, .int .i64 xk, .int .i64 xn, .slice Ac xcs.length cc] 27 (0, 0)) :=
                    (hg2.block W.heap.size (by have := HBP.out.size; have := HEZ.out; omega) (fun e => by have := HS.out.out.lt e.symm; omega)).trans ((HBP.out.block HEL.out).trans HNE.out)
                  have HEA := Lib.hid hea
                  have HBA := Lib.hid hb2
                  clear q0 q1 q2 ho2 hb2 hg2 hf2 HSP HTP HZT HZG hea
                  obtain ⟨D1, ho1, hn1⟩ := HS2.out.m1
                  have HN1 := Lib.hid hn1
                  have q0 : Wa.cell? ⟨W.heap.size, 0, none⟩ = some (.int .i64 xa) := cellAt HEA.out 0
                  have q1 : Wa.cell? ⟨W.heap.size, 1, none⟩ = some (.int .i64 xk) := cellAt HEA.out 1
                  have hwk : IntKind.i64.wrap ((k : Int) + 1) = (k : Int) + 1 := by rw [IntKind.wrap_i64]; omega
                  clear hn1
                  go_upto_region 27 with (at_mapUpdate; refine wpList_mapUpdate_own _ rfl _ _ _ 62 rfl 3 3 keyI Try.underlying62 _ w.heap.size k _ rfl ho1 (by unfold maxLen; omega) _ _ _ rfl rfl (key_of IA.out) _ [] (plainElem_int Try.underlying3 (WalkArith.wf_i64 (by omega))) ?_; intro Wb hown1 hgb)
                  have HS3 := Lib.hid (show StI l w.heap.size (k + 1) k k (k + 1) Wb Z2 (.slice A2 (k + 1) c2) (gs ++ [We.heap.size]) from HS2.out.own hgb ⟨_, hown1, by
                    have := HN1.out.put (g := fun a => ownN l a (k + 1)) (num_map ho1) (a := xa) (fun b hb => ownN_other l k (by rw [HACT.out]; exact hb))
                    have h9 : ownN l xa (k + 1) = (k : Int) + 1 := by rw [← HACT.out]; exact ownN_here l k
                    rw [h9] at this
                    exact this⟩)
                  have heb : Wb.heap[W.heap.size]? = some (.cells #[.int .i64 xa, .int .i64 xk, .int .i64 xn, .slice Ac xcs.length cc] 27 (0, 0)) :=
                    (hgb.block W.heap.size (blk_lt HEA.out) (fun e => by injection e with e; have := HS.out.size; omega)).trans HEA.out
                  have HEBB := Lib.hid heb
                  have HBB := Lib.hid (HBA.out.grown hgb (fun q hq => by injection hq with hq; omega))
                  clear hown1 hgb heb HEA HBA q0 q1 ho1 HN1 HS2
                  have q0 : Wb.cell? ⟨W.heap.size, 0, none⟩ = some (.int .i64 xa) := cellAt HEBB.out 0
                  have q1 : Wb.cell? ⟨W.heap.size, 1, none⟩ = some (.int .i64 xk) := cellAt HEBB.out 1
                  have q2 : Wb.cell? ⟨W.heap.size, 2, none⟩ = some (.int .i64 xn) := cellAt HEBB.out 2
                  have n2 : (xk == 2) = false := by rw [K4.out]; rfl
                  have n3 : (xk == 3) = false := by rw [K4.out]; rfl
                  have HS5 := Lib.hid ((HS3.out.skip2 (by rw [HD.out]; show xk ≠ 2; rw [K4.out]; decide)).skip3 (by rw [HD.out]; show xk ≠ 3; rw [K4.out]; decide))
                  go_wp2
                  go_roundw
                  case rel => exact ⟨k + 1, _, Z2, A2, c2, _, rfl, by omega, by go_num, rfl, HS5.out, HBB.out⟩
                  case measure => simp [intOf]; omega
            · have n4 : (xk == 4) = false := beq_eq_false_iff_ne.2 k4
              clear q0 q1 q2
              have HPR := Lib.hid (show ([p0] ++ kindE l 2 xa k) = predsE l k by unfold predsE; rw [HD.out]; dsimp only; rw [HOW.out]; rw [if_neg k4, List.append_nil])
              have HMID := Lib.hid (mid_fold l ([p0] ++ kindE l 2 xa k) [] (MidE.nil l k) HPB.out)
              obtain ⟨J, hJ⟩ : ∃ J, ([p0] ++ kindE l 2 xa k).foldl (fun t p => joinT t (clkE l p)) [] = J := ⟨_, rfl⟩
              have HCE := Lib.hid (show clkE l k = putT cmpI J xa (valT J xa + 1) by rw [clkE_put, HACT.out, ← HPR.out, hJ])
              rw [hJ] at HMID HTB
              have hvl : 0 ≤ valT J xa ∧ valT J xa ≤ 24 := by
                have h1 := clkE_val_le l k xa
                have h2 := (HMID.out.ok.val xa).1
                unfold vE at h1
                rw [HCE.out, valT_put HMID.out.ok.ok, if_pos rfl] at h1
                omega
              have Q1 := get_ii HTB.out HMID.out.ok.ok xa
              rw [opt_val] at Q1
              have HQ1 := Lib.hid Q1
              obtain ⟨nn, hnn⟩ : ∃ nn, valT J xa = nn := ⟨_, rfl⟩
              rw [hnn] at HQ1 HCE hvl
              have hlJ := HMID.out.len
              have hkb := (HBB.out.block HEL.out).trans HNE.out
              have q0 : Wi.cell? ⟨W.heap.size, 0, none⟩ = some (.int .i64 xa) := cellAt hkb 0
              have q1 : Wi.cell? ⟨W.heap.size, 1, none⟩ = some (.int .i64 xk) := cellAt hkb 1
              have q2 : Wi.cell? ⟨W.heap.size, 2, none⟩ = some (.int .i64 xn) := cellAt hkb 2
              clear hkb
              have HPU := Lib.hid (fun W' (h : Bel Wi W') => put_ii (HTB.out.to h) HMID.out.ok.ok (Nat.le_trans HBB.out.size h.size) (by omega) xa (nn + 1))
              have HLOW := Lib.hid (And.intro HTB.out.low HTB.out.ge)
              clear hJ hnn Q1 hlJ
              go_wp2_with fail
              refine HQ1.out.mono ?_
              rintro e Wg ⟨rfl, hbg⟩
              have HPG := Lib.hid (HPU.out Wg hbg)
              have HBG := Lib.hid (HBB.out.trans hbg)
              clear q0 q1 q2 HQ1 HPU hbg
              have hkb := (HBG.out.block HEL.out).trans HNE.out
              have q0 : Wg.cell? ⟨W.heap.size, 0, none⟩ = some (.int .i64 xa) := cellAt hkb 0
              have q1 : Wg.cell? ⟨W.heap.size, 1, none⟩ = some (.int .i64 xk) := cellAt hkb 1
              have q2 : Wg.cell? ⟨W.heap.size, 2, none⟩ = some (.int .i64 xn) := cellAt hkb 2
              clear hkb
              have hwn : IntKind.i64.wrap (nn + 1) = nn + 1 := by rw [IntKind.wrap_i64]; omega
              go_wp2_with fail
              refine HPG.out.mono ?_
              rintro e Wp ⟨vp, rfl, hTp, hSp⟩
              rw [← HCE.out] at hTp
              have hbp := hSp.bel HBG.out HLOW.out.1 HLOW.out.2
              have HBP := Lib.hid hbp
              have HTP := Lib.hid hTp
              clear q0 q1 q2 HPG hSp hTp
              obtain ⟨Z2, hZ2⟩ : ∃ Z2 : Nat → Nat, (fun q => if q < Wp.heap.size then Z1 q else 1) = Z2 := ⟨_, rfl⟩
              have HSP := Lib.hid (show StI l w.heap.size k k k k Wp Z2 (.slice (some bd0) k cO) gs from (HSE.out.bel hbp).rezone (fun q hq => by rw [← hZ2]; exact if_pos hq))
              have HZT := Lib.hid (show Z2 We.heap.size = 0 ∧ (∀ q, vp.ownBlock = some q → Z2 q = 0) from by
                have hlt := HTP.out.lt
                constructor
                · rw [← hZ2]
                  show (if We.heap.size < Wp.heap.size then Z1 We.heap.size else 1) = 0
                  rw [if_pos hlt]
                  exact HZ1.out _ (by have := HEZ.out; omega)
                · intro q hq
                  have h1 := HTP.out.ge q hq
                  have h2 := (World.ownsRow.lt HTP.out.row q hq).2
                  rw [← hZ2]
                  show (if q < Wp.heap.size then Z1 q else 1) = 0
                  rw [if_pos h2]
                  exact HZ1.out _ (by have := HEZ.out; omega))
              have HZW := Lib.hid (show Z2 W.heap.size = 0 from by
                have hlt := HTP.out.lt
                rw [← hZ2]
                show (if W.heap.size < Wp.heap.size then Z1 W.heap.size else 1) = 0
                rw [if_pos (by have := HEZ.out; omega)]
                exact HZ1.out _ (Nat.le_refl _))
              have HZG := Lib.hid (show ∀ q, Wp.heap.size ≤ q → Z2 q = 1 from fun q hq => by rw [← hZ2]; exact if_neg (by omega))
              have HGL := Lib.hid HS.out.len
              have HBWP := Lib.hid (HBWE.out.trans hbp)
              clear hZ2 hbp
              have hkb := (HBP.out.block HEL.out).trans HNE.out
              have q0 : Wp.cell? ⟨W.heap.size, 0, none⟩ = some (.int .i64 xa) := cellAt hkb 0
              have q1 : Wp.cell? ⟨W.heap.size, 1, none⟩ = some (.int .i64 xk) := cellAt hkb 1
              have q2 : Wp.cell? ⟨W.heap.size, 2, none⟩ = some (.int .i64 xn) := cellAt hkb 2
              clear hkb
              go_upto_region 26 with (at_builtin; go_loud (refine wp_append1 ptrT (w0 := w) 47 56 (.pointer none) 8 rfl _ _ rfl Try.underlying47 info_ptr rfl (fun _ => False) (.slice (some bd0) k cO) gs We.heap.size [.pointer (some ⟨We.heap.size, 0, none⟩)] rfl rfl HSP.out.out rfl HBWP.out (by rw [HGL.out]; unfold maxLen; omega) (by rw [HGL.out]; omega) ?_); go_loud (rintro v2 Wa ho2 hb2 hg2 hf2; obtain ⟨A2, c2, hv2⟩ := ho2.form; rw [List.length_append, HGL.out] at hv2; subst hv2))
              have HS2 := Lib.hid (show StI l w.heap.size k k k (k + 1) Wa Z2 (.slice A2 (k + 1) c2) (gs ++ [We.heap.size]) from HSP.out.push (Tab.lower HTP.out HBWE.out.size) HZT.out.1 HZT.out.2 hg2 ho2 (by
                rcases hf2 with h | ⟨b, h, h'⟩
                · exact .inl h
                · exact .inr ⟨b, h, h'⟩) HZG.out)
              have hea : Wa.heap[W.heap.size]? = some (.cells #[.int .i64 xa, .int .i64 xk, .int .i64 xn, .slice Ac xcs.length cc] 27 (0, 0)) :=
                (hg2.block W.heap.size (by have := HBP.out.size; have := HEZ.out; omega) (fun e => by have := HS.out.out.lt e.symm; omega)).trans ((HBP.out.block HEL.out).trans HNE.out)
              have HEA := Lib.hid hea
              have HBA := Lib.hid hb2
              clear q0 q1 q2 ho2 hb2 hg2 hf2 HSP HTP HZT HZG hea
              obtain ⟨D1, ho1, hn1⟩ := HS2.out.m1
              have HN1 := Lib.hid hn1
              have q0 : Wa.cell? ⟨W.heap.size, 0, none⟩ = some (.int .i64 xa) := cellAt HEA.out 0
              have q1 : Wa.cell? ⟨W.heap.size, 1, none⟩ = some (.int .i64 xk) := cellAt HEA.out 1
              have hwk : IntKind.i64.wrap ((k : Int) + 1) = (k : Int) + 1 := by rw [IntKind.wrap_i64]; omega
              clear hn1
              go_upto_region 27 with (at_mapUpdate; refine wpList_mapUpdate_own _ rfl _ _ _ 62 rfl 3 3 keyI Try.underlying62 _ w.heap.size k _ rfl ho1 (by unfold maxLen; omega) _ _ _ rfl rfl (key_of IA.out) _ [] (plainElem_int Try.underlying3 (WalkArith.wf_i64 (by omega))) ?_; intro Wb hown1 hgb)
              have HS3 := Lib.hid (show StI l w.heap.size (k + 1) k k (k + 1) Wb Z2 (.slice A2 (k + 1) c2) (gs ++ [We.heap.size]) from HS2.out.own hgb ⟨_, hown1, by
                have := HN1.out.put (g := fun a => ownN l a (k + 1)) (num_map ho1) (a := xa) (fun b hb => ownN_other l k (by rw [HACT.out]; exact hb))
                have h9 : ownN l xa (k + 1) = (k : Int) + 1 := by rw [← HACT.out]; exact ownN_here l k
                rw [h9] at this
                exact this⟩)
              have heb : Wb.heap[W.heap.size]? = some (.cells #[.int .i64 xa, .int .i64 xk, .int .i64 xn, .slice Ac xcs.length cc] 27 (0, 0)) :=
                (hgb.block W.heap.size (blk_lt HEA.out) (fun e => by injection e with e; have := HS.out.size; omega)).trans HEA.out
              have HEBB := Lib.hid heb
              have HBB := Lib.hid (HBA.out.grown hgb (fun q hq => by injection hq with hq; omega))
              clear hown1 hgb heb HEA HBA q0 q1 ho1 HN1 HS2
              have q0 : Wb.cell? ⟨W.heap.size, 0, none⟩ = some (.int .i64 xa) := cellAt HEBB.out 0
              have q1 : Wb.cell? ⟨W.heap.size, 1, none⟩ = some (.int .i64 xk) := cellAt HEBB.out 1
              have q2 : Wb.cell? ⟨W.heap.size, 2, none⟩ = some (.int .i64 xn) := cellAt HEBB.out 2
              by_cases k2 : xk = 2
              · have n2 : (xk == 2) = true := by rw [k2]; rfl
                have n3 : (xk == 3) = false := by rw [k2]; rfl
                have K2 := Lib.hid k2
                clear k2
                obtain ⟨Z3, hZ3⟩ : ∃ Z3 : Nat → Nat, (fun q => if q < Wb.heap.size then Z2 q else 2) = Z3 := ⟨_, rfl⟩
                have HS4 := Lib.hid (show StI l w.heap.size (k + 1) k k (k + 1) Wb Z3 (.slice A2 (k + 1) c2) (gs ++ [We.heap.size]) from HS3.out.rezone (fun q hq => by rw [← hZ3]; exact if_pos hq))
                have HZN := Lib.hid (show ∀ q, Wb.heap.size ≤ q → Z3 q = 2 from fun q hq => by rw [← hZ3]; exact if_neg (by omega))
                have hlw := blk_lt HEBB.out
                have hzw : Z3 W.heap.size = 0 := by
                  rw [← hZ3]
                  show (if W.heap.size < Wb.heap.size then Z2 W.heap.size else 2) = 0
                  rw [if_pos hlw]
                  exact HZW.out
                obtain ⟨Dg, hog, hng⟩ := HS4.out.m2
                obtain ⟨vg, zg, hlg, hatg, hoig, hzlg, hbackg, hshg⟩ := groups_at hog keyI Try.underlying63 zeroSI (by unfold maxLen; omega) (key_of IN.out)
                have HZG2 := Lib.hid (hng.look IN.out hatg hoig)
                have HROW := Lib.hid (show ∀ q, vg.ownBlock = some q → Z3 q = 2 from fun q hq => Decidable.not_not.1 (hshg (fun g => Z3 g ≠ 2) HS4.out.s2 q hq))
                have HGE := Lib.hid (show ∀ q, vg.ownBlock = some q → w.heap.size ≤ q ∧ q < Wb.heap.size from fun q hq => by have := hoig.1.lt q hq; omega)
                have HEW := Lib.hid (show ∀ w1 : World, Wb.grownBy w1 vg.ownBlock → w1.heap[W.heap.size]? = some (.cells #[.int .i64 xa, .int .i64 xk, .int .i64 xn, .slice Ac xcs.length cc] 27 (0, 0)) from fun w1 h => (h.block W.heap.size hlw (fun e => by have := HROW.out _ e.symm; rw [hzw] at this; cases this)).trans HEBB.out)
                have HOG := Lib.hid hog
                have HNG := Lib.hid hng
                have HLG := Lib.hid hlg
                have HOI := Lib.hid hoig
                have HBK := Lib.hid hbackg
                have hml := HS4.out.size
                obtain ⟨Ag, cg, rfl, _⟩ := ints_rd hoig
                clear hZ3 hog hng hlg hatg hoig hbackg hshg hzw
                go_upto_region 29 with fail
                clear q0 q1 q2
                obtain ⟨i0, hi0, hz0, hz1, hz2⟩ := info_parts info_int9
                refine wp_region_growM 10 9 (Value.slice Ag zg.length cg).ownBlock (by kernel_rfl) (by kernel_rfl) (by kernel_rfl) [SPred.val (.map (some (w.heap.size + 1))), SPred.val (.pointer (some ⟨W.heap.size, 2, none⟩)), SPred.val (.int .i64 xn), SPred.val (.map (some (w.heap.size + 1))), SPred.val (.pointer (some ⟨W.heap.size, 2, none⟩)), SPred.val (.int .i64 xn), SPred.val (.slice Ag zg.length cg), SPred.val (.int .i64 k), SPred.litI 3 (k : Int), SPred.grpI (w.heap.size + 2) 3 (zg ++ [(k : Int)]) (Value.slice Ag zg.length cg).ownBlock Wb.heap.size] ?_ ?_ ?_
                · intro i hi hi9 v lo hi2 w1 w2 hlo hφ hg
                  obtain rfl | rfl | rfl | rfl | rfl | rfl | rfl | rfl | rfl : i = 0 ∨ i = 1 ∨ i = 2 ∨ i = 3 ∨ i = 4 ∨ i = 5 ∨ i = 6 ∨ i = 7 ∨ i = 8 := by omega
                  all_goals first | exact hφ | exact ⟨hφ.1, (hg.block lo (blk_lt hφ.2) (fun e => by have := (HGE.out _ e.symm).2; omega)).trans hφ.2⟩
                · refine ⟨fun u ρ w8 hb8 hd => ?_, fun u ρ w8 hb8 hd => ?_, fun u ρ w8 hb8 hd => ?_, fun u ρ w8 hb8 hd => ?_, fun u ρ w8 hb8 hd => ?_, fun u ρ w8 hb8 hd => ?_, fun u ρ w8 hb8 hd => ?_, fun u ρ w8 hb8 hd => ?_, fun u ρ w8 hb8 hd => ?_, fun u ρ w8 hb8 hd => ?_, trivial⟩
                  · simp only [growFr, List.getElem?_cons_succ, List.getElem?_cons_zero, Option.bind_some, Act.put, List.setIfInBounds_toArray, List.set_cons_succ, List.set_cons_zero]
                    go_wp2_with fail
                    exact ⟨rfl, _, rfl, relM_bel (by decide) (Bel.refl _), rfl⟩
                  · simp only [growFr, List.getElem?_cons_succ, List.getElem?_cons_zero, Option.bind_some, Act.put, List.setIfInBounds_toArray, List.set_cons_succ, List.set_cons_zero]
                    go_wp2_with fail
                    exact ⟨rfl, _, rfl, relM_bel (by decide) (Bel.refl _), rfl⟩
                  · have h1 : u 1 = _ := (hd 1 (by kernel_rfl)).1
                    have p2 : w8.cell? ⟨W.heap.size, 2, none⟩ = some (.int .i64 xn) := cellAt (HEW.out w8 (preM_gr hb8)) 2
                    simp only [growFr, List.getElem?_cons_succ, List.getElem?_cons_zero, Option.bind_some, Act.put, List.setIfInBounds_toArray, List.set_cons_succ, List.set_cons_zero, h1]
                    go_wp2_with fail
                    exact ⟨rfl, _, rfl, relM_bel (by decide) (Bel.refl _), rfl⟩
                  · simp only [growFr, List.getElem?_cons_succ, List.getElem?_cons_zero, Option.bind_some, Act.put, List.setIfInBounds_toArray, List.set_cons_succ, List.set_cons_zero]
                    go_wp2_with fail
                    exact ⟨rfl, _, rfl, relM_bel (by decide) (Bel.refl _), rfl⟩
                  · simp only [growFr, List.getElem?_cons_succ, List.getElem?_cons_zero, Option.bind_some, Act.put, List.setIfInBounds_toArray, List.set_cons_succ, List.set_cons_zero]
                    go_wp2_with fail
                    exact ⟨rfl, _, rfl, relM_bel (by decide) (Bel.refl _), rfl⟩
                  · have h4 : u 4 = _ := (hd 4 (by kernel_rfl)).1
                    have p2 : w8.cell? ⟨W.heap.size, 2, none⟩ = some (.int .i64 xn) := cellAt (HEW.out w8 (preM_gr hb8)) 2
                    simp only [growFr, List.getElem?_cons_succ, List.getElem?_cons_zero, Option.bind_some, Act.put, List.setIfInBounds_toArray, List.set_cons_succ, List.set_cons_zero, h4]
                    go_wp2_with fail
                    exact ⟨rfl, _, rfl, relM_bel (by decide) (Bel.refl _), rfl⟩
                  · have h3 : u 3 = _ := (hd 3 (by kernel_rfl)).1
                    have h5 : u 5 = _ := (hd 5 (by kernel_rfl)).1
                    have hr8 := HLG.out w8 ((preM_bel hb8 (.inr (by kernel_rfl))).block (by omega))
                    simp only [growFr, List.getElem?_cons_succ, List.getElem?_cons_zero, Option.bind_some, Act.put, List.setIfInBounds_toArray, List.set_cons_succ, List.set_cons_zero, h3, h5]
                    go_wp2_with fail
                    exact ⟨rfl, _, rfl, relM_bel (by decide) (Bel.refl _), rfl⟩
                  · simp only [growFr, List.getElem?_cons_succ, List.getElem?_cons_zero, Option.bind_some, Act.put, List.setIfInBounds_toArray, List.set_cons_succ, List.set_cons_zero]
                    go_wp2_with fail
                    exact ⟨rfl, _, rfl, relM_bel (by decide) (Bel.refl _), rfl⟩
                  · have h7 : u 7 = _ := (hd 7 (by kernel_rfl)).1
                    simp only [growFr, List.getElem?_cons_succ, List.getElem?_cons_zero, Option.bind_some, Act.put, List.setIfInBounds_toArray, List.set_cons_succ, List.set_cons_zero, h7]
                    go_wp2_with fail
                    exact ⟨rfl, _, rfl, relM_bel (by decide) ((Bel.refl _).alloc _), rfl, heap_alloc_new _ _⟩
                  · have h6 : u 6 = _ := (hd 6 (by kernel_rfl)).1
                    obtain ⟨⟨h8, h8b⟩, h8c⟩ := hd 8 (by kernel_rfl)
                    have hbw := preM_bel hb8 (.inl rfl)
                    have ho8 := HOI.out.kept (bel_none' hbw) (by cases (Value.slice Ag zg.length cg).ownBlock; exact .inl rfl; exact .inr (fun e => by cases e))
                    have hsz8 := hbw.size
                    simp only [growFr, List.getElem?_cons_succ, List.getElem?_cons_zero, Option.bind_some, Act.put, List.setIfInBounds_toArray, List.set_cons_succ, List.set_cons_zero, h6, h8]
                    refine wpList_append_own_at (w := w8) rfl _ _ 43 rfl (w.heap.size + 2) 3 i0 (.int .i64 0) 1 8 Try.underlying43 hi0 hz0 hz1 hz2 rfl (by decide) (.slice Ag zg.length cg) zg.length (zg.map (Value.int .i64)) rfl ho8.1 ⟨(ρ 8).1, 0, none⟩ 1 1 [.int .i64 k] rfl rfl (fun j u hj => by
                      rcases j with _ | j
                      · have : u = .int .i64 k := by simpa using hj.symm
                        rw [this, add_plain, cellAt h8b]
                        rfl
                      · simp at hj) (fun u hu => by obtain rfl : u = .int .i64 k := (by simpa using hu); rfl) (by unfold maxLen; omega) (by omega) (by omega) ?_
                    intro v' w9 hown' hgr hnil hloc
                    exact ⟨rfl, v', rfl, relM_row hgr, ho8.appended hown' (WalkArith.wf_i64 (by omega)), hloc.imp id (fun h => ⟨_, h, hsz8⟩)⟩
                · intro u ρ w8 hb8 hall
                  have h0 : u 0 = _ := (hall 0 (by omega)).1
                  have h2 : u 2 = _ := (hall 2 (by omega)).1
                  obtain ⟨h9, h9l⟩ := (hall 9 (by omega)).1
                  obtain ⟨vn, hvn⟩ : ∃ vn, u 9 = vn := ⟨_, rfl⟩
                  rw [hvn] at h9 h9l
                  have HVN := Lib.hid h9
                  have HVL := Lib.hid h9l
                  have HG8 := Lib.hid hb8
                  simp only [List.drop_succ_cons, List.drop_zero, growFr, List.getElem?_cons_succ, List.getElem?_cons_zero, Option.bind_some, Act.put, List.setIfInBounds_toArray, List.set_cons_succ, List.set_cons_zero, h0, h2, hvn]
                  clear hall h0 h2 h9 h9l hb8 hvn
                  refine wpList_mapUpdate_back_shuns (w0 := Wb) (v' := vn) (No := fun g => Z3 g ≠ 2) w8 rfl _ _ _ 63 rfl keyI Try.underlying63 (key_of IN.out) HOG.out (by unfold maxLen; omega) HOI.out HS4.out.s2 (fun g hg hh => hh (by
                    rcases HVL.out with e | ⟨g', e, hg'⟩
                    · exact HROW.out g (by rw [← e]; exact hg)
                    · rw [e] at hg
                      injection hg with hg
                      exact HZN.out g (by omega))) HBK.out rfl rfl rfl HG8.out HVN.out (by rw [List.length_append, List.length_singleton]; omega) HVL.out ?_
                  intro Wc hown2 hg2 hs2
                  have HS5 := Lib.hid (show StI l w.heap.size (k + 1) (k + 1) (k + 1) (k + 1) Wc Z3 (.slice A2 (k + 1) c2) (gs ++ [We.heap.size]) from (HS4.out.grp2 HROW.out HG8.out hg2 ⟨_, hown2, HNG.out.put (groups_map HOG.out) IN.out HVN.out (by simp) (by
                    rw [kindN_next, if_pos (by rw [HD.out]; exact ⟨K2.out, rfl⟩), ← HZG2.out]) (fun b hb => by
                    rw [kindN_next, if_neg (by rw [HD.out]; exact fun h => hb h.2.symm)])⟩ hs2).skip3 (by rw [HD.out]; show xk ≠ 3; rw [K2.out]; decide))
                  have HBC := Lib.hid ((HBB.out.grown HG8.out (fun q hq => (HGE.out q hq).1)).grown hg2 (fun q hq => by injection hq with hq; omega))
                  clear hown2 hg2 hs2
                  go_wp2
                  go_roundw
                  case rel => exact ⟨k + 1, _, Z3, A2, c2, _, rfl, by omega, by go_num, rfl, HS5.out, HBC.out⟩
                  case measure => simp [intOf]; omega
              · by_cases k3 : xk = 3
                · have n2 : (xk == 2) = false := by rw [k3]; rfl
                  have n3 : (xk == 3) = true := by rw [k3]; rfl
                  have K3 := Lib.hid k3
                  clear k3 k2
                  obtain ⟨Z3, hZ3⟩ : ∃ Z3 : Nat → Nat, (fun q => if q < Wb.heap.size then Z2 q else 3) = Z3 := ⟨_, rfl⟩
                  have HS4 := Lib.hid (show StI l w.heap.size (k + 1) k k (k + 1) Wb Z3 (.slice A2 (k + 1) c2) (gs ++ [We.heap.size]) from HS3.out.rezone (fun q hq => by rw [← hZ3]; exact if_pos hq))
                  have HZN := Lib.hid (show ∀ q, Wb.heap.size ≤ q → Z3 q = 3 from fun q hq => by rw [← hZ3]; exact if_neg (by omega))
                  have hlw := blk_lt HEBB.out
                  have hzw : Z3 W.heap.size = 0 := by
                    rw [← hZ3]
                    show (if W.heap.size < Wb.heap.size then Z2 W.heap.size else 3) = 0
                    rw [if_pos hlw]
                    exact HZW.out
                  obtain ⟨Dg, hog, hng⟩ := HS4.out.m3
                  obtain ⟨vg, zg, hlg, hatg, hoig, hzlg, hbackg, hshg⟩ := groups_at hog keyI Try.underlying63 zeroSI (by unfold maxLen; omega) (key_of IN.out)
                  have HZG2 := Lib.hid (hng.look IN.out hatg hoig)
                  have HROW := Lib.hid (show ∀ q, vg.ownBlock = some q → Z3 q = 3 from fun q hq => Decidable.not_not.1 (hshg (fun g => Z3 g ≠ 3) HS4.out.s3 q hq))
                  have HGE := Lib.hid (show ∀ q, vg.ownBlock = some q → w.heap.size ≤ q ∧ q < Wb.heap.size from fun q hq => by have := hoig.1.lt q hq; omega)
                  have HEW := Lib.hid (show ∀ w1 : World, Wb.grownBy w1 vg.ownBlock → w1.heap[W.heap.size]? = some (.cells #[.int .i64 xa, .int .i64 xk, .int .i64 xn, .slice Ac xcs.length cc] 27 (0, 0)) from fun w1 h => (h.block W.heap.size hlw (fun e => by have := HROW.out _ e.symm; rw [hzw] at this; cases this)).trans HEBB.out)
                  have HOG := Lib.hid hog
                  have HNG := Lib.hid hng
                  have HLG := Lib.hid hlg
                  have HOI := Lib.hid hoig
                  have HBK := Lib.hid hbackg
                  have hml := HS4.out.size
                  obtain ⟨Ag, cg, rfl, _⟩ := ints_rd hoig
                  clear hZ3 hog hng hlg hatg hoig hbackg hshg hzw
                  go_upto_region 31 with fail
                  clear q0 q1 q2
                  obtain ⟨i0, hi0, hz0, hz1, hz2⟩ := info_parts info_int9
                  refine wp_region_growM 10 9 (Value.slice Ag zg.length cg).ownBlock (by kernel_rfl) (by kernel_rfl) (by kernel_rfl) [SPred.val (.map (some (w.heap.size + 2))), SPred.val (.pointer (some ⟨W.heap.size, 2, none⟩)), SPred.val (.int .i64 xn), SPred.val (.map (some (w.heap.size + 2))), SPred.val (.pointer (some ⟨W.heap.size, 2, none⟩)), SPred.val (.int .i64 xn), SPred.val (.slice Ag zg.length cg), SPred.val (.int .i64 k), SPred.litI 3 (k : Int), SPred.grpI (w.heap.size + 3) 3 (zg ++ [(k : Int)]) (Value.slice Ag zg.length cg).ownBlock Wb.heap.size] ?_ ?_ ?_
                  · intro i hi hi9 v lo hi2 w1 w2 hlo hφ hg
                    obtain rfl | rfl | rfl | rfl | rfl | rfl | rfl | rfl | rfl : i = 0 ∨ i = 1 ∨ i = 2 ∨ i = 3 ∨ i = 4 ∨ i = 5 ∨ i = 6 ∨ i = 7 ∨ i = 8 := by omega
                    all_goals first | exact hφ | exact ⟨hφ.1, (hg.block lo (blk_lt hφ.2) (fun e => by have := (HGE.out _ e.symm).2; omega)).trans hφ.2⟩
                  · refine ⟨fun u ρ w8 hb8 hd => ?_, fun u ρ w8 hb8 hd => ?_, fun u ρ w8 hb8 hd => ?_, fun u ρ w8 hb8 hd => ?_, fun u ρ w8 hb8 hd => ?_, fun u ρ w8 hb8 hd => ?_, fun u ρ w8 hb8 hd => ?_, fun u ρ w8 hb8 hd => ?_, fun u ρ w8 hb8 hd => ?_, fun u ρ w8 hb8 hd => ?_, trivial⟩
                    · simp only [growFr, List.getElem?_cons_succ, List.getElem?_cons_zero, Option.bind_some, Act.put, List.setIfInBounds_toArray, List.set_cons_succ, List.set_cons_zero]
                      go_wp2_with fail
                      exact ⟨rfl, _, rfl, relM_bel (by decide) (Bel.refl _), rfl⟩
                    · simp only [growFr, List.getElem?_cons_succ, List.getElem?_cons_zero, Option.bind_some, Act.put, List.setIfInBounds_toArray, List.set_cons_succ, List.set_cons_zero]
                      go_wp2_with fail
                      exact ⟨rfl, _, rfl, relM_bel (by decide) (Bel.refl _), rfl⟩
                    · have h1 : u 1 = _ := (hd 1 (by kernel_rfl)).1
                      have p2 : w8.cell? ⟨W.heap.size, 2, none⟩ = some (.int .i64 xn) := cellAt (HEW.out w8 (preM_gr hb8)) 2
                      simp only [growFr, List.getElem?_cons_succ, List.getElem?_cons_zero, Option.bind_some, Act.put, List.setIfInBounds_toArray, List.set_cons_succ, List.set_cons_zero, h1]
                      go_wp2_with fail
                      exact ⟨rfl, _, rfl, relM_bel (by decide) (Bel.refl _), rfl⟩
                    · simp only [growFr, List.getElem?_cons_succ, List.getElem?_cons_zero, Option.bind_some, Act.put, List.setIfInBounds_toArray, List.set_cons_succ, List.set_cons_zero]
                      go_wp2_with fail
                      exact ⟨rfl, _, rfl, relM_bel (by decide) (Bel.refl _), rfl⟩
                    · simp only [growFr, List.getElem?_cons_succ, List.getElem?_cons_zero, Option.bind_some, Act.put, List.setIfInBounds_toArray, List.set_cons_succ, List.set_cons_zero]
                      go_wp2_with fail
                      exact ⟨rfl, _, rfl, relM_bel (by decide) (Bel.refl _), rfl⟩
                    · have h4 : u 4 = _ := (hd 4 (by kernel_rfl)).1
                      have p2 : w8.cell? ⟨W.heap.size, 2, none⟩ = some (.int .i64 xn) := cellAt (HEW.out w8 (preM_gr hb8)) 2
                      simp only [growFr, List.getElem?_cons_succ, List.getElem?_cons_zero, Option.bind_some, Act.put, List.setIfInBounds_toArray, List.set_cons_succ, List.set_cons_zero, h4]
                      go_wp2_with fail
                      exact ⟨rfl, _, rfl, relM_bel (by decide) (Bel.refl _), rfl⟩
                    · have h3 : u 3 = _ := (hd 3 (by kernel_rfl)).1
                      have h5 : u 5 = _ := (hd 5 (by kernel_rfl)).1
                      have hr8 := HLG.out w8 ((preM_bel hb8 (.inr (by kernel_rfl))).block (by omega))
                      simp only [growFr, List.getElem?_cons_succ, List.getElem?_cons_zero, Option.bind_some, Act.put, List.setIfInBounds_toArray, List.set_cons_succ, List.set_cons_zero, h3, h5]
                      go_wp2_with fail
                      exact ⟨rfl, _, rfl, relM_bel (by decide) (Bel.refl _), rfl⟩
                    · simp only [growFr, List.getElem?_cons_succ, List.getElem?_cons_zero, Option.bind_some, Act.put, List.setIfInBounds_toArray, List.set_cons_succ, List.set_cons_zero]
                      go_wp2_with fail
                      exact ⟨rfl, _, rfl, relM_bel (by decide) (Bel.refl _), rfl⟩
                    · have h7 : u 7 = _ := (hd 7 (by kernel_rfl)).1
                      simp only [growFr, List.getElem?_cons_succ, List.getElem?_cons_zero, Option.bind_some, Act.put, List.setIfInBounds_toArray, List.set_cons_succ, List.set_cons_zero, h7]
                      go_wp2_with fail
                      exact ⟨rfl, _, rfl, relM_bel (by decide) ((Bel.refl _).alloc _), rfl, heap_alloc_new _ _⟩
                    · have h6 : u 6 = _ := (hd 6 (by kernel_rfl)).1
                      obtain ⟨⟨h8, h8b⟩, h8c⟩ := hd 8 (by kernel_rfl)
                      have hbw := preM_bel hb8 (.inl rfl)
                      have ho8 := HOI.out.kept (bel_none' hbw) (by cases (Value.slice Ag zg.length cg).ownBlock; exact .inl rfl; exact .inr (fun e => by cases e))
                      have hsz8 := hbw.size
                      simp only [growFr, List.getElem?_cons_succ, List.getElem?_cons_zero, Option.bind_some, Act.put, List.setIfInBounds_toArray, List.set_cons_succ, List.set_cons_zero, h6, h8]
                      refine wpList_append_own_at (w := w8) rfl _ _ 43 rfl (w.heap.size + 3) 3 i0 (.int .i64 0) 1 8 Try.underlying43 hi0 hz0 hz1 hz2 rfl (by decide) (.slice Ag zg.length cg) zg.length (zg.map (Value.int .i64)) rfl ho8.1 ⟨(ρ 8).1, 0, none⟩ 1 1 [.int .i64 k] rfl rfl (fun j u hj => by
                        rcases j with _ | j
                        · have : u = .int .i64 k := by simpa using hj.symm
                          rw [this, add_plain, cellAt h8b]
                          rfl
                        · simp at hj) (fun u hu => by obtain rfl : u = .int .i64 k := (by simpa using hu); rfl) (by unfold maxLen; omega) (by omega) (by omega) ?_
                      intro v' w9 hown' hgr hnil hloc
                      exact ⟨rfl, v', rfl, relM_row hgr, ho8.appended hown' (WalkArith.wf_i64 (by omega)), hloc.imp id (fun h => ⟨_, h, hsz8⟩)⟩
                  · intro u ρ w8 hb8 hall
                    have h0 : u 0 = _ := (hall 0 (by omega)).1
                    have h2 : u 2 = _ := (hall 2 (by omega)).1
                    obtain ⟨h9, h9l⟩ := (hall 9 (by omega)).1
                    obtain ⟨vn, hvn⟩ : ∃ vn, u 9 = vn := ⟨_, rfl⟩
                    rw [hvn] at h9 h9l
                    have HVN := Lib.hid h9
                    have HVL := Lib.hid h9l
                    have HG8 := Lib.hid hb8
                    simp only [List.drop_succ_cons, List.drop_zero, growFr, List.getElem?_cons_succ, List.getElem?_cons_zero, Option.bind_some, Act.put, List.setIfInBounds_toArray, List.set_cons_succ, List.set_cons_zero, h0, h2, hvn]
                    clear hall h0 h2 h9 h9l hb8 hvn
                    refine wpList_mapUpdate_back_shuns (w0 := Wb) (v' := vn) (No := fun g => Z3 g ≠ 3) w8 rfl _ _ _ 63 rfl keyI Try.underlying63 (key_of IN.out) HOG.out (by unfold maxLen; omega) HOI.out HS4.out.s3 (fun g hg hh => hh (by
                      rcases HVL.out with e | ⟨g', e, hg'⟩
                      · exact HROW.out g (by rw [← e]; exact hg)
                      · rw [e] at hg
                        injection hg with hg
                        exact HZN.out g (by omega))) HBK.out rfl rfl rfl HG8.out HVN.out (by rw [List.length_append, List.length_singleton]; omega) HVL.out ?_
                    intro Wc hown2 hg2 hs2
                    have HS5 := Lib.hid (show StI l w.heap.size (k + 1) (k + 1) (k + 1) (k + 1) Wc Z3 (.slice A2 (k + 1) c2) (gs ++ [We.heap.size]) from (HS4.out.grp3 HROW.out HG8.out hg2 ⟨_, hown2, HNG.out.put (groups_map HOG.out) IN.out HVN.out (by simp) (by
                      rw [kindN_next, if_pos (by rw [HD.out]; exact ⟨K3.out, rfl⟩), ← HZG2.out]) (fun b hb => by
                      rw [kindN_next, if_neg (by rw [HD.out]; exact fun h => hb h.2.symm)])⟩ hs2).skip2 (by rw [HD.out]; show xk ≠ 2; rw [K3.out]; decide))
                    have HBC := Lib.hid ((HBB.out.grown HG8.out (fun q hq => (HGE.out q hq).1)).grown hg2 (fun q hq => by injection hq with hq; omega))
                    clear hown2 hg2 hs2
                    go_wp2
                    go_roundw
                    case rel => exact ⟨k + 1, _, Z3, A2, c2, _, rfl, by omega, by go_num, rfl, HS5.out, HBC.out⟩
                    case measure => simp [intOf]; omega
                · have n2 : (xk == 2) = false := beq_eq_false_iff_ne.2 k2
                  have n3 : (xk == 3) = false := beq_eq_false_iff_ne.2 k3
                  have HS5 := Lib.hid ((HS3.out.skip2 (by rw [HD.out]; exact k2)).skip3 (by rw [HD.out]; exact k3))
                  clear k2 k3
                  go_wp2
                  go_roundw
                  case rel => exact ⟨k + 1, _, Z2, A2, c2, _, rfl, by omega, by go_num, rfl, HS5.out, HBB.out⟩
                  case measure => simp [intOf]; omega
    · obtain rfl : k = l.length := by omega
      obtain ⟨A9, c9, e9, r9⟩ := HS.out.out.rdAll
      injection e9 with z1 z2 z3
      subst z1 z3
      have HR9 := Lib.hid r9
      clear z2 r9
      go_wp2
      go_ret
      exact ⟨_, _, gs, rfl, HR9.out, HS.out.len, fun i g hi => (let ⟨vt, h1, _, _⟩ := HS.out.tabs i g hi; ⟨vt, h1⟩), hbW⟩
end Go.Proofs.Ytamihjibdcccmaa
