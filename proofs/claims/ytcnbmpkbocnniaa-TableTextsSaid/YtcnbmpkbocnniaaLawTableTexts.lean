/- TableTexts: keys may be texts, and values anything: the last that was put is there; they rise. -/
import Derived.Test.YtcnbmpkbocnniaaTexts1
import Derived.Test.YtcnbmpkbocnniaaRowLibS
import Derived.Laws.BytesString
namespace Go.Proofs.Ytcnbmpkbocnniaa
open Go.RowKit Go.Cb
theorem info_byte : (Try.prog.info? 5).map (fun i => (i.zero, i.size, i.bytes)) = some (some (.int .u8 0), 1, 1) := by kernel_rfl
theorem zeros_str {w7 : World} {base gz : Nat} (ho : Own (scalar (Value.int .u8) (fun _ => rfl)) 5 w7 base All (.slice (some ⟨gz, 0, none⟩) 70 70) (List.replicate 70 0)) :
    ∃ z : ByteArray, z.size ≤ 100 ∧ (convert 31 9 (.slice (some ⟨gz, 0, none⟩) 70 70)).run Try.prog w7 = .ok (.string z) w7 := by
  have hld : (loadCells ⟨gz, 0, none⟩ 70).run Try.prog w7 = .ok ((List.replicate 70 (0 : Int)).map (Value.int .u8)).toArray w7 := by
    have h := run_loadCells_list (P := Try.prog) w7 ⟨gz, 0, none⟩ ((List.replicate 70 (0 : Int)).map (Value.int .u8)) (fun j v hj => by
      have hlt := (List.getElem?_eq_some_iff.1 hj).1
      rw [List.length_map] at hlt
      rw [add_plain, (ho.cell hlt).1]
      rw [List.getElem?_map, List.getElem?_eq_getElem hlt] at hj
      exact hj)
    rw [show ((List.replicate 70 (0 : Int)).map (Value.int .u8)).length = 70 by simp] at h
    exact h
  refine ⟨_, ?_, (run_convert_bytes_string w7 _ _ 5 _ 70 70 Try.underlying31 Try.underlying5 Try.underlying9).trans (run_bytesToString w7 ⟨gz, 0, none⟩ 70 70 _ hld)⟩
  decide +kernel
set_option maxHeartbeats 8000000 in
set_option maxRecDepth 100000 in
theorem TableTexts_walk (w : World) (A : Option Addr) (ca : Nat) (l : List ByteArray) (hl : Rd strT w All A ca l) (hbig : l.length * 16 ≤ 140737488355328) :
    Calls Try.prog 3 #[.slice A l.length ca] w fun e w' => e = .returned (.bool true) ∧ Bel w w' := by
  have hT0 := newTab_ss (fun i : Nat => Value.slice none i 0) w (Nat.le_refl w.heap.size)
  have hb0 : Bel w (w.alloc (.cells #[.slice none 0 0] 80)) := (Bel.refl w).alloc _
  go_enter Try.func3, Try.ntmps3
  go_wp2_with fail
  refine (new_ss w).mono ?_
  rintro e W0 ⟨rfl, hW0⟩
  rw [← hW0] at hT0 hb0
  clear hW0
  obtain ⟨g, hg⟩ : ∃ g, g = w.heap.size := ⟨_, rfl⟩
  rw [← hg] at hT0 ⊢
  have hgl : w.heap.size ≤ g := by omega
  have hg0 := hT0.lt
  clear hg
  go_wp2_with fail
  refine (cutStr_c _ _ _ _ 30 _ (hl.to hb0) _ rfl hbig _ rfl).mono ?_
  obtain ⟨ks, hks⟩ : ∃ ks, l.take 30 = ks := ⟨_, rfl⟩
  have hk30 : ks.length ≤ 30 := by rw [← hks, List.length_take]; omega
  rw [hks]
  clear hks
  rintro e W1 ⟨v1, rfl, ho1, hb1⟩
  obtain ⟨A1, c1, rfl, hr1⟩ := ho1.rd
  have hcap := hr1.cap
  have hcm := hr1.capMax
  replace hr1 := hr1.all.mono (S' := All) (fun _ h => h)
  have HSK : ∀ q, (Value.slice A1 ks.length c1).ownBlock = some q → q ≠ g ∧ q < W1.heap.size := fun q hq => ⟨fun e => by have := ho1.ge hq; omega, ho1.lt hq⟩
  have hK1 : Rd strT W1 (fun q => (Value.slice A1 ks.length c1).ownBlock = some q) A1 c1 ks := ⟨hcap, hcm, fun j x hj => by
    have hlt := (List.getElem?_eq_some_iff.1 hj).1
    obtain ⟨ad, cs, e1, _, h3, h4⟩ := hr1.2.2 j x hj
    exact ⟨ad, cs, e1, by rw [e1]; rfl, h3, h4⟩⟩
  have hT1 : Tab Value.string (fun i : Nat => Value.slice A1 i c1) 80 85 W1 w.heap.size g (.slice none 0 0) [] :=
    ⟨(hb1.block hg0).trans hT0.box, hgl, RowP.nil _ _ _, hT0.ne⟩
  have hbb := hb0.trans hb1
  clear ho1 hr1 hT0 hb0 hb1 hl
  obtain ⟨n, hn⟩ : ∃ n, ks.length = n := ⟨_, rfl⟩
  have HN := Lib.hid hn
  rw [hn] at hk30 hcap HSK hK1 ⊢
  clear hn
  have hc63 : c1 ≤ 9223372036854775807 := by unfold maxLen at hcm; omega
  clear hcm
  go_wp2
  go_loopw [23] (fun v23 wr => ∃ (k : Nat) (W : World) (v : Value) (xs : List (ByteArray × Nat)), W = wr ∧ k ≤ n ∧ v23 = .int .i64 k ∧ Tab Value.string (fun i : Nat => Value.slice A1 i c1) 80 85 wr w.heap.size g v xs ∧ Hid (tabOk cmpS xs) ∧ Hid (LastOf ks k xs) ∧ xs.length ≤ k ∧ Bel w wr ∧
      Rd strT wr (fun q => (Value.slice A1 n c1).ownBlock = some q) A1 c1 ks ∧ Hid (∀ q, (Value.slice A1 n c1).ownBlock = some q → v.ownBlock ≠ some q) ∧ W1.heap.size ≤ wr.heap.size) (fun v23 _ => n - (intOf v23).toNat)
  case atStart => exact ⟨0, _, _, [], rfl, Nat.zero_le _, rfl, hT1, tabOk_nil, (fun s i => ⟨fun h => by simp at h, fun h => absurd h.1 (by omega)⟩ : LastOf ks 0 []), Nat.zero_le _, hbb, hK1, ((fun q _ e => (by cases e)) : ∀ q, (Value.slice A1 n c1).ownBlock = some q → (Value.slice none 0 0).ownBlock ≠ some q), Nat.le_refl _⟩
  case round =>
    clear hT1 hbb hK1
    obtain ⟨k, W, v, xs, rfl, hk, rfl, hT, HS, HL, hxl, hb, hR, HA, hsz⟩ := hrel
    have HSKh := Lib.hid HSK
    by_cases hlt : k < n
    · obtain ⟨ad, rfl, _, hc⟩ := hR.str (k := k) (by rw [HN.out]; exact hlt)
      obtain ⟨s, hs⟩ : ∃ s, ks[k]'(by rw [HN.out]; exact hlt) = s := ⟨_, rfl⟩
      rw [hs] at hc
      have hks : ks[k]? = some s := by rw [List.getElem?_eq_getElem (by rw [HN.out]; exact hlt), hs]
      have HL2 := Lib.hid (HL.out.put HS.out hks)
      have HS2 := Lib.hid (putT_ok cmpS_ord HS.out s k)
      have hl2 : (putT cmpS xs s k).length ≤ k + 1 := by rw [putT_length]; split <;> omega
      have CP := Lib.hid (put_ss (VA := some ad) (VC := c1) hT HS.out hb.size (by omega) s k)
      have HT := Lib.hid hT
      have HR := Lib.hid hR
      have hkc : k ≤ c1 := by omega
      clear hs hks hT hR hxl HSK
      go_wp2_with fail
      refine CP.out.mono ?_
      rintro e w2 ⟨v2, rfl, t2, s2⟩
      have hb2 : Bel w w2 := s2.bel hb hgl HT.out.ge
      have hr2 := s2.rd HR.out (fun q hq => ⟨(HSKh.out q hq).1, HA.out q hq⟩)
      have ha2 : ∀ q, (Value.slice (some ad) n c1).ownBlock = some q → v2.ownBlock ≠ some q := fun q hq e => by
        rcases s2.fresh q e with e | e
        · exact HA.out q hq e
        · have := (HSKh.out q hq).2; omega
      have HA2 := Lib.hid ha2
      have hz2 : W1.heap.size ≤ w2.heap.size := Nat.le_trans hsz s2.size
      clear s2 ha2
      go_wp2
      go_roundw
      case rel => exact ⟨k + 1, _, _, _, rfl, by omega, by go_num, t2, HS2.out, HL2.out, hl2, hb2, hr2, HA2.out, hz2⟩
      case measure => simp [intOf]; omega
    · obtain rfl : k = n := by omega
      clear HSK HSKh HA
      have HT := Lib.hid hT
      have hx16 : xs.length * 16 ≤ 140737488355328 := by omega
      obtain ⟨all, hall⟩ : ∃ all, xs.map (fun x : ByteArray × Nat => x.1) = all := ⟨_, rfl⟩
      have CK := keys_ss hT hx16
      rw [hall] at CK
      have HCK := Lib.hid CK
      have HALL := Lib.hid hall
      have hal : all.length = xs.length := by rw [← hall, List.length_map]
      have hal30 : all.length ≤ 30 := by omega
      have HAL := Lib.hid hal
      have hrise : ∀ i (h : i < all.length) (h0 : 0 < i), Op.bytesLess (all[i - 1]'(by omega)).toList all[i].toList = true := fun i h h0 => by
        have e1 : all[i]? = some all[i] := List.getElem?_eq_getElem h
        have e2 : all[i - 1]? = some (all[i - 1]'(by omega)) := List.getElem?_eq_getElem (by omega)
        generalize all[i]'h = x at *
        generalize all[i - 1]'(by omega) = y at *
        rw [← HALL.out, List.getElem?_map] at e1 e2
        obtain ⟨a, ha, rfl⟩ := Option.map_eq_some_iff.1 e1
        obtain ⟨b, hb, rfl⟩ := Option.map_eq_some_iff.1 e2
        exact cmpS_neg1.1 (pair_lt HS.out (by omega) hb ha)
      have HRISE := Lib.hid hrise
      have hR2 := hR.all
      clear hT hall CK hal hR hrise
      go_wp2_with fail
      refine HCK.out.mono ?_
      rintro e w3 ⟨v3, rfl, ho3, hb3⟩
      obtain ⟨A3, c3, rfl, hr3⟩ := ho3.rd
      replace hr3 := hr3.all
      replace hR2 := hR2.to hb3
      have HT3 := Lib.hid (HT.out.to hb3)
      have hbw3 := hb.trans hb3
      clear ho3 HCK HT hb hb3
      go_wp2
      go_loopw [7] (fun v7 wr => ∃ i : Nat, 1 ≤ i ∧ (i ≤ all.length ∨ i = 1) ∧ v7 = .int .i64 i ∧ Dr w3 wr) (fun v7 _ => all.length - (intOf v7).toNat)
      case atStart => exact ⟨1, Nat.le_refl _, .inr rfl, rfl, Dr.refl _⟩
      case round =>
        obtain ⟨i, hi1, hi2, rfl, hd⟩ := hrel
        by_cases hil : i < all.length
        · obtain ⟨ad3, rfl, _, ha0⟩ := (hr3.to hd.bel).str (k := i - 1) (by omega)
          obtain ⟨ad3', e3, _, ha1⟩ := (hr3.to hd.bel).str (k := i) hil
          obtain rfl : ad3 = ad3' := Option.some.inj e3
          have hlt := HRISE.out i hil hi1
          obtain ⟨x, hx⟩ : ∃ x, all[i] = x := ⟨_, rfl⟩
          obtain ⟨y, hy⟩ : ∃ y, all[i - 1]'(by omega) = y := ⟨_, rfl⟩
          rw [hx] at ha1 hlt
          rw [hy] at ha0 hlt
          have hw : IntKind.i64.wrap ((i : Int) - 1) = ((i - 1 : Nat) : Int) := by rw [IntKind.wrap_i64]; omega
          clear hx hy e3
          go_wp2
          go_quiet (fail)
          go_wp2
          go_roundw
          case rel => exact ⟨i + 1, by omega, .inl (by omega), by go_num, hd.drewN _⟩
          case measure => simp [intOf]; omega
        · obtain ⟨q2, rfl⟩ := hd
          have HT4 := Lib.hid (HT3.out.to ((Bel.refl _).drewN q2))
          have hR4 := hR2.to ((Bel.refl w3).drewN q2)
          have hb4 := hbw3.drewN q2
          have hlen : ((xs.length : Int) == (all.length : Int)) = true := by rw [HAL.out]; exact beq_self_eq_true _
          clear hR2 hbw3 hr3 HRISE HT3
          generalize w3.drewN q2 = W4 at *
          have HLEN := Lib.hid hlen
          clear hlen
          go_wp2
          go_loopw [55] (fun v55 wr => ∃ (i : Nat) (W5 : World), W5 = wr ∧ i ≤ k ∧ v55 = .int .i64 i ∧ Bel W4 wr) (fun v55 _ => k - (intOf v55).toNat)
          case atStart => exact ⟨0, _, rfl, Nat.zero_le _, rfl, Bel.refl _⟩
          case round =>
            obtain ⟨i, W5, rfl, hi, rfl, hb5⟩ := hrel
            have hR5 := hR4.to hb5
            have HT5 := Lib.hid (HT4.out.to hb5)
            by_cases hil : i < k
            · obtain ⟨ad, rfl, _, hc⟩ := hR5.str (k := i) (by rw [HN.out]; exact hil)
              obtain ⟨s, hs⟩ : ∃ s, ks[i]'(by rw [HN.out]; exact hil) = s := ⟨_, rfl⟩
              rw [hs] at hc
              have HIS := Lib.hid (show ks[i]? = some s by rw [List.getElem?_eq_getElem (by rw [HN.out]; exact hil), hs])
              clear hs
              go_wp2
              go_loop [10, 11] (fun v10 v11 => ∃ (m j : Nat), m < k ∧ j ≤ k ∧ v10 = .int .i64 m ∧ v11 = .int .i64 j ∧ Hid (ks[m]? = some s) ∧ Hid (∀ q, m < q → q < j → ks[q]? ≠ some s)) (fun _ v11 => k - (intOf v11).toNat)
              case atStart => exact ⟨i, i, hil, hi, rfl, rfl, HIS, (fun q a b => absurd b (by omega) : ∀ q, i < q → q < i → ks[q]? ≠ some s)⟩
              case round =>
                obtain ⟨m, j, hm, hj, rfl, rfl, HM, HQ⟩ := hrel
                by_cases hjl : j < k
                · obtain ⟨ad2, e2, _, hc2⟩ := hR5.str (k := j) (by rw [HN.out]; exact hjl)
                  obtain rfl : ad = ad2 := Option.some.inj e2
                  obtain ⟨x, hx⟩ : ∃ x, ks[j]'(by rw [HN.out]; exact hjl) = x := ⟨_, rfl⟩
                  rw [hx] at hc2
                  have HX := Lib.hid (show ks[j]? = some x by rw [List.getElem?_eq_getElem (by rw [HN.out]; exact hjl), hx])
                  clear hx e2
                  by_cases he : x = s
                  · have hbe : (x.toList == s.toList) = true := by rw [beq_toList]; exact decide_eq_true he
                    have HX2 := Lib.hid (he ▸ HX.out)
                    clear he
                    go_wp2
                    go_round
                    case rel => exact ⟨j, j + 1, hjl, by omega, rfl, by go_num, HX2.out, (fun q a b => absurd b (by omega) : ∀ q, j < q → q < j + 1 → ks[q]? ≠ some s)⟩
                    case measure => simp [intOf]; omega
                  · have hbe : (x.toList == s.toList) = false := by rw [beq_toList]; exact decide_eq_false he
                    have HQ2 := Lib.hid (show ∀ q, m < q → q < j + 1 → ks[q]? ≠ some s from fun q a b => by
                      by_cases e : q = j
                      · subst e
                        rw [HX.out]
                        intro e
                        injection e with e
                        exact he e
                      · exact HQ.out q a (by omega))
                    clear he
                    go_wp2
                    go_round
                    case rel => exact ⟨m, j + 1, hm, by omega, rfl, by go_num, HM.out, HQ2.out⟩
                    case measure => simp [intOf]; omega
                · obtain rfl : j = k := by omega
                  have hmem : (s, m) ∈ xs := (HL.out s m).2 ⟨hm, HM.out, HQ.out⟩
                  have hg := (getT_iff cmpS_ord HS.out).2 hmem
                  have hh : hasT cmpS xs s = true := by
                    cases e : hasT cmpS xs s with
                    | true => rfl
                    | false => rw [getT_none.2 e] at hg; cases hg
                  have CG := get_ss HT5.out HS.out s
                  rw [hg, hh] at CG
                  have CG2 : Calls Try.prog 16 #[.pointer (some ⟨g, 0, none⟩), .string s] W5 fun e w' => e = .returned (.tuple #[.slice (some ad) m c1, .bool true]) ∧ Bel W5 w' := CG
                  have HCG := Lib.hid CG2
                  have hmc : m ≤ c1 := by omega
                  have HM2 := Lib.hid (show m = (ks.take m).length by rw [List.length_take]; have := HN.out; omega)
                  clear hmem hg hh CG CG2
                  go_wp2_with fail
                  refine HCG.out.mono ?_
                  rintro e w6 ⟨rfl, hb6⟩
                  have hR6 := (hR5.to hb6).take m
                  go_wp2_with fail
                  refine (sameStr_c _ _ _ _ _ _ _ _ hR6 hR6 _ _ HM2.out HM2.out).mono ?_
                  rintro e w7 ⟨rfl, hd7⟩
                  have hb7 := (hb5.trans hb6).trans hd7.bel
                  go_wp2
                  go_roundw
                  case rel => exact ⟨i + 1, _, rfl, by omega, by go_num, hb7⟩
                  case measure => simp [intOf]; omega
            · obtain rfl : i = k := by omega
              have hbw5 := hb4.trans hb5
              have HNO := Lib.hid (show i = 0 → ∀ s, hasT cmpS xs s = false from fun h0 s => by
                cases e : hasT cmpS xs s with
                | false => rfl
                | true =>
                  obtain ⟨v, hv⟩ := (hasT_iff cmpS_ord).1 e
                  have := ((HL.out s v).1 (List.mem_of_getElem? hv)).1
                  omega)
              have HG := Lib.hid (fun w7 (h : Bel W5 w7) key => get_ss (HT5.out.to h) HS.out key)
              have HLN := Lib.hid (fun w7 (h : Bel W5 w7) => len_ss (HT5.out.to h))
              clear hR5 hR4 hb5
              go_wp2_with (at_make; refine wp_make (enc := Value.int .u8) (fun _ => rfl) (0 : Int) (w0 := W5) 31 5 1 rfl _ _ rfl Try.underlying31 info_byte rfl 70 _ _ rfl rfl rfl rfl (Bel.refl _) (by omega) (by simp [maxLen]) ?_; intro w7 ho7 hb7 hb7b hsz7; obtain ⟨z, hz, hcv⟩ := zeros_str ho7; clear ho7 hsz7 hb7b)
              refine (HG.out _ hb7 _).mono ?_
              rintro e w8 ⟨rfl, hb8⟩
              generalize optV _ _ _ = o
              generalize hr : hasT cmpS xs _ = r
              have hb78 := hb7.trans hb8
              cases r with
              | false =>
                clear hr
                go_wp2_with fail
                refine (HLN.out _ hb78).mono ?_
                rintro e w9 ⟨rfl, rfl⟩
                have hl2 := HLEN.out
                go_wp2_with fail
                refine (wakes02 _).mono ?_
                rintro e w10 ⟨rfl, hb10⟩
                go_wp2
                go_ret
                exact ⟨rfl, (hbw5.trans hb78).trans hb10⟩
              | true =>
                have hn0 : 0 < i := by
                  rcases Nat.eq_zero_or_pos i with h0 | h0
                  · rw [HNO.out h0] at hr; cases hr
                  · exact h0
                clear hr
                go_wp2_with fail
                refine (HLN.out _ hb78).mono ?_
                rintro e w9 ⟨rfl, rfl⟩
                have hl2 := HLEN.out
                go_wp2_with fail
                refine (wakes02 _).mono ?_
                rintro e w10 ⟨rfl, hb10⟩
                go_wp2
                go_ret
                exact ⟨rfl, (hbw5.trans hb78).trans hb10⟩
end Go.Proofs.Ytcnbmpkbocnniaa
namespace Go.Proofs.Ytcnbmpkbocnniaa.rowTableTexts
open Go.ChangeShapes Go.WideShapes Go.ChangeAt Go.RowKit Go.Cb
open Go.ChangeMaps (open_string shut_string)
theorem own : ownKnob Try.prog.godebug = none := by kernel_rfl
theorem laidOut : laidOutB Try.prog = true := by kernel_rfl
set_option maxRecDepth 100000 in
theorem lifted (os : Os) (started : os.Started) (H : Type) (enc : TypeId × Value → H) :
    ReturnsInHanded {} Try.checked os 3 .any (Rows.tableTextsSpec.pre6 enc Try.prog Try.f3 Rows.tableTextsRow.domain false) (Rows.tableTextsSpec.post enc Try.prog Try.f3 false true false false) := by
  refine returnsInHanded_of_change_sized (C := Try.checked) own started (by kernel_rfl) Try.func3
    (ChangeSpec.witness6 (enc := enc) (C := Try.checked) false ⟨#[], #[.slice none 0 0], []⟩ 8 (by kernel_rfl) (by kernel_rfl) (by kernel_rfl) (by kernel_rfl)) ?_
  intro W base args ds gs before hval0 hW hcnd hsz0 _
  have hsz : (DataW.weightsEach Try.prog (Try.f3.params.toList ++ Rows.tableTextsSpec.plain.varTypes Try.prog) (ds ++ gs)).all (· ≤ reachBytes) = true := hsz0
  have hval : ∀ (j : Nat) t v, Try.f3.params[j]? = some t → args[j]? = some v → Value.okWide Try.prog W .any base t v := hval0
  have hW' := hW
  obtain ⟨p, q, hA0, hV, rfl, hfz, hnd⟩ := hW
  have hA : DataW.TrodAll enc Try.prog W 0 (fun _ => true) true Try.f3.params.toList args.toList ds p := hA0
  rw [Try.params3] at hA hval hsz
  obtain ⟨v0, vs0, d0, ds0, p0, q0, hargs, rfl, rfl, h0, r0⟩ := trodAll_cons hA
  obtain ⟨rfl, rfl, rfl⟩ := trodAll_nil r0
  obtain rfl : args = #[v0] := by cases args; simp_all
  obtain ⟨rfl, rfl⟩ := trodVars_none hV
  obtain ⟨a0, len0, cap0, rfl⟩ := okWide_slice Try.underlying22 (hval 0 22 v0 rfl rfl)
  have k0 := h0
  have lt0 : ∀ x ∈ p0, x.block < W.heap.size := by obtain ⟨m, hm⟩ := k0; exact DataW.trod_lt m _ _ _ hm
  obtain ⟨l0, rfl, R0, sz0⟩ := open_rdS hsz (j := 0) (t := 22) rfl rfl Try.underlying22 Try.underlying9 (by kernel_rfl) (by kernel_rfl) h0
  clear hA0 hval0 hsz0 hsz
  refine (TableTexts_walk W a0 cap0 l0 R0 sz0).mono fun e W' ⟨he, bel⟩ => ?_
  subst he
  exact ⟨_, rfl, _, _, _, [], _, [], hW', trodAll_mk1 (shut_bool Try.underlying4 _), (trodAll_cons_mk (Below.trod laidOut (by kernel_rfl) (of_decide_eq_true (by kernel_rfl)) k0 bel.out lt0) trodAll_mk0), rfl, bel.out.frame _, fun h => by cases h⟩
theorem over : Rows.tableTextsRow.holds Try.pinned (OpenSpec.ofChange Rows.tableTextsSpec) :=
  OpenClaim.holds_of_wide 3 Try.f3 rfl rfl rfl rfl rfl rfl rfl ⟨rfl, rfl, rfl, rfl, rfl⟩ rfl rfl rfl rfl rfl (by kernel_rfl) Try.func3 (by kernel_rfl)
    (of_decide_eq_true (by kernel_rfl)) (by unfold Func.isWrapper; first | (rw [if_pos (by decide +kernel)]; kernel_rfl) | (rw [if_neg (by decide +kernel)]; exact ⟨rfl, rfl⟩))
    (fun os started H enc _ => lifted os started H enc)
end Go.Proofs.Ytcnbmpkbocnniaa.rowTableTexts
namespace Go.Proofs.Ytcnbmpkbocnniaa
theorem TableTexts_holds : Rows.TableTextsSaid := rowTableTexts.over
#print axioms TableTexts_holds
end Go.Proofs.Ytcnbmpkbocnniaa
