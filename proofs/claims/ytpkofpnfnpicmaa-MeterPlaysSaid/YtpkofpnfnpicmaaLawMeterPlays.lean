/- MeterPlays: of any budget, any row of spends: which are let, how much was spent, when it is out: as the document's. -/
import Derived.Test.YtpkofpnfnpicmaaMeter
import Derived.Test.YtpkofpnfnpicmaaRowLib
import Derived.Deep.RegionWith
namespace Go.Proofs.Ytpkofpnfnpicmaa
open Go.RowKit Go.Cb
theorem spendO_no {b s : Int} {o : Bool} {n : Int} {r : Bool} (h : spendOk b s o n = r) : spendO b s o n = !r := by unfold spendO; rw [h]
set_option maxHeartbeats 8000000 in
theorem MeterPlays_walk (w : World) (b : Int) (hb : inI64 b) (A : Option Addr) (c : Nat) (l : List Int) (h : Rd intT w All A c l) (hi : ∀ x ∈ l, inI64 x) (_ : l.length * 8 ≤ 140737488351232) :
    Calls Try.prog 4 #[.int .i64 b, .slice A l.length c] w fun e w' => e = .returned (.bool true) ∧ Bel w w' := by
  obtain ⟨hb0, hb1⟩ := hb
  have hl := h.lenMax
  go_enter Try.func4, Try.ntmps4
  go_wp2_with fail
  refine (newMeter_s1 _ _ (by omega)).mono ?_
  rintro e w1 ⟨g, rfl, hg, hm, hbl⟩
  go_wp2_with fail
  refine (newMeter_s2 _ _ (by omega)).mono ?_
  rintro e w2 ⟨g2, rfl, hg2, hn, hb2⟩
  have hgm := hm.lt
  have hm := hm.to hb2
  have hne : g ≠ g2 := by omega
  have hbl := hbl.trans hb2
  have hg2 : w.heap.size ≤ g2 := by omega
  clear hb2 hgm
  obtain ⟨B, hB⟩ : ∃ B, max b 0 = B := ⟨_, rfl⟩
  have hB0 : 0 ≤ B := by omega
  have hB1 : B ≤ 9223372036854775807 := by omega
  rw [hB] at hm hn
  clear hB
  go_wp2_with fail
  go_loopw [17] (fun v wr => ∃ (k : Nat) (W : World), W = wr ∧ k ≤ l.length ∧ v = .int .i64 k ∧ ∃ (s : Int) (o : Bool), Met W 58 g B s o ∧ Met W 36 g2 B s o ∧ 0 ≤ s ∧ s ≤ B ∧ Bel w W) (fun v _ => l.length - (intOf v).toNat)
  case atStart => exact ⟨0, _, rfl, Nat.zero_le _, rfl, 0, false, hm, hn, by omega, hB0, hbl⟩
  case round =>
    clear hm hn hbl
    obtain ⟨k, W, rfl, hk, rfl, s, o, hm, hn, hs0, hs1, hbl⟩ := hrel
    by_cases hlt : k < l.length
    · obtain ⟨ad, rfl, hc⟩ := (h.to hbl).int hlt
      obtain ⟨x, hx⟩ : ∃ x, l[k] = x := ⟨_, rfl⟩
      rw [hx] at hc
      clear hx
      obtain ⟨s', hs'⟩ : ∃ s', spendS B s o x = s' := ⟨_, rfl⟩
      have hrg := spendS_range o x hs1
      rw [hs'] at hrg
      cases hr : spendOk B s o x
      · have ho := spendO_no hr
        have SP1 : ∀ W', Met W' 58 g B s o → Calls Try.prog 22 #[.pointer (some ⟨g, 0, none⟩), .int .i64 x] W' fun e w' => e = .returned (.bool false) ∧ Met w' 58 g B s' true ∧ Upd g W' w' := fun W' h' => by
          have := spend_s1 g B s o x W' h' hs0 hs1 hB1
          rwa [hr, ho, hs'] at this
        have SP2 : ∀ W', Met W' 36 g2 B s o → Calls Try.prog 23 #[.pointer (some ⟨g2, 0, none⟩), .int .i64 x] W' fun e w' => e = .returned (.bool false) ∧ Met w' 36 g2 B s' true ∧ Upd g2 W' w' := fun W' h' => by
          have := spend_s2 g2 B s o x W' h' hs0 hs1 hB1
          rwa [hr, ho, hs'] at this
        clear hr ho hs'
        go_wp2
        go_region_with (first
          | (go_at_call 22; refine (SP1 _ ?_).mono ?_; exact hm.drewN 1; rintro e w3 ⟨rfl, hm3, hu3⟩; have hn3 := (hn.drewN 1).other hu3 (Ne.symm hne))
          | (go_at_call 23; refine (SP2 _ ?_).mono ?_; exact hn3; rintro e w4 ⟨rfl, hn4, hu4⟩; have hm4 := hm3.other hu4 hne; obtain ⟨d0, d1, d2, df⟩ := hn4.cells)
          | (go_at_call 24; refine (spent_s1 g B s' true _ ?_).mono ?_; exact hm4; rintro e w' ⟨rfl, rfl⟩)
          | (go_at_call 25; refine (out_s1 g B s' true _ ?_).mono ?_; exact hm4; rintro e w' ⟨rfl, rfl⟩))
        all_goals
          go_wp2
          go_roundw
          · exact ⟨k + 1, _, rfl, by omega, by go_num, s', true, hm4, hn4, by omega, by omega, (hbl.drew.upd hu3 hg).upd hu4 hg2⟩
          · simp [intOf]; omega
      · have ho := spendO_no hr
        have SP1 : ∀ W', Met W' 58 g B s o → Calls Try.prog 22 #[.pointer (some ⟨g, 0, none⟩), .int .i64 x] W' fun e w' => e = .returned (.bool true) ∧ Met w' 58 g B s' false ∧ Upd g W' w' := fun W' h' => by
          have := spend_s1 g B s o x W' h' hs0 hs1 hB1
          rwa [hr, ho, hs'] at this
        have SP2 : ∀ W', Met W' 36 g2 B s o → Calls Try.prog 23 #[.pointer (some ⟨g2, 0, none⟩), .int .i64 x] W' fun e w' => e = .returned (.bool true) ∧ Met w' 36 g2 B s' false ∧ Upd g2 W' w' := fun W' h' => by
          have := spend_s2 g2 B s o x W' h' hs0 hs1 hB1
          rwa [hr, ho, hs'] at this
        clear hr ho hs'
        go_wp2
        go_region_with (first
          | (go_at_call 22; refine (SP1 _ ?_).mono ?_; exact hm.drewN 1; rintro e w3 ⟨rfl, hm3, hu3⟩; have hn3 := (hn.drewN 1).other hu3 (Ne.symm hne))
          | (go_at_call 23; refine (SP2 _ ?_).mono ?_; exact hn3; rintro e w4 ⟨rfl, hn4, hu4⟩; have hm4 := hm3.other hu4 hne; obtain ⟨d0, d1, d2, df⟩ := hn4.cells)
          | (go_at_call 24; refine (spent_s1 g B s' false _ ?_).mono ?_; exact hm4; rintro e w' ⟨rfl, rfl⟩)
          | (go_at_call 25; refine (out_s1 g B s' false _ ?_).mono ?_; exact hm4; rintro e w' ⟨rfl, rfl⟩))
        all_goals
          go_wp2
          go_roundw
          · exact ⟨k + 1, _, rfl, by omega, by go_num, s', false, hm4, hn4, by omega, by omega, (hbl.drew.upd hu3 hg).upd hu4 hg2⟩
          · simp [intOf]; omega
    · obtain ⟨d0, d1, d2, df⟩ := hn.cells
      clear df
      go_wp2
      go_region_with (first
        | (go_at_call 24; refine (spent_s1 g B s o _ ?_).mono ?_; exact hm.drewN 1; rintro e w' ⟨rfl, rfl⟩)
        | (go_at_call 25; refine (out_s1 g B s o _ ?_).mono ?_; exact hm.drewN 1; rintro e w' ⟨rfl, rfl⟩)
        | (go_at_call 26; refine (wakes01 _).mono ?_; rintro e w5 ⟨rfl, hb5⟩))
      all_goals
        go_wp2
        go_ret
        exact ⟨rfl, hbl.drew.trans hb5⟩
end Go.Proofs.Ytpkofpnfnpicmaa
namespace Go.Proofs.Ytpkofpnfnpicmaa.rowMeterPlays
open Go.ChangeShapes Go.WideShapes Go.ChangeAt Go.RowKit Go.Cb
open Go.ChangeMaps (open_string shut_string)
theorem own : ownKnob Try.prog.godebug = none := by kernel_rfl
theorem laidOut : laidOutB Try.prog = true := by kernel_rfl
set_option maxRecDepth 100000 in
theorem lifted (os : Os) (started : os.Started) (H : Type) (enc : TypeId × Value → H) :
    ReturnsInHanded {} Try.checked os 4 .any (Rows.meterPlaysSpec.pre6 enc Try.prog Try.f4 Rows.meterPlaysRow.domain false) (Rows.meterPlaysSpec.post enc Try.prog Try.f4 false true false false) := by
  refine returnsInHanded_of_change_sized (C := Try.checked) own started (by kernel_rfl) Try.func4
    (ChangeSpec.witness6 (enc := enc) (C := Try.checked) false ⟨#[], #[.int .i64 0, .slice none 0 0], []⟩ 8 (by kernel_rfl) (by kernel_rfl) (by kernel_rfl) (by kernel_rfl)) ?_
  intro W base args ds gs before hval0 hW hcnd hsz0 _
  have hsz : (DataW.weightsEach Try.prog (Try.f4.params.toList ++ Rows.meterPlaysSpec.plain.varTypes Try.prog) (ds ++ gs)).all (· ≤ reachBytes) = true := hsz0
  have hval : ∀ (j : Nat) t v, Try.f4.params[j]? = some t → args[j]? = some v → Value.okWide Try.prog W .any base t v := hval0
  have hW' := hW
  obtain ⟨p, q, hA0, hV, rfl, hfz, hnd⟩ := hW
  have hA : DataW.TrodAll enc Try.prog W 0 (fun _ => true) true Try.f4.params.toList args.toList ds p := hA0
  rw [Try.params4] at hA hval hsz
  obtain ⟨v0, vs0, d0, ds0, p0, q0, hargs, rfl, rfl, h0, r0⟩ := trodAll_cons hA
  obtain ⟨v1, vs1, d1, ds1, p1, q1, rfl, rfl, rfl, h1, r1⟩ := trodAll_cons r0
  obtain ⟨rfl, rfl, rfl⟩ := trodAll_nil r1
  obtain rfl : args = #[v0, v1] := by cases args; simp_all
  obtain ⟨rfl, rfl⟩ := trodVars_none hV
  obtain ⟨a0, rfl, rfl, rfl, w0⟩ := open_int Try.underlying3 (hval 0 3 v0 rfl rfl) h0
  obtain ⟨a1, len1, cap1, rfl⟩ := okWide_slice Try.underlying22 (hval 1 22 v1 rfl rfl)
  have k1 := h1
  have lt1 : ∀ x ∈ p1, x.block < W.heap.size := by obtain ⟨m, hm⟩ := k1; exact DataW.trod_lt m _ _ _ hm
  obtain ⟨l1, rfl, R1, wf1, sz1⟩ := open_rd hsz (j := 1) (t := 22) rfl rfl Try.underlying22 Try.underlying3 (by kernel_rfl) (by kernel_rfl) h1
  clear hA0 hval0 hsz0 hsz
  refine (MeterPlays_walk W a0 (inI64_wf w0) a1 cap1 l1 R1 (fun x hx => inI64_wf (wf1 x hx)) sz1).mono fun e W' ⟨he, bel⟩ => ?_
  subst he
  exact ⟨_, rfl, _, _, _, [], _, [], hW', trodAll_mk1 (shut_bool Try.underlying4 _), (trodAll_cons_mk (shut_int Try.underlying3 w0) (trodAll_cons_mk (Below.trod laidOut (by kernel_rfl) (of_decide_eq_true (by kernel_rfl)) k1 bel.out lt1) trodAll_mk0)), rfl, bel.out.frame _, fun h => by cases h⟩
theorem over : Rows.meterPlaysRow.holds Try.pinned (OpenSpec.ofChange Rows.meterPlaysSpec) :=
  OpenClaim.holds_of_wide 4 Try.f4 rfl rfl rfl rfl rfl rfl rfl ⟨rfl, rfl, rfl, rfl, rfl⟩ rfl rfl rfl rfl rfl (by kernel_rfl) Try.func4 (by kernel_rfl)
    (of_decide_eq_true (by kernel_rfl)) (by unfold Func.isWrapper; first | (rw [if_pos (by decide +kernel)]; kernel_rfl) | (rw [if_neg (by decide +kernel)]; exact ⟨rfl, rfl⟩))
    (fun os started H enc _ => lifted os started H enc)
end Go.Proofs.Ytpkofpnfnpicmaa.rowMeterPlays
namespace Go.Proofs.Ytpkofpnfnpicmaa
theorem MeterPlays_holds : Rows.MeterPlaysSaid := rowMeterPlays.over
#print axioms MeterPlays_holds
end Go.Proofs.Ytpkofpnfnpicmaa
