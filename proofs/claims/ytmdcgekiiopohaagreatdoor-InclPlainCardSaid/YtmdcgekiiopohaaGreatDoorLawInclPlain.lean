/- InclPlain: is a word one of a set: just if so many of its Periods, tried one by one, make it. -/
import Derived.Test.YtmdcgekiiopohaaGreatDoorInclM
import Derived.Test.YtmdcgekiiopohaaGreatDoorMB
import Derived.Test.YtmdcgekiiopohaaGreatDoorTie
import Derived.Test.YtmdcgekiiopohaaGreatDoorCards
import Derived.LaidMore
import Derived.Stop.Joined
import Derived.SevenTiedAt
set_option linter.unusedVariables false
set_option linter.unusedSimpArgs false
set_option linter.all false
namespace Go.Cb
open Go.RowKit
theorem SetP.none : SetP [] := ⟨rfl, by simp, fun x hx => by simp at hx, fun x hx => by simp at hx, fun x hx => by simp at hx⟩
theorem SetP.of {s : SemS} (h : SetP s) : ∀ x ∈ s, rightB x.1 = true ∧ ∀ p ∈ x.2, rightB p = true ∧ p ≠ [] ∧ ∀ t, p.getD t 0 ≤ 20 := fun x hx => ⟨(h.base x hx).1, fun p hp => by
  have h1 := ((rightL_iff (b := x.1) (ps := x.2)).1 (rightS_each h.right hx)).2.each p hp
  refine ⟨h1.2, fun e => ?_, (h.pl x hx p hp).2.2⟩
  rw [e] at h1
  exact absurd h1.1 (by decide)⟩
theorem normB_small {q : List Int} (h4 : q.length ≤ 4) (h : ∀ x ∈ q, 0 ≤ x ∧ x ≤ 40) : (normB q).length ≤ 4 ∧ ∀ t, (normB q).getD t 0 ≤ 1000000 := by
  rw [normB_eq (by omega) (fun x hx => by have := h x hx; unfold far; omega)]
  refine ⟨by have := cutB_length q; omega, fun t => ?_⟩
  rw [cutB_getD]
  by_cases ht : t < q.length
  · rw [getD_of ht]
    have := h _ (List.getElem_mem ht)
    omega
  · rw [getD_out (by omega)]; decide
theorem mod5_range {x : Int} (h : 0 ≤ x ∧ x ≤ 40) : 0 ≤ x.tmod 5 ∧ x.tmod 5 ≤ 40 := by
  rw [Int.tmod_eq_emod_of_nonneg h.1]
  omega
end Go.Cb
namespace Go.Proofs.YtmdcgekiiopohaaGreatDoor
open Go.RowKit Go.Cb Go.Sort
set_option maxHeartbeats 16000000 in
set_option maxRecDepth 100000 in
theorem inclWithin0_c (w : World) (A : Option Addr) (c : Nat) (s : SemS) (h : Rd linT w All A c s) (hr : rightS s = true) (n : Nat) (hn : n = s.length) :
    Calls Tryz.prog 23 #[.pointer none, .slice none 0 0, .slice A n c] w fun e w' => e = .returned (.tuple #[.bool true, .slice none 0 0, .int .i64 0]) ∧ Bel w w' := by
  subst hn
  have Q1 := semRight_c All none 0 [] w (Rd.nil _ _ _ _ _ (by decide)) 0 rfl
  rw [show rightS [] = true from rfl] at Q1
  have HQ1 := Lib.hid Q1
  have HQ2 := Lib.hid (fun W (hb : Bel w W) => semRight_c All A c s W (h.to hb) _ rfl)
  rw [hr] at HQ2
  clear Q1 h hr
  go_enter Tryz.func23, Tryz.ntmps23
  go_wp2_with fail
  refine HQ1.out.mono ?_
  rintro e w1 ⟨rfl, hb1⟩
  have HQ := Lib.hid (HQ2.out w1 hb1)
  clear HQ1 HQ2
  go_wp2_with fail
  refine HQ.out.mono ?_
  rintro e w2 ⟨rfl, hb2⟩
  clear HQ
  go_wp2
  go_loopw [25] (fun v25 wr => v25 = .int .i64 0 ∧ w2 = wr) (fun _ _ => 0)
  case atStart => exact ⟨rfl, rfl⟩
  case round =>
    obtain ⟨rfl, rfl⟩ := hrel
    go_wp2
    go_ret3
    exact ⟨rfl, hb1.trans hb2⟩
set_option maxHeartbeats 16000000 in
set_option maxRecDepth 100000 in
theorem wakes10 (w : World) : Calls Tryz.prog 9 #[] w fun e w' => e = .returned (.bool true) ∧ Bel w w' := by
  go_enter Tryz.func9, Tryz.ntmps9
  go_wp2_with fail
  refine (semOne_c _).mono ?_
  rintro e w1 ⟨A1, c1, rfl, hr1, _, hb1⟩
  have HQ := Lib.hid (inclWithin0_c w1 A1 c1 [([], [])] hr1.all rfl 1 rfl)
  clear hr1
  go_wp2_with fail
  refine HQ.out.mono ?_
  rintro e w2 ⟨rfl, hb2⟩
  go_wp2
  go_ret
  exact ⟨rfl, hb1.trans hb2⟩
set_option maxHeartbeats 16000000 in
set_option maxRecDepth 100000 in
theorem small10_c (w : World) (C : Option Addr) (cc : Nat) (l : List Int) (hl : Rd intT w All C cc l) (il : ∀ x ∈ l, inI64 x) (n : Nat) (hn : n = l.length) :
    Calls Tryz.prog 4 #[.slice C n cc] w fun e w' => ∃ A c s, e = .returned (.slice A s.length c) ∧ Rd linT w' All A c s ∧ SetP s ∧ Bel w w' := by
  subst hn
  have HQ := Lib.hid (playSemi_c _ C cc l w hl il _ rfl)
  have oP := playSem_P l
  obtain ⟨s, hs⟩ : ∃ s, playSem l = s := ⟨_, rfl⟩
  rw [hs] at HQ oP
  have HSP := Lib.hid oP
  have s24 := oP.six
  clear hs oP hl il
  go_enter Tryz.func4, Tryz.ntmps4
  go_wp2_with fail
  refine HQ.out.mono ?_
  rintro e w2 ⟨v, rfl, r, hb2⟩
  obtain ⟨As, cs, rfl, hr⟩ := r.rd
  have HSX := Lib.hid (fun W (h : Bel w2 W) => (hr.all).to h)
  have HB2 := Lib.hid hb2
  clear HQ r hr hb2
  go_wp2
  go_loopw [10] (fun vI wr => ∃ (k : Nat) (W : World), W = wr ∧ k ≤ s.length ∧ vI = .int .i64 k ∧ Bel w2 W) (fun vI _ => s.length - (intOf vI).toNat)
  case atStart => exact ⟨0, _, rfl, Nat.zero_le _, rfl, Bel.refl _⟩
  case round =>
    obtain ⟨k, W, rfl, hk, rfl, hbk⟩ := hrel
    by_cases hlt : k < s.length
    · obtain ⟨ad, A0, c0, A1, c1, rfl, x0, x1, r0, r1⟩ := (HSX.out W hbk).lrow hlt
      obtain ⟨⟨base, ps⟩, hse⟩ : ∃ y, s[k] = y := ⟨_, rfl⟩
      rw [hse] at x0 x1 r0 r1
      dsimp only at x0 x1 r0 r1
      have hal : Bel W (W.alloc (.cells #[.slice A0 base.length c0, .slice A1 ps.length c1] 31)) := (Bel.refl _).alloc _
      have X := Box.new W 31 (.slice A0 base.length c0) (.slice A1 ps.length c1)
      obtain ⟨z0, z1, _, _⟩ := X.cells
      have HBA := Lib.hid (hbk.trans hal)
      have hpl : ps.length ≤ 8 := by have := HSP.out.per _ (List.getElem_mem hlt); rw [hse] at this; exact this
      clear hse hal X hbk r0 r1
      by_cases h5 : 4 < ps.length
      · have d0 : decide (4 < (ps.length : Int)) = true := decide_eq_true (by omega)
        go_wp2
        go_ret
        exact ⟨none, 0, [], rfl, Rd.nil _ _ _ _ _ (by decide), SetP.none, HB2.out.trans HBA.out⟩
      · have d0 : decide (4 < (ps.length : Int)) = false := decide_eq_false (by omega)
        clear h5
        go_wp2
        go_roundw
        case rel => exact ⟨k + 1, _, rfl, by omega, by go_num, HBA.out⟩
        case measure => simp [intOf]; omega
    · obtain rfl : k = s.length := by omega
      go_wp2
      go_ret
      exact ⟨_, _, s, rfl, HSX.out W hbk, HSP.out, HB2.out.trans hbk⟩
set_option maxHeartbeats 64000000 in
set_option maxRecDepth 100000 in
theorem InclPlain_walk (w : World) (C : Option Addr) (cc : Nat) (l : List Int) (hl : Rd intT w All C cc l) (il : ∀ x ∈ l, inI64 x) (_ : l.length * 8 ≤ 140737488351232)
    (B : Option Addr) (cb : Nat) (ws : List Int) (hws : Rd intT w All B cb ws) (iw : ∀ x ∈ ws, inI64 x) (_ : ws.length * 8 ≤ 140737488351232) :
    Calls Tryz.prog 3 #[.slice C l.length cc, .slice B ws.length cb] w fun e w' => e = .returned (.bool true) ∧ Bel w w' := by
  obtain ⟨b, hb⟩ : ∃ b, playBag ws = b := ⟨_, rfl⟩
  have BL := Lib.hid (show b.length ≤ 4 by rw [← hb]; exact playBag_len ws)
  have BS := Lib.hid (show ∀ x ∈ b, 0 ≤ x ∧ x ≤ 40 from fun x hx => by rw [← hb] at hx; have := playBag_small ws x hx; omega)
  have HPB := Lib.hid (fun W (h : Bel w W) => playBag_c _ B cb ws W (hws.to h) iw _ rfl)
  rw [hb] at HPB
  have HQ := Lib.hid (small10_c w C cc l hl il _ rfl)
  have b4 := BL.out
  clear hb hl hws
  go_enter Tryz.func3, Tryz.ntmps3
  go_wp2_with fail
  refine HQ.out.mono ?_
  rintro e w1 ⟨As, cs, s, rfl, hr1, hsp, hb1⟩
  have HSX := Lib.hid (fun W (h : Bel w1 W) => hr1.to h)
  have HSP := Lib.hid hsp
  have s24 := hsp.six
  have HOF := Lib.hid hsp.of
  have HB1 := Lib.hid hb1
  have HPX := Lib.hid (HPB.out w1 hb1)
  clear HQ HPB hr1 hsp hb1
  go_wp2_with fail
  refine HPX.out.mono ?_
  rintro e w2 ⟨v, rfl, ho2, hb2⟩
  obtain ⟨A2, c2, rfl⟩ := ho2.form
  have HO2 := Lib.hid ho2
  have HB2 := Lib.hid hb2
  clear HPX ho2 hb2
  go_wp2
  go_loopw [19] (fun v19 wr => ∃ (k : Nat) (W : World) (q : List Int), W = wr ∧ k ≤ b.length ∧ v19 = .int .i64 k ∧ Hid (q.length = b.length) ∧ Hid (∀ x ∈ q, 0 ≤ x ∧ x ≤ 40) ∧ Own intT 3 W w1.heap.size (Ge w1.heap.size) (.slice A2 b.length c2) q ∧ Bel w1 W) (fun v19 _ => b.length - (intOf v19).toNat)
  case atStart => exact ⟨0, _, b, rfl, Nat.zero_le _, rfl, (rfl : b.length = b.length), BS.out, HO2.out, HB2.out⟩
  case round =>
    obtain ⟨k, W, q, rfl, hk, rfl, HQL, HQS, hO, hbk⟩ := hrel
    clear HO2 HB2
    by_cases hlt : k < b.length
    · obtain ⟨g, rfl, hg0, hg1⟩ := hO.addr (by rw [HQL.out]; omega)
      obtain ⟨hc1, hf1⟩ := hO.cell (i := k) (by rw [HQL.out]; omega)
      obtain ⟨z, hz⟩ : ∃ z, q[k]'(by rw [HQL.out]; omega) = z := ⟨_, rfl⟩
      have hz0 := HQS.out z (by rw [← hz]; exact List.getElem_mem _)
      have hm5 := mod5_range hz0
      rw [hz] at hc1
      have HQL' := Lib.hid (show (q.set k (z.tmod 5)).length = b.length by rw [List.length_set]; exact HQL.out)
      have HQS' := Lib.hid (show ∀ x ∈ q.set k (z.tmod 5), 0 ≤ x ∧ x ≤ 40 from fun x hx => by
        rcases List.mem_or_eq_of_mem_set hx with h | h
        · exact HQS.out x h
        · rw [h]; exact hm5)
      have HO' := Lib.hid (hO.set k (z.tmod 5))
      have hwr : IntKind.i64.wrap (z.tmod 5) = z.tmod 5 := by rw [IntKind.wrap_i64]; omega
      have HBK := Lib.hid hbk
      clear hz hO hbk hz0 hm5 hg1
      go_wp2
      go_roundw
      case rel => exact ⟨k + 1, _, q.set k (z.tmod 5), rfl, by omega, by go_num, HQL'.out, HQS'.out, HO'.out, HBK.out.set hg0 _⟩
      case measure => simp [intOf]; omega
    · obtain rfl : k = b.length := by omega
      obtain ⟨A3, c3, e3, r3⟩ := hO.rdAll
      injection e3 with z1 z2 z3
      subst z1 z3
      have Q := refNorm_c _ A2 c2 q W r3 b.length HQL.out.symm (by rw [HQL.out]; have := BL.out; omega)
      obtain ⟨n1, n2⟩ := normB_small (q := q) (by rw [HQL.out]; exact BL.out) HQS.out
      have n3 := normB_right q
      obtain ⟨y, hy⟩ : ∃ y, normB q = y := ⟨_, rfl⟩
      rw [hy] at Q n1 n2 n3
      have HQ := Lib.hid Q
      have YL := Lib.hid n1
      have YG := Lib.hid n2
      have YR := Lib.hid n3
      have HBK := Lib.hid hbk
      clear Q n1 n2 n3 hy hbk hO r3 hlt hk z2
      go_wp2_with fail
      refine HQ.out.mono ?_
      rintro e w4 ⟨v, rfl, ho4, hb4⟩
      obtain ⟨A4, c4, rfl, hr4⟩ := ho4.rdAll
      have HY := Lib.hid (fun W (h : Bel w4 W) => hr4.to h)
      have HSZ := Lib.hid (fun W (h : Bel w4 W) => HSX.out W ((HBK.out.trans hb4).trans h))
      have HB4 := Lib.hid ((HB1.out.trans HBK.out).trans hb4)
      clear HQ ho4 hr4 hb4 HQL HQS HSX HBK
      go_wp2
      go_loopw [8, 33] (fun v8 v33 wr => ∃ (k : Nat) (W : World) (r : Bool), W = wr ∧ k ≤ s.length ∧ v33 = .int .i64 k ∧ v8 = .bool r ∧ Hid (r = true ↔ ∃ x ∈ s.take k, Made x.2 y x.1) ∧ Bel w4 W) (fun _ v33 _ => s.length - (intOf v33).toNat)
      case atStart => exact ⟨0, _, false, rfl, Nat.zero_le _, rfl, rfl, (⟨fun h => Bool.noConfusion h, fun ⟨x, hx, _⟩ => by simp at hx⟩ : (false = true ↔ ∃ x ∈ s.take 0, Made x.2 y x.1)), Bel.refl _⟩
      case round =>
        obtain ⟨k, W, r, rfl, hk, rfl, rfl, HRR, hbk⟩ := hrel
        by_cases hlt : k < s.length
        · obtain ⟨ad, A0, c0, A1, c1, rfl, x0, x1, r0, r1⟩ := (HSZ.out W hbk).lrow hlt
          obtain ⟨⟨base, ps⟩, hse⟩ : ∃ y, s[k] = y := ⟨_, rfl⟩
          obtain ⟨f1, f2⟩ := HOF.out _ (List.getElem_mem hlt)
          have hnx : ∀ (P : Lin → Prop), (∃ x ∈ s.take (k + 1), P x) ↔ (∃ x ∈ s.take k, P x) ∨ P (base, ps) := fun P => by
            rw [List.take_add_one, List.getElem?_eq_getElem hlt, hse]
            constructor
            · rintro ⟨x, hx, h⟩
              rcases List.mem_append.1 hx with hx | hx
              · exact .inl ⟨x, hx, h⟩
              · obtain rfl : x = (base, ps) := by simpa using hx
                exact .inr h
            · rintro (⟨x, hx, h⟩ | h)
              · exact ⟨x, List.mem_append_left _ hx, h⟩
              · exact ⟨_, List.mem_append_right _ (by simp), h⟩
          rw [hse] at x0 x1 r0 r1 f1 f2
          dsimp only at x0 x1 r0 r1 f1 f2
          have hal : Bel W (W.alloc (.cells #[.slice A0 base.length c0, .slice A1 ps.length c1] 31)) := (Bel.refl _).alloc _
          have X := Box.new W 31 (.slice A0 base.length c0) (.slice A1 ps.length c1)
          obtain ⟨z0, z1, _, _⟩ := X.cells
          have HBA := Lib.hid (hbk.trans hal)
          have HM := Lib.hid (made_c _ _ _ _ A0 A1 A4 c0 c1 c4 base ps y _ rfl (r0.to hal) (r1.to hal) (HY.out _ (hbk.trans hal)) f1 YR.out f2 YG.out _ _ _ rfl rfl rfl)
          have HNX := Lib.hid (hnx (fun x => Made x.2 y x.1))
          clear hse hal X hbk r0 r1 f1 f2 hnx
          cases r with
          | true =>
            have HR' := Lib.hid (show (true = true ↔ ∃ x ∈ s.take (k + 1), Made x.2 y x.1) from ⟨fun _ => HNX.out.2 (.inl (HRR.out.1 (by first | rfl | trivial))), fun _ => rfl⟩)
            clear HM
            go_wp2
            go_roundw
            case rel => exact ⟨k + 1, _, true, rfl, by omega, by go_num, rfl, HR', HBA.out⟩
            case measure => simp [intOf]; omega
          | false =>
            go_wp2_with fail
            refine HM.out.mono ?_
            rintro e w5 ⟨r2, rfl, hr2, hb5⟩
            have HR' := Lib.hid (show (r2 = true ↔ ∃ x ∈ s.take (k + 1), Made x.2 y x.1) from ⟨fun h => HNX.out.2 (.inr (hr2.1 h)), fun h => by
              rcases HNX.out.1 h with h | h
              · have h9 := HRR.out.2 h; cases h9
              · exact hr2.2 h⟩)
            have HB5 := Lib.hid (HBA.out.trans hb5)
            clear HM hr2 hb5 z0 z1 x0 x1
            go_wp2
            go_roundw
            case rel => exact ⟨k + 1, _, r2, rfl, by omega, by go_num, rfl, HR', HB5.out⟩
            case measure => simp [intOf]; omega
        · obtain rfl : k = s.length := by omega
          have hrr := HRR.out
          rw [List.take_length] at hrr
          have hhs : hasS s y = r := by rw [Bool.eq_iff_iff, hrr]; exact hasS_made HSP.out YR.out YL.out
          have Q := inclHasN_c _ _ As A4 cs c4 s y W (HSZ.out W hbk) (HY.out W hbk) _ _ rfl rfl HSP.out YR.out YL.out
          rw [hhs] at Q
          have HQ := Lib.hid Q
          have HBK := Lib.hid (HB4.out.trans hbk)
          have heq : (r == r) = true := by simp
          clear Q hhs hrr HRR hbk hlt hk
          go_wp2_with fail
          refine HQ.out.mono ?_
          rintro e w6 ⟨rfl, hb6⟩
          go_wp2_with fail
          refine (wakes10 _).mono ?_
          rintro e w7 ⟨rfl, hb7⟩
          go_wp2
          go_ret
          exact ⟨rfl, (HBK.out.trans hb6).trans hb7⟩
end Go.Proofs.YtmdcgekiiopohaaGreatDoor
namespace Go.Proofs.YtmdcgekiiopohaaGreatDoor.rowInclPlain
open Go.ChangeShapes Go.WideShapes Go.ChangeAt Go.RowKit Go.Cb
open Go.ChangeMaps (open_string shut_string)
theorem own : ownKnob Tryz.prog.godebug = none := by kernel_rfl
theorem laidOut : laidOutB Tryz.prog = true := by kernel_rfl
open Go.ChangeMaps Go.WideMaps Go.WideElems
abbrev laidL {H : Type} : List (String × DataW H) := [("math/bits.deBruijn32tab", Rows.laid_math_bits_deBruijn32tab), ("math/bits.deBruijn64tab", Rows.laid_math_bits_deBruijn64tab), ("internal/strconv.uint64pow10", Rows.laid_internal_strconv_uint64pow10)]
theorem door_met (os : Os) (args : Array Value) : laidMetH Tryz.prog laidL ((World.doorLaid Tryz.prog 400 os).forCall (fun _ _ => 0) ⟨#[], args, []⟩).memory :=
  laidMetH_of_parts3 (fuel := 8) (laidMet_of_run' 8 (by kernel_rfl) (by kernel_rfl)) (by kernel_rfl) (by kernel_rfl)
set_option maxRecDepth 100000 in
theorem lifted (os : Os) (started : os.Started) (H : Type) (enc : TypeId × Value → H) :
    ReturnsInHanded {} Tryz.checked os 3 .any (fun w args => (Rows.inclPlainSpec.pre enc Tryz.prog Tryz.f3 [] false w args ∧ laidMetH Tryz.prog laidL w) ∧ sizedMet enc Tryz.prog Tryz.f3 (OpenSpec.ofChange Rows.inclPlainSpec) false w args) (Rows.inclPlainSpec.post enc Tryz.prog Tryz.f3 false true false false) := by
  refine returnsInHanded_of_change_and (C := Tryz.checked) (X := fun w _ => laidMetH Tryz.prog laidL w) (fun _ _ _ hh h => h.of_heap hh) own started (by kernel_rfl) Tryz.func3
    (ChangeSpec.witness_shaped (enc := enc) (C := Tryz.checked) (os := os) (X := fun w _ => laidMetH Tryz.prog laidL w) false (World.doorLaid Tryz.prog 400 os) #[.slice none 0 0, .slice none 0 0] 8 rfl (World.shaped_of_RefB (by kernel_rfl) (by kernel_rfl)) (by kernel_rfl) (by kernel_rfl) (by kernel_rfl) (door_met os _)) ?_
  intro W base args ds gs before hval0 hW hcnd hsz0 _ _
  have hsz : (DataW.weightsEach Tryz.prog (Tryz.f3.params.toList ++ Rows.inclPlainSpec.plain.varTypes Tryz.prog) (ds ++ gs)).all (· ≤ reachBytes) = true := hsz0
  have hval : ∀ (j : Nat) t v, Tryz.f3.params[j]? = some t → args[j]? = some v → Value.okWide Tryz.prog W .any base t v := hval0
  have hW' := hW
  obtain ⟨p, q, hA0, hV, rfl, hfz, hnd⟩ := hW
  have hA : DataW.TrodAll enc Tryz.prog W 0 (fun _ => true) true Tryz.f3.params.toList args.toList ds p := hA0
  rw [Tryz.params3] at hA hval hsz
  obtain ⟨v0, vs0, d0, ds0, p0, q0, hargs, rfl, rfl, h0, r0⟩ := trodAll_cons hA
  obtain ⟨v1, vs1, d1, ds1, p1, q1, rfl, rfl, rfl, h1, r1⟩ := trodAll_cons r0
  obtain ⟨rfl, rfl, rfl⟩ := trodAll_nil r1
  obtain rfl : args = #[v0, v1] := by cases args; simp_all
  obtain ⟨rfl, rfl⟩ := trodVars_none hV
  obtain ⟨a0, len0, cap0, rfl⟩ := okWide_slice Tryz.underlying22 (hval 0 22 v0 rfl rfl)
  have k0 := h0
  have lt0 : ∀ x ∈ p0, x.block < W.heap.size := by obtain ⟨m, hm⟩ := k0; exact DataW.trod_lt m _ _ _ hm
  obtain ⟨l0, rfl, R0, wf0, sz0⟩ := open_rd hsz (j := 0) (t := 22) rfl rfl Tryz.underlying22 Tryz.underlying3 (by kernel_rfl) (by kernel_rfl) h0
  obtain ⟨a1, len1, cap1, rfl⟩ := okWide_slice Tryz.underlying22 (hval 1 22 v1 rfl rfl)
  have k1 := h1
  have lt1 : ∀ x ∈ p1, x.block < W.heap.size := by obtain ⟨m, hm⟩ := k1; exact DataW.trod_lt m _ _ _ hm
  obtain ⟨l1, rfl, R1, wf1, sz1⟩ := open_rd hsz (j := 1) (t := 22) rfl rfl Tryz.underlying22 Tryz.underlying3 (by kernel_rfl) (by kernel_rfl) h1
  clear hA0 hval0 hsz0 hsz
  refine (InclPlain_walk W a0 cap0 l0 R0 (fun x hx => inI64_wf (wf0 x hx)) sz0 a1 cap1 l1 R1 (fun x hx => inI64_wf (wf1 x hx)) sz1).mono fun e W' ⟨he, bel⟩ => ?_
  subst he
  exact ⟨_, rfl, _, _, _, [], _, [], hW', trodAll_mk1 (shut_bool Tryz.underlying4 _), (trodAll_cons_mk (Below.trod laidOut (by kernel_rfl) (of_decide_eq_true (by kernel_rfl)) k0 bel.out lt0) (trodAll_cons_mk (Below.trod laidOut (by kernel_rfl) (of_decide_eq_true (by kernel_rfl)) k1 bel.out lt1) trodAll_mk0)), rfl, bel.out.frame _, fun h => by cases h⟩
theorem over : Rows.inclPlainRow.holds Tryz.pinned (OpenSpec.ofChange Rows.inclPlainSpec) :=
  OpenClaim.holds_of_wide 3 Tryz.f3 rfl rfl rfl rfl rfl rfl rfl ⟨rfl, rfl, rfl, rfl, rfl⟩ rfl rfl rfl rfl rfl (by kernel_rfl) Tryz.func3 (by kernel_rfl)
    (of_decide_eq_true (by kernel_rfl)) (by unfold Func.isWrapper; first | (rw [if_pos (by decide +kernel)]; kernel_rfl) | (rw [if_neg (by decide +kernel)]; exact ⟨rfl, rfl⟩))
    (fun os started H enc _ => lifted os started H enc)
end Go.Proofs.YtmdcgekiiopohaaGreatDoor.rowInclPlain
namespace Go.Proofs.YtmdcgekiiopohaaGreatDoor
theorem InclPlain_row : Rows.InclPlainSaid := rowInclPlain.over
theorem InclPlain_holds : Rows.InclPlainCardSaid :=
  Claim7.holds_tied_plain_at .later [] [.data, .data, .data] true (true, "85be89cfb78ae097dde9ceab529a0648a630eb406bf3ebd5553ed2c1748a8492") false
    InclPlain_row (fun _ h => by cases h) (by kernel_rfl) (fun _ h => by cases h) inclPlain_row_tie rfl ⟨rfl, rfl⟩ (by kernel_rfl) rfl
    (fun f fn hf hfn => by
      obtain rfl : f = 3 := Option.some.inj ((show Tryz.prog.funcNamed "columbary/columbarylaw10.InclPlain" = some 3 by kernel_rfl).symm.trans hf) |>.symm
      obtain rfl : fn = Tryz.f3 := (Option.some.inj (Tryz.func3.symm.trans hfn)).symm
      exact ⟨by kernel_rfl, fun j t ht => by
        rw [Tryz.params3] at ht
        have hm : t ∈ [22, 22] := by simpa using Array.mem_of_getElem? ht
        have hall : ([22, 22].all fun u => !Tryz.prog.wantsStandIn u) = true := by kernel_rfl
        exact (show Tryz.prog.wantsStandIn t = false by simpa using List.all_eq_true.1 hall t hm)⟩)
    (by kernel_rfl)
#print axioms InclPlain_holds
end Go.Proofs.YtmdcgekiiopohaaGreatDoor
