/- TableOwn: what is told of keys is one's own: turned, the table is as it was. -/
import Derived.Test.YtcnbmpkbocnniaaTab9
import Derived.Test.YtcnbmpkbocnniaaBag6
import Derived.Test.YtcnbmpkbocnniaaLib3
import Derived.Test.YtcnbmpkbocnniaaRowLibB
namespace Go.Proofs.Ytcnbmpkbocnniaa
open Go.RowKit Go.Cb
set_option maxHeartbeats 4000000 in
set_option maxRecDepth 100000 in
theorem TableOwn_walk (w : World) (A : Option Addr) (ca : Nat) (l : List Int) (hl : Rd intT w All A ca l) (_ : ∀ x ∈ l, inI64 x) (hbig : l.length ≤ 1048576) :
    Calls Try.prog 4 #[.slice A l.length ca] w fun e w' => e = .returned (.bool true) ∧ Bel w w' := by
  have hT := newTab_ii (Value.int .i64) w (Nat.le_refl w.heap.size)
  have hb0 : Bel w (w.alloc (.cells #[.slice none 0 0] 93)) := (Bel.refl w).alloc _
  go_enter Try.func4, Try.ntmps4
  go_wp2_with fail
  refine (new_ii w).mono ?_
  rintro e W0 ⟨rfl, hW0⟩
  rw [← hW0] at hT hb0
  clear hW0
  obtain ⟨g, hg⟩ : ∃ g, g = w.heap.size := ⟨_, rfl⟩
  rw [← hg] at hT ⊢
  have hgl : w.heap.size ≤ g := by omega
  clear hg
  go_wp2
  go_loopw [14] (fun v14 wr => ∃ (k : Nat) (W : World) (v : Value) (xs : List (Int × Int)), W = wr ∧ k ≤ l.length ∧ v14 = .int .i64 k ∧ Tab (Value.int .i64) (Value.int .i64) 93 96 wr w.heap.size g v xs ∧ Hid (tabOk cmpI xs) ∧ xs.length ≤ k ∧ Bel w wr) (fun v14 _ => l.length - (intOf v14).toNat)
  case atStart => exact ⟨0, _, _, [], rfl, Nat.zero_le _, rfl, ⟨hT.box, hgl, RowP.nil _ _ _, hT.ne⟩, tabOk_nil, Nat.zero_le _, hb0⟩
  case round =>
    clear hT hb0
    obtain ⟨k, W, v, xs, rfl, hk, rfl, hT, hs, hxl, hb⟩ := hrel
    by_cases hlt : k < l.length
    · obtain ⟨ad, rfl, hc⟩ := (hl.to hb).int hlt
      obtain ⟨x, hx⟩ : ∃ x, l[k] = x := ⟨_, rfl⟩
      rw [hx] at hc
      clear hx
      have hpl := putT_length (cf := cmpI) xs x 1
      have hp2 : (putT cmpI xs x 1).length ≤ k + 1 := by rw [hpl]; split <;> omega
      have CP := Lib.hid (put_ii hT hs hb.size (by omega) x 1)
      have HS := Lib.hid (putT_ok cmpI_ord hs x 1)
      have HT := Lib.hid hT
      clear hT hs hpl hxl
      go_wp2_with fail
      refine CP.out.mono ?_
      rintro e w2 ⟨v2, rfl, t2, s2⟩
      have hb2 : Bel w w2 := s2.bel hb hgl HT.out.ge
      clear s2
      go_wp2
      go_roundw
      case rel => exact ⟨k + 1, _, _, _, rfl, by omega, by go_num, t2, HS.out, hp2, hb2⟩
      case measure => simp [intOf]; omega
    · obtain rfl : k = l.length := by omega
      have hx8 : xs.length * 8 ≤ 140737488355328 := by omega
      obtain ⟨ks, hks⟩ : ∃ ks, xs.map (·.1) = ks := ⟨_, rfl⟩
      have HKL := Lib.hid (show ks.length = xs.length by rw [← hks, List.length_map])
      have hsz := hT.lt
      go_wp2_with fail
      refine (keys_ii hT hx8).mono ?_
      rw [hks]
      have HKS := Lib.hid hks
      clear hks hs
      rintro e w3 ⟨v3, rfl, ho3, hb3⟩
      have lt3 : ∀ q, v3.ownBlock = some q → q < w3.heap.size := fun q hq => ho3.lt hq
      obtain ⟨A3, c3, rfl, hr3⟩ := ho3.rd
      replace hr3 := hr3.all
      go_wp2_with fail
      refine (copyInt_c _ _ _ _ _ hr3 _ rfl (by have := HKL.out; omega)).mono ?_
      rintro e w4 ⟨v4, rfl, ho4, hb4⟩
      have ho34 : Own intT 3 w4 W.heap.size All (.slice A3 ks.length c3) ks := (ho3.to hb4).any
      obtain ⟨A4, c4, rfl, hr4⟩ := ho4.rdGe
      have hW4 : Bel W w4 := hb3.trans hb4
      clear ho3 ho4 hr3 hb3 hb4
      have hlm : ks.length ≤ 9223372036854775807 := by have := HKL.out; omega
      go_wp2
      go_loopw [28] (fun v28 wr => ∃ (i : Nat) (W5 : World) (ys : List Int), W5 = wr ∧ i ≤ ks.length ∧ v28 = .int .i64 i ∧ ys.length = ks.length ∧ Own intT 3 wr W.heap.size All (.slice A3 ks.length c3) ys ∧ Rd intT wr (Ge w3.heap.size) A4 c4 ks ∧ Bel W wr) (fun v28 _ => ks.length - (intOf v28).toNat)
      case atStart => exact ⟨0, _, ks, rfl, Nat.zero_le _, rfl, rfl, ho34, hr4, hW4⟩
      case round =>
        clear ho34 hr4 hW4
        obtain ⟨i, W5, ys, rfl, hi, rfl, hyl, ho, hr4, hb5⟩ := hrel
        by_cases hil : i < ks.length
        · obtain ⟨g3, rfl, q1, q2⟩ := ho.addr (by omega)
          obtain ⟨hc1, hf1⟩ := ho.cell (i := i) (by omega)
          obtain ⟨y, hy⟩ : ∃ y, ys[i]'(by omega) = y := ⟨_, rfl⟩
          rw [hy] at hc1
          have HO := Lib.hid (fun z => Own.set ho i z)
          have HY := Lib.hid hyl
          have q3 := lt3 g3 rfl
          have HR := Lib.hid (fun (z : Value) => hr4.upd ((Upd.refl g3 W5).set (p := ⟨g3, i, none⟩) rfl z) (fun (e : w3.heap.size ≤ g3) => by omega))
          clear hy ho hyl hr4
          go_wp2
          go_roundw
          case rel => exact ⟨i + 1, _, _, rfl, by omega, by go_num, by rw [List.length_set]; exact HY.out, HO.out _, HR.out _, hb5.set q1 _⟩
          case measure => simp [intOf]; omega
        · have T5 := hT.to hb5
          clear ho hyl
          go_wp2_with fail
          refine (keys_ii T5 hx8).mono ?_
          rw [HKS.out]
          rintro e w6 ⟨v6, rfl, ho6, hb6⟩
          obtain ⟨A6, c6, rfl, hr6⟩ := ho6.rd
          go_wp2_with fail
          refine (sameInt_c _ _ _ _ _ _ _ _ _ hr6 (hr4.to hb6) _ _ rfl rfl).mono ?_
          rw [decide_eq_true (rfl : ks = ks)]
          rintro e w7 ⟨rfl, hb7⟩
          go_wp2_with fail
          refine (wakes02 _).mono ?_
          rintro e w8 ⟨rfl, hb8⟩
          go_wp2
          go_ret
          exact ⟨rfl, (((hb.trans hb5).trans hb6).trans hb7).trans hb8⟩
end Go.Proofs.Ytcnbmpkbocnniaa
namespace Go.Proofs.Ytcnbmpkbocnniaa.rowTableOwn
open Go.ChangeShapes Go.WideShapes Go.ChangeAt Go.RowKit Go.Cb
open Go.ChangeMaps (open_string shut_string)
theorem own : ownKnob Try.prog.godebug = none := by kernel_rfl
theorem laidOut : laidOutB Try.prog = true := by kernel_rfl
set_option maxRecDepth 100000 in
theorem contract (H : Type) (enc : TypeId × Value → H) (W : World) (base : Nat) (args : Array Value) (ds gs : List (DataW H)) (before : List MemPlace)
    (hval0 : ∀ (j : Nat) t v, Try.f4.params[j]? = some t → args[j]? = some v → Value.okWide Try.prog W .any base t v)
    (hW : DataW.Whole enc Try.prog Try.f4.params.toList Rows.tableOwnSpec.vars false W args.toList ds gs before) (hk : Rows.uptoSmall H (ds ++ gs) = true)
    (hsz0 : (DataW.weightsEach Try.prog (Try.f4.params.toList ++ Rows.tableOwnSpec.plain.varTypes Try.prog) (ds ++ gs)).all (· ≤ reachBytes) = true) :
    Calls Try.prog 4 args W fun e W' => ∃ v, e = .returned v ∧ Rows.tableOwnSpec.post enc Try.prog Try.f4 false true false false W args v W' := by
  have hsz : (DataW.weightsEach Try.prog (Try.f4.params.toList ++ Rows.tableOwnSpec.plain.varTypes Try.prog) (ds ++ gs)).all (· ≤ reachBytes) = true := hsz0
  have hval : ∀ (j : Nat) t v, Try.f4.params[j]? = some t → args[j]? = some v → Value.okWide Try.prog W .any base t v := hval0
  have hW' := hW
  obtain ⟨p, q, hA0, hV, rfl, hfz, hnd⟩ := hW
  have hA : DataW.TrodAll enc Try.prog W 0 (fun _ => true) true Try.f4.params.toList args.toList ds p := hA0
  rw [Try.params4] at hA hval hsz
  obtain ⟨v0, vs0, d0, ds0, p0, q0, hargs, rfl, rfl, h0, r0⟩ := trodAll_cons hA
  obtain ⟨rfl, rfl, rfl⟩ := trodAll_nil r0
  obtain rfl : args = #[v0] := by cases args; simp_all
  obtain ⟨rfl, rfl⟩ := trodVars_none hV
  have hk2 := of_decide_eq_true hk
  simp only [List.cons_append, List.nil_append, Rows.uptoBulkAll] at hk2
  obtain ⟨a0, len0, cap0, rfl⟩ := okWide_slice Try.underlying35 (hval 0 35 v0 rfl rfl)
  have k0 := h0
  have lt0 : ∀ x ∈ p0, x.block < W.heap.size := by obtain ⟨m, hm⟩ := k0; exact DataW.trod_lt m _ _ _ hm
  obtain ⟨l0, rfl, R0, wf0, sz0, sh0⟩ := open_rdB hsz (j := 0) (t := 35) rfl rfl Try.underlying35 Try.underlying3 (by kernel_rfl) (by kernel_rfl) h0
  have bd0 : l0.length ≤ 1048576 := by have := bulk_len sh0; omega
  clear hA0 hval0 hsz0 hsz
  refine (TableOwn_walk W a0 cap0 l0 R0 (fun x hx => inI64_wf (wf0 x hx)) bd0).mono fun e W' ⟨he, bel⟩ => ?_
  subst he
  exact ⟨_, rfl, _, _, _, [], _, [], hW', trodAll_mk1 (shut_bool Try.underlying4 _), (trodAll_cons_mk (Below.trod laidOut (by kernel_rfl) (of_decide_eq_true (by kernel_rfl)) k0 bel.out lt0) trodAll_mk0), rfl, bel.out.frame _, fun h => by cases h⟩
set_option maxRecDepth 100000 in
theorem lifted (os : Os) (started : os.Started) (H : Type) (enc : TypeId × Value → H) (F : Stop.Interp) :
    ReturnsInHanded {} Try.checked os 4 .any ((Rows.OpenSpec.upto Rows.tableOwnSpec).pre6 enc Try.prog Try.f4 Rows.tableOwnUptoRow.domain false) (((Rows.OpenSpec.upto Rows.tableOwnSpec).at F).post enc Try.prog Try.f4 false true false false) := by
  refine returnsInHanded_of_cond_sized (C := Try.checked) (s := (Rows.OpenSpec.upto Rows.tableOwnSpec)) (k := Rows.uptoSmall) rfl own started (by kernel_rfl) Try.func4
    (OpenSpec.witness (enc := enc) (C := Try.checked) (s := (Rows.OpenSpec.upto Rows.tableOwnSpec)) (k := Rows.uptoSmall) rfl false ⟨#[], #[.slice none 0 0], []⟩ 8 (by kernel_rfl) (by kernel_rfl) (by kernel_rfl)
      (x := ([.nil], [], [])) (by kernel_rfl) rfl (by kernel_rfl)) ?_
  intro W base args ds gs before hval hW _ hk hsz _
  exact contract H enc W base args ds gs before hval hW hk hsz
theorem over : Rows.tableOwnUptoRow.holds Try.pinned (Rows.OpenSpec.upto Rows.tableOwnSpec) :=
  OpenClaim.holds_of_cond 4 Try.f4 rfl rfl rfl rfl rfl rfl rfl ⟨rfl, rfl, rfl, rfl, rfl⟩ rfl rfl rfl rfl rfl (by kernel_rfl) Try.func4 (by kernel_rfl)
    (of_decide_eq_true (by kernel_rfl)) (by unfold Func.isWrapper; first | (rw [if_pos (by decide +kernel)]; kernel_rfl) | (rw [if_neg (by decide +kernel)]; exact ⟨rfl, rfl⟩))
    (fun os started H enc _ F => lifted os started H enc F)
end Go.Proofs.Ytcnbmpkbocnniaa.rowTableOwn
namespace Go.Proofs.Ytcnbmpkbocnniaa
theorem TableOwn_holds : Rows.TableOwnUptoSaid := rowTableOwn.over
#print axioms TableOwn_holds
end Go.Proofs.Ytcnbmpkbocnniaa
