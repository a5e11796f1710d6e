/- TableFold: what is made of all, one by one, rising. -/
import Derived.Test.YtcnbmpkbocnniaaTab9
import Derived.Test.YtcnbmpkbocnniaaBag6
import Derived.Test.YtcnbmpkbocnniaaLib3
import Derived.Test.YtcnbmpkbocnniaaRowLibB
namespace Go.Proofs.Ytcnbmpkbocnniaa
open Go.RowKit Go.Cb
def foldF (a k v : Int) : Int := bits .xor .i64 (wrap64 (wrap64 (a * 31) + k)) v
def foldTo (a : Int) (xs : List (Int × Int)) : Int := xs.foldl (fun a x => foldF a x.1 x.2) a
theorem foldTo_step (a : Int) {xs : List (Int × Int)} {k : Nat} {x : Int × Int} (h : xs[k]? = some x) : foldTo a (xs.take (k + 1)) = foldF (foldTo a (xs.take k)) x.1 x.2 := by
  unfold foldTo
  rw [List.take_add_one, h, List.foldl_append]
  rfl
theorem keys_step {xs : List (Int × Int)} {k : Nat} {x : Int × Int} (h : xs[k]? = some x) : (xs.take k).map (·.1) ++ [x.1] = (xs.take (k + 1)).map (·.1) := by
  rw [List.take_add_one, h]; simp
theorem fold1_c (a k v : Int) (w : World) : Calls Try.prog 28 #[.int .i64 a, .int .i64 k, .int .i64 v] w fun e w' => e = .returned (.int .i64 (foldF a k v)) ∧ w = w' := by
  go_enter Try.func28, Try.ntmps28
  go_wp2
  go_ret
  exact ⟨rfl, rfl⟩
theorem fold3_c (a k v : Int) (w : World) : Calls Try.prog 31 #[.int .i64 a, .int .i64 k, .int .i64 v] w fun e w' => e = .returned (.int .i64 (wrap64 (a + 1))) ∧ w = w' := by
  go_enter Try.func31, Try.ntmps31
  go_wp2
  go_ret
  exact ⟨rfl, rfl⟩
set_option maxHeartbeats 1000000 in
theorem fold2_c {w0 w : World} {va : Value} {ys : List Int} (ho : Own intT 3 w w0.heap.size All va ys) (hb : Bel w0 w) (hl : (ys.length + 1) * 8 ≤ 140737488355328) (k v : Int) :
    Calls Try.prog 30 #[va, .int .i64 k, .int .i64 v] w fun e w' => ∃ v', e = .returned v' ∧ Own intT 3 w' w0.heap.size All v' (ys ++ [k]) ∧ Bel w0 w' := by
  obtain ⟨A, c, rfl⟩ := ho.form
  have HO := Lib.hid ho
  clear ho
  go_enter Try.func30, Try.ntmps30
  go_wp2_with (at_builtin; refine wp_append1b intT (w0 := w0) 35 3 (.int .i64 0) 8 rfl _ _ rfl Try.underlying35 info_int rfl All (.slice A ys.length c) ys k [.int .i64 k] _ rfl rfl rfl HO.out rfl hb (by unfold maxLen; omega) (by omega) ?_; rintro v2 w2 ho2 hb2 hg2 _)
  go_ret
  exact ⟨_, rfl, ho2, hb2⟩
set_option maxHeartbeats 4000000 in
set_option maxRecDepth 100000 in
theorem TableFold_walk (w : World) (A : Option Addr) (ca : Nat) (l : List Int) (hl : Rd intT w All A ca l) (_ : ∀ x ∈ l, inI64 x) (hbig : l.length ≤ 1048576) (from_ : Int) (_ : inI64 from_) :
    Calls Try.prog 5 #[.slice A l.length ca, .int .i64 from_] w fun e w' => e = .returned (.bool true) ∧ Bel w w' := by
  have hT := newTab_ii (Value.int .i64) w (Nat.le_refl w.heap.size)
  have hb0 : Bel w (w.alloc (.cells #[.slice none 0 0] 93)) := (Bel.refl w).alloc _
  have ent1 : ∀ (args : Array Value) (w : World), (callFunc 28 args).run Try.prog w = .ok (.enter 28 args) w := fun _ _ => by kernel_rfl
  have ent2 : ∀ (args : Array Value) (w : World), (callFunc 30 args).run Try.prog w = .ok (.enter 30 args) w := fun _ _ => by kernel_rfl
  have ent3 : ∀ (args : Array Value) (w : World), (callFunc 31 args).run Try.prog w = .ok (.enter 31 args) w := fun _ _ => by kernel_rfl
  have E1 := Lib.hid ent1
  have E2 := Lib.hid ent2
  have E3 := Lib.hid ent3
  clear ent1 ent2 ent3
  go_enter Try.func5, Try.ntmps5
  go_wp2_with fail
  refine (new_ii w).mono ?_
  rintro e W0 ⟨rfl, hW0⟩
  rw [← hW0] at hT hb0
  clear hW0
  obtain ⟨g, hg⟩ : ∃ g, g = w.heap.size := ⟨_, rfl⟩
  rw [← hg] at hT ⊢
  have hgl : w.heap.size ≤ g := by omega
  clear hg
  go_wp2
  go_loopw [21] (fun v21 wr => ∃ (k : Nat) (W : World) (v : Value) (xs : List (Int × Int)), W = wr ∧ k ≤ l.length ∧ v21 = .int .i64 k ∧ Tab (Value.int .i64) (Value.int .i64) 93 96 wr w.heap.size g v xs ∧ Hid (tabOk cmpI xs) ∧ xs.length ≤ k ∧ Bel w wr) (fun v21 _ => l.length - (intOf v21).toNat)
  case atStart => exact ⟨0, _, _, [], rfl, Nat.zero_le _, rfl, ⟨hT.box, hgl, RowP.nil _ _ _, hT.ne⟩, tabOk_nil, Nat.zero_le _, hb0⟩
  case round =>
    clear hT hb0
    obtain ⟨k, W, v, xs, rfl, hk, rfl, hT, hs, hxl, hb⟩ := hrel
    by_cases hlt : k < l.length
    · obtain ⟨ad, rfl, hc⟩ := (hl.to hb).int hlt
      obtain ⟨x, hx⟩ : ∃ x, l[k] = x := ⟨_, rfl⟩
      rw [hx] at hc
      clear hx
      have hpl := putT_length (cf := cmpI) xs x (k : Int)
      have hp2 : (putT cmpI xs x (k : Int)).length ≤ k + 1 := by rw [hpl]; split <;> omega
      have CP := Lib.hid (put_ii hT hs hb.size (by omega) x (k : Int))
      have HS := Lib.hid (putT_ok cmpI_ord hs x (k : Int))
      have HT := Lib.hid hT
      clear hT hs hpl hxl
      go_wp2_with fail
      refine CP.out.mono ?_
      rintro e w2 ⟨v2, rfl, t2, s2⟩
      have hb2 : Bel w w2 := s2.bel hb hgl HT.out.ge
      clear s2
      go_wp2
      go_roundw
      case rel => exact ⟨k + 1, _, _, _, rfl, by omega, by go_num, t2, HS.out, hp2, hb2⟩
      case measure => simp [intOf]; omega
    · obtain rfl : k = l.length := by omega
      have HT := Lib.hid hT
      have hsz := hT.lt
      have hlm : xs.length ≤ 9223372036854775807 := by omega
      clear hs hT
      go_wp2
      go_loopw [8, 9] (fun v8 v9 wr => ∃ (i : Nat) (W5 : World), W5 = wr ∧ i ≤ xs.length ∧ v9 = .int .i64 i ∧ v8 = .int .i64 (foldTo from_ (xs.take i)) ∧ Dr W wr) (fun _ v9 _ => xs.length - (intOf v9).toNat)
      case atStart => exact ⟨0, _, rfl, Nat.zero_le _, rfl, rfl, Dr.refl _⟩
      case round =>
        obtain ⟨i, W5, rfl, hi, rfl, rfl, hd⟩ := hrel
        have T5 := HT.out.to hd.bel
        have CL := Lib.hid (len_ii T5)
        by_cases hil : i < xs.length
        · obtain ⟨x, hx⟩ : ∃ x, xs[i]? = some x := ⟨_, List.getElem?_eq_getElem hil⟩
          have CA := at_ii T5 (i : Int)
          rw [show atV xs (i : Int) = #[.int .i64 x.1, .int .i64 x.2, .bool true] by unfold atV; rw [if_pos (by omega), Int.toNat_natCast, hx]] at CA
          have HF := Lib.hid (foldTo_step from_ hx)
          have HA := Lib.hid CA
          generalize foldTo from_ (xs.take i) = z at *
          clear CA hx T5
          go_wp2_with fail
          refine CL.out.mono ?_
          rintro e w6 ⟨rfl, rfl⟩
          go_wp2_with fail
          refine HA.out.mono ?_
          rintro e w6 ⟨rfl, hd6⟩
          go_wp2
          go_roundw
          case rel => exact ⟨i + 1, _, rfl, by omega, by go_num, by rw [HF.out]; rfl, hd.trans hd6⟩
          case measure => simp [intOf]; omega
        · obtain rfl : i = xs.length := by omega
          have Hall := Lib.hid (show xs.take xs.length = xs from List.take_length)
          rw [Hall.out]
          have hb5 := hb.trans hd.bel
          have HT5 := Lib.hid T5
          have hx8 : xs.length ≤ 1048576 := by omega
          have CF := Lib.hid (fold_i 28 E1.out (fun j a w1 => a = .int .i64 (foldTo from_ (xs.take j)) ∧ Bel W5 w1) T5 (fun j a w1 w2 h hb => ⟨h.1, h.2.trans hb⟩) (fun j a w1 h => (T5.to h.2).row)
            (fun j a w1 x h hx => by
              obtain ⟨rfl, hbj⟩ := h
              refine (fold1_c _ _ _ _).mono ?_
              rintro e w2 ⟨rfl, rfl⟩
              exact ⟨_, rfl, by rw [foldTo_step from_ hx], hbj⟩) (.int .i64 from_) ⟨rfl, Bel.refl _⟩)
          rw [Hall.out] at CF
          generalize foldTo from_ xs = z at *
          have hz : (z == z) = true := beq_self_eq_true z
          have hf : (from_ == from_) = true := beq_self_eq_true from_
          clear T5 HT hd
          have HX := Lib.hid hx8
          clear hx8
          go_wp2_with fail
          refine CL.out.mono ?_
          rintro e w6 ⟨rfl, rfl⟩
          go_wp2_with fail
          refine CF.out.mono ?_
          rintro e w7 ⟨a7, rfl, rfl, hb7⟩
          have T7 := HT5.out.to hb7
          have CR := Lib.hid (fold_l 30 E2.out (fun j a w1 => Own intT 3 w1 w7.heap.size All a ((xs.take j).map (fun x : Int × Int => x.1)) ∧ Bel w7 w1) T7 (fun j a w1 w2 h hb => ⟨h.1.to hb, h.2.trans hb⟩) (fun j a w1 h => (T7.to h.2).row)
            (fun j a w1 x h hx => by
              refine (fold2_c h.1 h.2 (by rw [List.length_map, List.length_take]; have := HX.out; omega) _ _).mono ?_
              rintro e w2 ⟨v2, rfl, ho2, hb2⟩
              refine ⟨_, rfl, ?_, hb2⟩
              rw [keys_step hx] at ho2
              exact ho2) (.slice none 0 0) ⟨Own.nil _ _ _ _ _, Bel.refl _⟩)
          rw [Hall.out] at CR
          have hb7' := hb5.trans hb7
          have HT7 := Lib.hid T7
          clear T7
          go_wp2_with fail
          refine CR.out.mono ?_
          rintro e w8 ⟨v8, rfl, ho8, hb8⟩
          obtain ⟨A8, c8, rfl, hr8⟩ := ho8.rdAll
          have hT9 := newTab_ii (Value.int .i64) w8 (Nat.le_refl w8.heap.size)
          have hb9 : Bel w8 (w8.alloc (.cells #[.slice none 0 0] 93)) := (Bel.refl w8).alloc _
          clear ho8
          go_wp2_with fail
          refine (new_ii w8).mono ?_
          rintro e w9 ⟨rfl, hW9⟩
          rw [← hW9] at hT9 hb9
          clear hW9
          have C3 := Lib.hid (fold_i 31 E3.out (fun j a w1 => a = .int .i64 from_ ∧ Bel w9 w1) hT9 (fun j a w1 w2 h hb => ⟨h.1, h.2.trans hb⟩) (fun j a w1 h => (hT9.to h.2).row)
            (fun j a w1 x h hx => by simp at hx) (.int .i64 from_) ⟨rfl, Bel.refl _⟩)
          have HT9 := Lib.hid ((HT7.out.to hb8).to hb9)
          have hr9 := hr8.to hb9
          have hb9' := (hb7'.trans hb8).trans hb9
          clear hT9 hr8 hb9 hb8 hb7'
          go_wp2_with fail
          refine C3.out.mono ?_
          rintro e w10 ⟨a10, rfl, rfl, hb10⟩
          have T10 := HT9.out.to hb10
          have hr10 := hr9.to hb10
          have hb10' := hb9'.trans hb10
          clear hr9 hb9'
          have HKS := Lib.hid (show ((xs.map (fun x : Int × Int => x.1)).length = xs.length) by rw [List.length_map])
          have CK := Lib.hid (keys_ii T10 (by have := HX.out; omega))
          generalize xs.map (fun x : Int × Int => x.1) = ks at *
          clear T10
          go_wp2_with fail
          refine CK.out.mono ?_
          rintro e w11 ⟨v11, rfl, ho11, hb11⟩
          obtain ⟨A11, c11, rfl, hr11⟩ := ho11.rd
          go_wp2_with fail
          refine (sameInt_c _ _ _ _ _ _ _ _ _ (hr10.to hb11) hr11 _ _ HKS.out.symm rfl).mono ?_
          rw [decide_eq_true (rfl : ks = ks)]
          rintro e w12 ⟨rfl, hb12⟩
          go_wp2_with fail
          refine (wakes02 _).mono ?_
          rintro e w13 ⟨rfl, hb13⟩
          go_wp2
          go_ret
          exact ⟨rfl, ((hb10'.trans hb11).trans hb12).trans hb13⟩
end Go.Proofs.Ytcnbmpkbocnniaa
namespace Go.Proofs.Ytcnbmpkbocnniaa.rowTableFold
open Go.ChangeShapes Go.WideShapes Go.ChangeAt Go.RowKit Go.Cb
open Go.ChangeMaps (open_string shut_string)
theorem own : ownKnob Try.prog.godebug = none := by kernel_rfl
theorem laidOut : laidOutB Try.prog = true := by kernel_rfl
set_option maxRecDepth 100000 in
theorem contract (H : Type) (enc : TypeId × Value → H) (W : World) (base : Nat) (args : Array Value) (ds gs : List (DataW H)) (before : List MemPlace)
    (hval0 : ∀ (j : Nat) t v, Try.f5.params[j]? = some t → args[j]? = some v → Value.okWide Try.prog W .any base t v)
    (hW : DataW.Whole enc Try.prog Try.f5.params.toList Rows.tableFoldSpec.vars false W args.toList ds gs before) (hk : Rows.uptoSmall H (ds ++ gs) = true)
    (hsz0 : (DataW.weightsEach Try.prog (Try.f5.params.toList ++ Rows.tableFoldSpec.plain.varTypes Try.prog) (ds ++ gs)).all (· ≤ reachBytes) = true) :
    Calls Try.prog 5 args W fun e W' => ∃ v, e = .returned v ∧ Rows.tableFoldSpec.post enc Try.prog Try.f5 false true false false W args v W' := by
  have hsz : (DataW.weightsEach Try.prog (Try.f5.params.toList ++ Rows.tableFoldSpec.plain.varTypes Try.prog) (ds ++ gs)).all (· ≤ reachBytes) = true := hsz0
  have hval : ∀ (j : Nat) t v, Try.f5.params[j]? = some t → args[j]? = some v → Value.okWide Try.prog W .any base t v := hval0
  have hW' := hW
  obtain ⟨p, q, hA0, hV, rfl, hfz, hnd⟩ := hW
  have hA : DataW.TrodAll enc Try.prog W 0 (fun _ => true) true Try.f5.params.toList args.toList ds p := hA0
  rw [Try.params5] at hA hval hsz
  obtain ⟨v0, vs0, d0, ds0, p0, q0, hargs, rfl, rfl, h0, r0⟩ := trodAll_cons hA
  obtain ⟨v1, vs1, d1, ds1, p1, q1, rfl, rfl, rfl, h1, r1⟩ := trodAll_cons r0
  obtain ⟨rfl, rfl, rfl⟩ := trodAll_nil r1
  obtain rfl : args = #[v0, v1] := by cases args; simp_all
  obtain ⟨rfl, rfl⟩ := trodVars_none hV
  have hk2 := of_decide_eq_true hk
  simp only [List.cons_append, List.nil_append, Rows.uptoBulkAll] at hk2
  obtain ⟨a0, len0, cap0, rfl⟩ := okWide_slice Try.underlying35 (hval 0 35 v0 rfl rfl)
  have k0 := h0
  have lt0 : ∀ x ∈ p0, x.block < W.heap.size := by obtain ⟨m, hm⟩ := k0; exact DataW.trod_lt m _ _ _ hm
  obtain ⟨l0, rfl, R0, wf0, sz0, sh0⟩ := open_rdB hsz (j := 0) (t := 35) rfl rfl Try.underlying35 Try.underlying3 (by kernel_rfl) (by kernel_rfl) h0
  have bd0 : l0.length ≤ 1048576 := by have := bulk_len sh0; omega
  obtain ⟨a1, rfl, rfl, rfl, w1⟩ := open_int Try.underlying3 (hval 1 3 v1 rfl rfl) h1
  clear hA0 hval0 hsz0 hsz
  refine (TableFold_walk W a0 cap0 l0 R0 (fun x hx => inI64_wf (wf0 x hx)) bd0 a1 (inI64_wf w1)).mono fun e W' ⟨he, bel⟩ => ?_
  subst he
  exact ⟨_, rfl, _, _, _, [], _, [], hW', trodAll_mk1 (shut_bool Try.underlying4 _), (trodAll_cons_mk (Below.trod laidOut (by kernel_rfl) (of_decide_eq_true (by kernel_rfl)) k0 bel.out lt0) (trodAll_cons_mk (shut_int Try.underlying3 w1) trodAll_mk0)), rfl, bel.out.frame _, fun h => by cases h⟩
set_option maxRecDepth 100000 in
theorem lifted (os : Os) (started : os.Started) (H : Type) (enc : TypeId × Value → H) (F : Stop.Interp) :
    ReturnsInHanded {} Try.checked os 5 .any ((Rows.OpenSpec.upto Rows.tableFoldSpec).pre6 enc Try.prog Try.f5 Rows.tableFoldUptoRow.domain false) (((Rows.OpenSpec.upto Rows.tableFoldSpec).at F).post enc Try.prog Try.f5 false true false false) := by
  refine returnsInHanded_of_cond_sized (C := Try.checked) (s := (Rows.OpenSpec.upto Rows.tableFoldSpec)) (k := Rows.uptoSmall) rfl own started (by kernel_rfl) Try.func5
    (OpenSpec.witness (enc := enc) (C := Try.checked) (s := (Rows.OpenSpec.upto Rows.tableFoldSpec)) (k := Rows.uptoSmall) rfl false ⟨#[], #[.slice none 0 0, .int .i64 0], []⟩ 8 (by kernel_rfl) (by kernel_rfl) (by kernel_rfl)
      (x := ([.nil, .lit (.int .i64 0)], [], [])) (by kernel_rfl) rfl (by kernel_rfl)) ?_
  intro W base args ds gs before hval hW _ hk hsz _
  exact contract H enc W base args ds gs before hval hW hk hsz
theorem over : Rows.tableFoldUptoRow.holds Try.pinned (Rows.OpenSpec.upto Rows.tableFoldSpec) :=
  OpenClaim.holds_of_cond 5 Try.f5 rfl rfl rfl rfl rfl rfl rfl ⟨rfl, rfl, rfl, rfl, rfl⟩ rfl rfl rfl rfl rfl (by kernel_rfl) Try.func5 (by kernel_rfl)
    (of_decide_eq_true (by kernel_rfl)) (by unfold Func.isWrapper; first | (rw [if_pos (by decide +kernel)]; kernel_rfl) | (rw [if_neg (by decide +kernel)]; exact ⟨rfl, rfl⟩))
    (fun os started H enc _ F => lifted os started H enc F)
end Go.Proofs.Ytcnbmpkbocnniaa.rowTableFold
namespace Go.Proofs.Ytcnbmpkbocnniaa
theorem TableFold_holds : Rows.TableFoldUptoSaid := rowTableFold.over
#print axioms TableFold_holds
end Go.Proofs.Ytcnbmpkbocnniaa
