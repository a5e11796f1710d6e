/- Walks: items: the beginning; is one ahead of another. -/
import Derived.Test.YtmdcgekiiopohaaGreatME
import Derived.Test.YtmdcgekiiopohaaGreatAuto2
import Derived.Test.YtmdcgekiiopohaaGreatPureI
import Derived.Test.YtmdcgekiiopohaaGreatMD
set_option linter.unusedVariables false
set_option linter.unusedSimpArgs false
set_option linter.all false
namespace Go.Cb
open Go.RowKit
def startTo (s : SemS) : List Itm := s.mapIdx fun j x => ((j : Int), x.1)
theorem startTo_take {s : SemS} {k : Nat} {x : Lin} (h : s[k]? = some x) : startTo (s.take (k + 1)) = startTo (s.take k) ++ [((k : Int), x.1)] := by
  have hk := (List.getElem?_eq_some_iff.1 h).1
  unfold startTo
  rw [List.take_add_one, h]
  simp only [Option.toList_some, List.mapIdx_concat, List.length_take]
  rw [Nat.min_eq_left (by omega)]
theorem startTo_len (s : SemS) : (startTo s).length = s.length := by simp [startTo]
end Go.Cb
namespace Go.Proofs.YtmdcgekiiopohaaGreat
open Go.RowKit Go.Cb Go.Sort
/-- Items, read alone, in blocks from b on. -/
def DItm (b : Nat) (w : World) (v : Value) (l : List Itm) : Prop := ∃ A c, v = .slice A l.length c ∧ Rd itemT w (Ge b) A c l
theorem DItm.nil (b : Nat) (w : World) : DItm b w (.slice none 0 0) [] := ⟨none, 0, rfl, Rd.nil _ _ _ _ _ (by decide)⟩
theorem DItm.to {b : Nat} {w w' : World} {v : Value} {l : List Itm} (h : DItm b w v l) (hb : Bel w w') : DItm b w' v l := by
  obtain ⟨A, c, e, r⟩ := h
  exact ⟨A, c, e, r.to hb⟩
theorem info_item : (Tryz.prog.info? 100).map (fun i => (i.zero, i.size, i.bytes)) = some (some (.agg #[.int .i64 0, .slice none 0 0]), 2, 32) := by kernel_rfl
set_option maxRecDepth 100000 in
set_option maxHeartbeats 8000000 in
theorem autoStart_c (S : Nat → Prop) (A : Option Addr) (c : Nat) (s : SemS) (w : World) (h : Rd linT w S A c s) (n : Nat) (hn : n = s.length) (hl : s.length ≤ 1073741824) :
    Calls Tryz.prog 27 #[.slice A n c] w fun e w' => ∃ v, e = .returned v ∧ DItm w.heap.size w' v (startS s) ∧ Bel w w' := by
  subst hn
  have KR := Lib.hid (semRight_c _ _ _ _ _ h _ rfl)
  have H := Lib.hid h
  clear h
  cases hr : rightS s with
  | false =>
    have Hu := Lib.hid (show startS s = [] by unfold startS; rw [if_neg (by rw [hr]; decide)])
    rw [hr] at KR
    clear hr
    go_enter Tryz.func27, Tryz.ntmps27
    go_wp2_with fail
    refine KR.out.mono ?_
    rintro e w1 ⟨rfl, hb1⟩
    go_wp2
    go_ret
    rw [Hu.out]
    exact ⟨_, rfl, DItm.nil _ _, hb1⟩
  | true =>
    have Hu := Lib.hid (show startS s = startTo s by unfold startS; rw [if_pos hr]; rfl)
    have HRS := Lib.hid hr
    rw [hr] at KR
    clear hr
    go_enter Tryz.func27, Tryz.ntmps27
    go_wp2_with fail
    refine KR.out.mono ?_
    rintro e w1 ⟨rfl, hb1⟩
    go_wp2
    go_loopw [3, 11] (fun v3 v11 wr => ∃ (k : Nat) (W : World) (AS : Option Addr) (cS : Nat), W = wr ∧ k ≤ s.length ∧ v11 = .int .i64 k ∧ v3 = .slice AS k cS ∧ Own itemT 100 W w1.heap.size (Ge w1.heap.size) (.slice AS k cS) (startTo (s.take k)) ∧ Bel w1 W) (fun _ v11 _ => s.length - (intOf v11).toNat)
    case atStart => exact ⟨0, _, none, 0, rfl, Nat.zero_le _, rfl, rfl, Own.nil _ _ _ _ _, Bel.refl _⟩
    case round =>
      obtain ⟨k, W, AS, cS, rfl, hk, rfl, rfl, hO, hbW⟩ := hrel
      by_cases hlt : k < s.length
      · obtain ⟨ad, A2, c2, A3, c3, rfl, x0, x1, r0, _⟩ := (H.out.to (hb1.trans hbW)).lrow hlt
        obtain ⟨⟨xb, xp⟩, hx⟩ : ∃ x, s[k] = x := ⟨_, rfl⟩
        have HT := Lib.hid (startTo_take (show s[k]? = some (xb, xp) by rw [List.getElem?_eq_getElem hlt, hx]))
        have hrx : rightL (xb, xp) = true := by rw [← hx]; exact (rightS_iff.1 HRS.out).each _ (List.getElem_mem hlt)
        have lb : xb.length ≤ 12 := right_len (rightL_iff.1 hrx).1
        rw [hx] at x0 x1 r0
        dsimp only at x0 x1 r0
        have hal : Bel W (W.alloc (.cells #[.slice A2 xb.length c2, .slice A3 xp.length c3] 30)) := (Bel.refl _).alloc _
        have HX0 := Lib.hid (r0.to hal)
        have hbx := Box.new W 30 (.slice A2 xb.length c2) (.slice A3 xp.length c3)
        obtain ⟨z0, z1, _, _⟩ := hbx.cells
        have HO := Lib.hid (hO.to hal)
        have HOL := Lib.hid (fun k hk => hO.lt (k := k) hk)
        have hll : (startTo (s.take k)).length = k := by rw [startTo_len, List.length_take]; omega
        have HLL := Lib.hid hll
        have hb1x := hbW.trans hal
        have hsW := hal.size
        have hs1 := hbW.size
        clear hx hrx r0 hO hll hbx
        go_wp2_with fail
        refine (clone_c _ _ _ _ _ HX0.out _ rfl (by omega)).mono ?_
        rintro e w2 ⟨v2, rfl, ho2, hb2⟩
        obtain ⟨A2', c2', rfl, hr2⟩ := ho2.rdGe
        have HR2 := Lib.hid hr2
        have HO2 := Lib.hid (HO.out.to hb2)
        have hb12 := hb1x.trans hb2
        clear ho2 hr2
        go_wp2_with (at_builtin; refine wp_append1 itemT (w0 := w1) 66 100 (.agg #[.int .i64 0, .slice none 0 0]) 32 rfl _ _ rfl Tryz.underlying66 info_item rfl (Ge w1.heap.size) (.slice AS k cS) (startTo (s.take k)) ((k : Int), xb) [.int .i64 k, .slice A2' xb.length c2'] rfl rfl HO2.out ⟨[_], [_], rfl, rfl, ⟨A2', c2', rfl, HR2.out.mono (fun j hj => ⟨by unfold Ge at *; omega, fun e => by have := HOL.out j e.symm; unfold Ge at hj; omega⟩)⟩⟩ hb12 (by rw [HLL.out]; unfold maxLen; omega) (by rw [HLL.out]; omega) ?_; rintro v7 w7 ho7 hb7 _ _; obtain ⟨A7, c7, hv7⟩ := ho7.form; rw [List.length_append, HLL.out, List.length_singleton] at hv7; subst hv7; rw [← HT.out] at ho7)
        go_roundw
        case rel => exact ⟨k + 1, _, A7, c7, rfl, by omega, by go_num, rfl, ho7, hb7⟩
        case measure => simp [intOf]; omega
      · obtain rfl : k = s.length := by omega
        rw [List.take_length] at hO
        obtain ⟨AZ, cZ, eZ, rZ⟩ := hO.rdGe
        injection eZ with z1 z2 z3
        clear z2
        subst z1 z3
        have HZ := Lib.hid rZ
        have HL := Lib.hid (startTo_len s)
        have hs1 := hb1.size
        clear hO rZ
        go_wp2
        go_ret
        rw [Hu.out]
        exact ⟨_, rfl, ⟨AS, cS, by rw [HL.out]; rfl, HZ.out.mono (fun k hk => by unfold Ge at *; omega)⟩, hb1.trans hbW⟩
end Go.Proofs.YtmdcgekiiopohaaGreat
