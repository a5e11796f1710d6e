/- Walks: is a word one of a set's, of no meter. -/
import Derived.Test.YtmdcgekiiopohaaGreatPureH
import Derived.Test.YtmdcgekiiopohaaGreatAuto1
set_option linter.unusedVariables false
set_option linter.unusedSimpArgs false
set_option linter.all false
namespace Go.Proofs.YtmdcgekiiopohaaGreat
open Go.RowKit Go.Cb Go.Sort Go.Shelf
set_option maxRecDepth 100000 in
set_option maxHeartbeats 16000000 in
theorem inclHasN_c (S S' : Nat → Prop) (A B : Option Addr) (ca cb : Nat) (s : SemS) (wd : List Int) (w : World) (h : Rd linT w S A ca s) (hb : Rd intT w S' B cb wd) (n m : Nat) (hn : n = s.length) (hm : m = wd.length) (hs : SetP s) (hw : rightB wd = true) (hw4 : wd.length ≤ 4) :
    Calls Tryz.prog 12 #[.pointer none, .slice A n ca, .slice B m cb] w fun e w' => e = .returned (.tuple #[.bool (hasS s wd), .int .i64 0]) ∧ Bel w w' := by
  subst hn hm
  have HSP := Lib.hid hs
  have HWR := Lib.hid hw
  have HS := Lib.hid h
  have HB := Lib.hid hb
  have Q1 := semRight_c _ A ca s w h _ rfl
  rw [hs.right] at Q1
  have HQ1 := Lib.hid Q1
  have hs6 := hs.six
  clear h hb hs hw Q1
  go_enter Tryz.func12, Tryz.ntmps12
  go_wp2_with fail
  refine HQ1.out.mono ?_
  rintro e w1 ⟨rfl, hb1⟩
  have HB1 := Lib.hid (HB.out.to hb1)
  have HS1 := Lib.hid (HS.out.to hb1)
  have Q2 := right_c _ B cb wd w1 HB1.out _ rfl
  rw [HWR.out] at Q2
  have HQ2 := Lib.hid Q2
  clear Q2 HQ1 HB HS
  go_wp2_with fail
  refine HQ2.out.mono ?_
  rintro e w2 ⟨rfl, rfl⟩
  clear HQ2
  go_wp2
  go_loopw [8, 24] (fun v8 v24 wr => ∃ (k : Nat) (W : World), W = wr ∧ k ≤ wd.length ∧ v24 = .int .i64 k ∧ v8 = .int .i64 (digB wd k) ∧ w1 = W) (fun _ v24 _ => wd.length - (intOf v24).toNat)
  case atStart => exact ⟨0, _, rfl, Nat.zero_le _, rfl, rfl, rfl⟩
  case round =>
    obtain ⟨k, W, rfl, hk, rfl, rfl, rfl⟩ := hrel
    by_cases hlt : k < wd.length
    · obtain ⟨ad, rfl, hc⟩ := HB1.out.int hlt
      obtain ⟨x, hx⟩ : ∃ x, wd[k] = x := ⟨_, rfl⟩
      have hx0 := right_ok HWR.out x (by rw [← hx]; exact List.getElem_mem hlt)
      have hd := digB_succ (w := wd) (k := k) (x := x) (by rw [List.getElem?_eq_getElem hlt, hx])
      have hd1 := digB_le HWR.out k
      have hd2 := digB_le HWR.out (k + 1)
      unfold far at hx0
      obtain ⟨hx00, hx01⟩ := hx0
      have HL := Lib.hid (Any.bits_Len (SlLaysF0.n15.bits { Tryz.pdqI with }) x w1 (by omega) (by omega))
      rw [hx] at hc
      obtain ⟨L, hL⟩ : ∃ L, Go.Lib.bitLen x.toNat = L := ⟨_, rfl⟩
      rw [hL] at hd HL
      obtain ⟨D1, hD1⟩ : ∃ D1, digB wd k = D1 := ⟨_, rfl⟩
      obtain ⟨D2, hD2⟩ : ∃ D2, digB wd (k + 1) = D2 := ⟨_, rfl⟩
      rw [hD1] at hd hd1 ⊢
      rw [hD2] at hd hd2
      have HD2 := Lib.hid hD2
      have wr : IntKind.u64.wrap x = x := by simp [IntKind.wrap, IntKind.bits, IntKind.signed]; omega
      clear hx hL hD1 hD2
      rcases Nat.lt_or_ge D1 L with h9 | h9
      · obtain rfl : D2 = L := by omega
        have h8 : (D1 : Int) < (D2 : Int) := by omega
        clear hd
        go_wp2_with fail
        refine HL.out.mono ?_
        rintro e w3 ⟨rfl, rfl⟩
        go_wp2
        go_roundw
        case rel => exact ⟨k + 1, _, rfl, by omega, by go_num, by rw [HD2.out, show max (D1 : Int) (D2 : Int) = D2 by omega], rfl⟩
        case measure => simp [intOf]; omega
      · obtain rfl : D2 = D1 := by omega
        have h8 : (L : Int) ≤ (D2 : Int) := by omega
        clear hd
        go_wp2_with fail
        refine HL.out.mono ?_
        rintro e w3 ⟨rfl, rfl⟩
        go_wp2
        go_roundw
        case rel => exact ⟨k + 1, _, rfl, by omega, by go_num, by rw [HD2.out, show max (D2 : Int) (L : Int) = D2 by omega], rfl⟩
        case measure => simp [intOf]; omega
    · obtain rfl : k = wd.length := by omega
      have hd1 := digB_le HWR.out wd.length
      have HRB := Lib.hid (show hasS s wd = (readS s wd (digB wd wd.length)).any (fun x => x.2.length == 0) from rfl)
      obtain ⟨D, hD⟩ : ∃ D, digB wd wd.length = D := ⟨_, rfl⟩
      rw [hD] at HRB hd1 ⊢
      have Q3 := autoStart_c _ A ca s w1 HS1.out _ rfl (by omega)
      have HQ3 := Lib.hid Q3
      clear Q3 hD
      go_wp2_with fail
      refine HQ3.out.mono ?_
      rintro e w3 ⟨v3, rfl, ⟨A3, c3, rfl, hr3⟩, hb3⟩
      have HX3 := Lib.hid (show Rd itemT w3 All A3 c3 (readS s wd 0) from hr3.all)
      have HS3 := Lib.hid (HS1.out.to hb3)
      have HB3 := Lib.hid (HB1.out.to hb3)
      have HBB := Lib.hid (hb1.trans hb3)
      have h0l : (startS s).length = (readS s wd 0).length := rfl
      clear hr3 hb3 HQ3 hb1
      rw [h0l]
      clear h0l
      go_wp2
      go_loopw [11, 12, 37] (fun v11 v12 v37 wr => ∃ (d : Nat) (W : World) (A : Option Addr) (c : Nat), W = wr ∧ d ≤ D ∧ v37 = .int .i64 d ∧ v12 = .int .i64 0 ∧ v11 = .slice A (readS s wd d).length c ∧ Rd itemT W All A c (readS s wd d) ∧ Bel w3 W) (fun _ _ v37 _ => D - (intOf v37).toNat)
      case atStart => exact ⟨0, _, A3, c3, rfl, Nat.zero_le _, rfl, rfl, rfl, HX3.out, Bel.refl _⟩
      case round =>
        clear HX3
        obtain ⟨d, W, A9, c9, rfl, hd, rfl, rfl, rfl, hx, hbW⟩ := hrel
        by_cases hlt2 : d < D
        · have hlr : 0 ≤ lettI wd (d : Int) ∧ lettI wd (d : Int) ≤ 18446744073709551615 := by
            rw [lettI_in HWR.out (by omega), letS_at4 d hw4]
            have := letS_range wd d 4
            omega
          have hnx := readS_next HSP.out wd d
          obtain ⟨lt, hlte⟩ : ∃ lt, lettI wd (d : Int) = lt := ⟨_, rfl⟩
          have Q0 := letter_c _ B cb wd W (HB3.out.to hbW) (d : Int) _ rfl
          rw [hlte] at Q0 hlr hnx
          have HQ0 := Lib.hid Q0
          have HQ1 := Lib.hid (autoNextN_c _ _ A A9 ca c9 s (readS s wd d) lt W (HS3.out.to hbW) hx _ _ rfl rfl HSP.out (readS_box HSP.out wd d) hlr (readS s wd (d + 1)) hnx)
          clear hnx hlte hx Q0
          obtain ⟨n1, hn1⟩ : ∃ n, (readS s wd d).length = n := ⟨_, rfl⟩
          rw [hn1] at HQ1 ⊢
          clear hn1
          go_wp2_with fail
          refine HQ0.out.mono ?_
          rintro e w6 ⟨rfl, rfl⟩
          go_wp2_with fail
          refine HQ1.out.mono ?_
          rintro e w6 ⟨v, rfl, ⟨An, cn, rfl, hrn⟩, hb6⟩
          have hb56 := hbW.trans hb6
          have HN6 := Lib.hid hrn.all
          clear hrn hb6 HQ0 HQ1
          go_wp2
          go_roundw
          case rel => exact ⟨d + 1, _, An, cn, rfl, by omega, by go_num, rfl, rfl, HN6.out, hb56⟩
          case measure => simp [intOf]; omega
        · obtain rfl : d = D := by omega
          have Q := final_c _ A9 c9 (readS s wd d) W hx _ rfl
          rw [← HRB.out] at Q
          have HQ := Lib.hid Q
          clear Q hx
          obtain ⟨n1, hn1⟩ : ∃ n, (readS s wd d).length = n := ⟨_, rfl⟩
          rw [hn1] at HQ ⊢
          clear hn1
          go_wp2_with fail
          refine HQ.out.mono ?_
          rintro e w8 ⟨rfl, hb8⟩
          go_wp2
          go_ret2
          exact ⟨rfl, (HBB.out.trans hbW).trans hb8⟩
end Go.Proofs.YtmdcgekiiopohaaGreat
