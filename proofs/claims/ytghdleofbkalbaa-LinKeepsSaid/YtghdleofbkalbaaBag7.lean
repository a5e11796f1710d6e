/- Walks: the words that the statements make; the document's sums, differences, order. -/
import Derived.Test.YtghdleofbkalbaaBag6
import Derived.Test.YtghdleofbkalbaaLib2
namespace Go.Proofs.Ytghdleofbkalbaa
open Go.RowKit Go.Cb

set_option maxHeartbeats 4000000 in
theorem playBag_c (S : Nat → Prop) (A : Option Addr) (c : Nat) (l : List Int) (w : World) (h : Rd intT w S A c l) (hr : ∀ x ∈ l, -9223372036854775808 ≤ x ∧ x ≤ 9223372036854775807) (n : Nat) (hn : n = l.length) :
    Calls Try.prog 28 #[.slice A n c] w fun e w' => ∃ v, e = .returned v ∧ Own intT 3 w' w.heap.size (Ge w.heap.size) v (playBag l) ∧ Bel w w' := by
  subst hn
  have hl := h.lenMax
  go_enter Try.func28, Try.ntmps28
  go_wp2_with (at_make; refine wp_make (enc := Value.int .i64) (fun _ => rfl) (0 : Int) (w0 := w) 23 3 8 rfl _ _ rfl Try.underlying23 info_int rfl 4 _ _ rfl rfl rfl rfl (Bel.refl _) (by omega) (by simp [maxLen]) ?_; intro w1 ho hb hb2 hsz)
  rw [← playF_zero l] at ho
  clear hb2 hsz
  go_wp2
  go_loopw [9] (fun v9 wr => ∃ k : Nat, k ≤ 4 ∧ v9 = .int .i64 k ∧ Own (scalar (Value.int .i64) (fun _ => rfl)) 3 wr w.heap.size All (.slice (some ⟨w.heap.size, 0, none⟩) 4 4) (playF l k) ∧ Bel w wr) (fun v9 _ => 4 - (intOf v9).toNat)
  case atStart => exact ⟨0, Nat.zero_le _, rfl, ho, hb⟩
  case round =>
    clear ho hb
    obtain ⟨k, hk, rfl, ho, hb⟩ := hrel
    by_cases hlt : k < 4
    · obtain ⟨hc1, hf1⟩ := ho.cell (i := k) (by rw [playF_len]; exact hlt)
      have hx : -9223372036854775808 ≤ l.getD k 0 ∧ l.getD k 0 ≤ 9223372036854775807 := by
        by_cases hkl : k < l.length
        · rw [getD_of hkl]; exact hr _ (List.getElem_mem hkl)
        · rw [getD_out (by omega)]; omega
      have Hst := Lib.hid (playF_step l hlt)
      obtain ⟨x, hxe⟩ : ∃ x, l.getD k 0 = x := ⟨_, rfl⟩
      rw [hxe] at hx Hst
      have Hxe := Lib.hid hxe
      clear hxe
      obtain ⟨hx0, hx1⟩ := hx
      go_wp2_with (go_at_call 51; refine (playAt_c S A c l k _ (h.to hb) _ rfl _ rfl).mono ?_; rw [Hxe.out]; rintro e w' ⟨rfl, rfl⟩)
      by_cases hpos : 0 ≤ x ∧ x % 11 = 10
      · have Hp := Lib.hid (show playN x = withinI x 40 from by unfold playN; rw [if_pos hpos])
        obtain ⟨p0, p1⟩ := hpos
        have p2 : (x % 11 == 10) = true := by rw [beq_iff_eq]; exact p1
        clear p1
        go_wp2_with fail
        refine (within_c x 4 _ (by omega)).mono ?_
        rintro e w' ⟨rfl, rfl⟩
        have ho2 := Own.set ho k (withinI x 4)
        obtain ⟨hc2, hf2⟩ := ho2.cell (i := k) (by rw [List.length_set, playF_len]; exact hlt)
        go_wp2_with fail
        refine (within_c x 40 _ (by omega)).mono ?_
        rintro e w' ⟨rfl, rfl⟩
        have ho3 := Own.set ho2 k (withinI x 40)
        rw [List.set_set, ← Hp.out, Hst.out] at ho3
        go_wp2
        go_roundw
        case rel => exact ⟨k + 1, by omega, by go_num, by rw [← Hp.out]; exact ho3, (hb.set (Nat.le_refl _) _).set (Nat.le_refl _) _⟩
        case measure => simp [intOf]; omega
      · have Hp := Lib.hid (show playN x = withinI x 4 from by unfold playN; rw [if_neg hpos])
        have ho2 := Own.set ho k (withinI x 4)
        rw [← Hp.out, Hst.out] at ho2
        by_cases p0 : 0 ≤ x
        · have p2 : (x % 11 == 10) = false := by rw [beq_eq_false_iff_ne]; exact fun e => hpos ⟨p0, e⟩
          clear hpos
          go_wp2_with (go_at_call 13; refine (within_c x 4 _ (by omega)).mono ?_; rintro e w' ⟨rfl, rfl⟩)
          go_roundw
          case rel => exact ⟨k + 1, by omega, by go_num, by rw [← Hp.out]; exact ho2, hb.set (Nat.le_refl _) _⟩
          case measure => simp [intOf]; omega
        · have p1 : x.tmod 11 ≤ 0 := (withinI_neg (v := x) (n := 11) (by omega) (by omega)).1
          have p2 : (x.tmod 11 == 10) = false := by rw [beq_eq_false_iff_ne]; omega
          clear hpos p1
          go_wp2_with (go_at_call 13; refine (within_c x 4 _ (by omega)).mono ?_; rintro e w' ⟨rfl, rfl⟩)
          go_roundw
          case rel => exact ⟨k + 1, by omega, by go_num, by rw [← Hp.out]; exact ho2, hb.set (Nat.le_refl _) _⟩
          case measure => simp [intOf]; omega
    · obtain rfl : k = 4 := by omega
      obtain ⟨A2, c2, he, hr2⟩ := ho.rd
      rw [playF_len] at he
      have h1 : A2 = some ⟨w.heap.size, 0, none⟩ := by injection he with he; exact he.symm
      have h2 : c2 = 4 := by injection he with _ _ he; exact he.symm
      subst h1 h2
      clear he
      have Hp := Lib.hid (playF_four l)
      go_wp2_with (go_at_call 45; refine (refNorm_c _ _ _ _ _ hr2 _ (playF_len l 4).symm (by rw [playF_len]; omega)).mono ?_; rintro e w' ⟨v, rfl, hv, hbv⟩)
      go_ret
      refine ⟨_, rfl, ?_, hb.trans hbv⟩
      unfold playBag
      rw [← Hp.out]
      exact (hv.lower hb.size).any

set_option maxHeartbeats 2000000 in
theorem refCompareQ_c (S S' : Nat → Prop) (A B : Option Addr) (ca cb : Nat) (a b : List Int) (w : World) (ha : Rd intT w S A ca a) (hb : Rd intT w S' B cb b) (n m : Nat) (hn : n = a.length) (hm : m = b.length) :
    Calls Try.prog 50 #[.slice A n ca, .slice B m cb] w fun e w' => e = .returned (.int .i64 (cmpB a b)) ∧ Dr w w' := by
  subst hn hm
  have la := ha.lenMax
  have lb := hb.lenMax
  cases hA : rightB a with
  | false =>
    have Hn := Lib.hid (show cmpB a b = 0 from by unfold cmpB; rw [if_neg (by simp [hA])])
    go_enter Try.func50, Try.ntmps50
    go_wp2_with fail
    refine (refRight_c _ _ _ _ _ ha _ rfl).mono ?_
    rintro e w' ⟨rfl, rfl⟩
    go_wp2_with fail
    go_ret
    exact ⟨by rw [Hn.out]; rfl, Dr.refl _⟩
  | true =>
    cases hB : rightB b with
    | false =>
      have Hn := Lib.hid (show cmpB a b = 0 from by unfold cmpB; rw [if_neg (by simp [hB])])
      go_enter Try.func50, Try.ntmps50
      go_wp2_with fail
      refine (refRight_c _ _ _ _ _ ha _ rfl).mono ?_
      rintro e w' ⟨rfl, rfl⟩
      go_wp2_with fail
      refine (refRight_c _ _ _ _ _ hb _ rfl).mono ?_
      rintro e w' ⟨rfl, rfl⟩
      go_wp2_with fail
      go_ret
      exact ⟨by rw [Hn.out]; rfl, Dr.refl _⟩
    | true =>
      by_cases hl : a.length = b.length
      · have Hn := Lib.hid (show cmpB a b = cmpL a b from by unfold cmpB; rw [if_pos ⟨hA, hB⟩, if_pos hl])
        have d : (a.length == b.length) = true := by simpa using hl
        have d2 : ((a.length : Int) != (b.length : Int)) = false := by simp; omega
        have Hl := Lib.hid hl
        clear hl
        go_enter Try.func50, Try.ntmps50
        go_wp2_with fail
        refine (refRight_c _ _ _ _ _ ha _ rfl).mono ?_
        rintro e w' ⟨rfl, rfl⟩
        go_wp2_with fail
        refine (refRight_c _ _ _ _ _ hb _ rfl).mono ?_
        rintro e w' ⟨rfl, rfl⟩
        go_wp2_with fail
        clear hA hB
        go_loopw [26] (fun v wr => ∃ k : Nat, k ≤ a.length ∧ v = .int .i64 k ∧ Hid (∀ i, i < k → a.getD i 0 = b.getD i 0) ∧ Dr w wr) (fun v _ => a.length - (intOf v).toNat)
        case atStart => exact ⟨0, Nat.zero_le _, rfl, fun i hi => absurd hi (by omega), Dr.refl _⟩
        case round =>
          obtain ⟨k, hk, rfl, hp, hbl⟩ := hrel
          by_cases hlt : k < a.length
          · have hltb : k < b.length := by rw [← Hl.out]; exact hlt
            obtain ⟨ad, rfl, hca⟩ := (ha.to hbl.bel).int hlt
            obtain ⟨bd, rfl, hcb⟩ := (hb.to hbl.bel).int hltb
            by_cases h1 : a[k] < b[k]
            · have Hr := Lib.hid ((cmpL_at hlt hltb hp (by omega)).trans (cmpI_lt h1))
              go_wp2
              go_quiet (fail)
              go_wp2
              go_ret
              exact ⟨by rw [Hn.out, Hr.out]; rfl, hbl.drewN _⟩
            · by_cases h2 : b[k] < a[k]
              · have Hr := Lib.hid ((cmpL_at hlt hltb hp (by omega)).trans (cmpI_gt h2))
                go_wp2
                go_quiet (fail)
                go_wp2
                go_quiet (fail)
                go_wp2
                go_ret
                exact ⟨by rw [Hn.out, Hr.out]; rfl, (hbl.drewN _).drewN _⟩
              · have Hs := Lib.hid (agree_snoc hlt hltb hp (by omega))
                go_wp2
                go_quiet (fail)
                go_wp2
                go_quiet (fail)
                go_wp2
                go_roundw
                case rel => exact ⟨k + 1, by omega, by go_num, Hs.out, hbl.drewN _⟩
                case measure => simp [intOf]; omega
          · have Hr := Lib.hid (cmpL_same Hl.out (fun i hi => hp i (by omega)))
            go_wp2
            go_ret
            exact ⟨by rw [Hn.out, Hr.out]; rfl, hbl⟩
      · have d : (a.length == b.length) = false := by simpa using hl
        by_cases h1 : a.length < b.length
        · have Hn := Lib.hid (show cmpB a b = -1 from by unfold cmpB; rw [if_pos ⟨hA, hB⟩, if_neg hl, cmpI_lt (by omega)])
          clear hl
          go_enter Try.func50, Try.ntmps50
          go_wp2_with fail
          refine (refRight_c _ _ _ _ _ ha _ rfl).mono ?_
          rintro e w' ⟨rfl, rfl⟩
          go_wp2_with fail
          refine (refRight_c _ _ _ _ _ hb _ rfl).mono ?_
          rintro e w' ⟨rfl, rfl⟩
          go_wp2_with fail
          go_ret
          exact ⟨by rw [Hn.out]; rfl, Dr.refl _⟩
        · have Hn := Lib.hid (show cmpB a b = 1 from by unfold cmpB; rw [if_pos ⟨hA, hB⟩, if_neg hl, cmpI_gt (by omega)])
          clear hl
          go_enter Try.func50, Try.ntmps50
          go_wp2_with fail
          refine (refRight_c _ _ _ _ _ ha _ rfl).mono ?_
          rintro e w' ⟨rfl, rfl⟩
          go_wp2_with fail
          refine (refRight_c _ _ _ _ _ hb _ rfl).mono ?_
          rintro e w' ⟨rfl, rfl⟩
          go_wp2_with fail
          go_ret
          exact ⟨by rw [Hn.out]; rfl, Dr.refl _⟩
theorem refCompare_c (S S' : Nat → Prop) (A B : Option Addr) (ca cb : Nat) (a b : List Int) (w : World) (ha : Rd intT w S A ca a) (hb : Rd intT w S' B cb b) (n m : Nat) (hn : n = a.length) (hm : m = b.length) :
    Calls Try.prog 50 #[.slice A n ca, .slice B m cb] w fun e w' => e = .returned (.int .i64 (cmpB a b)) ∧ Bel w w' :=
  (refCompareQ_c S S' A B ca cb a b w ha hb n m hn hm).mono fun _ _ ⟨h1, h2⟩ => ⟨h1, h2.bel⟩

end Go.Proofs.Ytghdleofbkalbaa
