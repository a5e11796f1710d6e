/- Walks: a word without noughts; words alike; the words of a set, sorted. -/
import Derived.Test.YtghdleofbkalbaaLin4
import Derived.Test.YtghdleofbkalbaaPure10
namespace Go.Proofs.Ytghdleofbkalbaa
open Go.RowKit Go.Cb
theorem word1_c (n : Int) (w : World) : Calls Try.prog 56 #[.int .i64 n] w fun e w' => e = .returned (.bool (n != 0)) ∧ w = w' := by
  go_enter Try.func56, Try.ntmps56
  go_wp2
  go_ret
  exact ⟨rfl, rfl⟩
set_option maxHeartbeats 1000000 in
theorem word_c (S : Nat → Prop) (A : Option Addr) (c : Nat) (b : List Int) (w : World) (h : Rd intT w S A c b) (n : Nat) (hn : n = b.length) (hl : b.length * 8 ≤ 140737488355328) :
    Calls Try.prog 34 #[.slice A n c] w fun e w' => ∃ v, e = .returned (.tuple #[v, .bool (!badB b)]) ∧ Own intT 3 w' w.heap.size (Ge w.heap.size) v (normB b) ∧ Bel w w' := by
  subst hn
  have CN := Lib.hid (norm_c S A c b w h _ rfl hl)
  have CC := Lib.hid (fun w1 (hb : Bel w w1) => containsFunc_c 56 (fun n => n != 0) (fun _ _ => by kernel_rfl) (fun n w => word1_c n w) S A c b w1 (h.to hb) _ rfl)
  have hbad : badB b = ((normB b).isEmpty && b.any (fun n => n != 0)) := by
    unfold badB zeroB
    congr 1
    rw [List.not_all_eq_any_not]; rfl
  clear h
  cases he : (normB b).isEmpty with
  | true =>
    rw [he] at hbad
    have HB := Lib.hid hbad
    have he2 : normB b = [] := by simpa using he
    rw [he2] at CN ⊢
    clear hbad he he2
    go_enter Try.func34, Try.ntmps34
    go_wp2_with fail
    refine CN.out.mono ?_
    rintro e w1 ⟨v, rfl, ho, hb⟩
    obtain ⟨A1, c1, rfl⟩ := ho.form
    go_wp2_with fail
    refine (CC.out _ hb).mono ?_
    rintro e w2 ⟨rfl, rfl⟩
    generalize b.any (fun n => n != 0) = r at *
    go_wp2
    go_ret2
    exact ⟨_, by rw [HB.out]; rfl, ho, hb⟩
  | false =>
    rw [he] at hbad
    have HB := Lib.hid hbad
    have hpos : 0 < (normB b).length := by
      cases e : normB b with
      | nil => rw [e] at he; simp at he
      | cons x r => simp
    generalize normB b = q at *
    clear hbad he
    go_enter Try.func34, Try.ntmps34
    go_wp2_with fail
    refine CN.out.mono ?_
    rintro e w1 ⟨v, rfl, ho, hb⟩
    obtain ⟨A1, c1, rfl⟩ := ho.form
    go_wp2
    go_ret2
    exact ⟨_, by rw [HB.out]; rfl, ho, hb⟩
set_option maxHeartbeats 2000000 in
theorem equalB_c (S S' : Nat → Prop) (A B : Option Addr) (ca cb : Nat) (a b : List Int) (w : World) (ha : Rd intT w S A ca a) (hb : Rd intT w S' B cb b) (n m : Nat) (hn : n = a.length) (hm : m = b.length) :
    Calls Try.prog 38 #[.slice A n ca, .slice B m cb] w fun e w' => e = .returned (.bool (decide (a = b))) ∧ Dr w w' := by
  subst hn hm
  have la := ha.lenMax
  have lb := hb.lenMax
  by_cases hl : a.length = b.length
  · have hlb : (a.length == b.length) = true := by simpa using hl
    have hlc : ((a.length : Int) != (b.length : Int)) = false := by simp; omega
    have Hl := Lib.hid hl
    clear hl
    go_enter Try.func38, Try.ntmps38
    go_wp2
    go_loopw [13] (fun v wr => ∃ k : Nat, k ≤ a.length ∧ v = .int .i64 k ∧ Hid (∀ i, i < k → a.getD i 0 = b.getD i 0) ∧ Dr w wr) (fun v _ => a.length - (intOf v).toNat)
    case atStart => exact ⟨0, Nat.zero_le _, rfl, fun i hi => absurd hi (by omega), Dr.refl _⟩
    case round =>
      obtain ⟨k, hk, rfl, hp, hbl⟩ := hrel
      by_cases hlt : k < a.length
      · have hltb : k < b.length := by rw [← Hl.out]; exact hlt
        obtain ⟨ad, rfl, hca⟩ := (ha.to hbl.bel).int hlt
        obtain ⟨bd, rfl, hcb⟩ := (hb.to hbl.bel).int hltb
        cases he : (a[k] == b[k]) with
        | true =>
          have Hs := Lib.hid (agree_snoc hlt hltb hp (beq_iff_eq.1 he))
          have he2 : (a[k] != b[k]) = false := by rw [bne, he]; rfl
          go_wp2
          go_quiet (fail)
          go_wp2
          go_roundw
          case rel => exact ⟨k + 1, by omega, by go_num, Hs.out, hbl.drewN _⟩
          case measure => simp [intOf]; omega
        | false =>
          have Hs := Lib.hid (show decide (a = b) = false from decide_eq_false (fun e => by subst e; simp at he))
          have he2 : (a[k] != b[k]) = true := by rw [bne, he]; rfl
          go_wp2
          go_quiet (fail)
          go_wp2
          go_ret
          exact ⟨by rw [Hs.out]; rfl, hbl.drewN _⟩
      · have Hs := Lib.hid (show decide (a = b) = true from decide_eq_true (list_ext Hl.out (fun i hi => hp i (by omega))))
        go_wp2
        go_ret
        exact ⟨by rw [Hs.out]; rfl, hbl⟩
  · have hlb : (a.length == b.length) = false := by simpa using hl
    have hlc : ((a.length : Int) != (b.length : Int)) = true := by simp; omega
    have Hs := Lib.hid (show decide (a = b) = false from decide_eq_false (fun e => hl (by rw [e])))
    clear hl
    go_enter Try.func38, Try.ntmps38
    go_wp2
    go_ret
    exact ⟨by rw [Hs.out]; rfl, Dr.refl _⟩
theorem of1_c (S S' : Nat → Prop) (A B : Option Addr) (ca cb : Nat) (a b : List Int) (w : World) (ha : Rd intT w S A ca a) (hb : Rd intT w S' B cb b) (n m : Nat) (hn : n = a.length) (hm : m = b.length) :
    Calls Try.prog 37 #[.slice A n ca, .slice B m cb] w fun e w' => e = .returned (.bool (decide (a = b))) ∧ Dr w w' := by
  have C := Lib.hid (equalB_c S S' A B ca cb a b w ha hb n m hn hm)
  clear ha hb hn hm
  generalize decide (a = b) = r at *
  go_enter Try.func37, Try.ntmps37
  go_wp2_with fail
  refine C.out.mono ?_
  rintro e w1 ⟨rfl, hd⟩
  go_wp2
  go_ret
  exact ⟨rfl, hd⟩
end Go.Proofs.Ytghdleofbkalbaa
