/- Walks: the document's words; helps. -/
import Derived.Test.YtghdleofbkalbaaBag5
namespace Go.Proofs.Ytghdleofbkalbaa
open Go.RowKit Go.Cb

set_option maxHeartbeats 1000000 in
theorem refNorm_c (S : Nat → Prop) (A : Option Addr) (c : Nat) (l : List Int) (w : World) (h : Rd intT w S A c l) (n : Nat) (hn : n = l.length) (hl : l.length * 8 ≤ 140737488355328) :
    Calls Try.prog 45 #[.slice A n c] w fun e w' => ∃ v, e = .returned v ∧ Own intT 3 w' w.heap.size (Ge w.heap.size) v (normB l) ∧ Bel w w' := by
  subst hn
  have hm := h.lenMax
  have hcap := h.cap
  have goal : ∀ k : Nat, k ≤ l.length → cutB l = l.take k → ∀ w1 : World, True := fun _ _ _ _ => trivial
  clear goal
  go_enter Try.func45, Try.ntmps45
  go_wp2
  go_loop [3] (fun v => ∃ k : Nat, k ≤ l.length ∧ v = .int .i64 k ∧ Hid (∀ x ∈ l.drop k, x = 0)) (fun v => (intOf v).toNat)
  case atStart => exact ⟨l.length, Nat.le_refl _, rfl, by intro x hx; simp at hx⟩
  case round =>
    obtain ⟨k, hk, rfl, hp⟩ := hrel
    by_cases hk0 : 0 < k
    · obtain ⟨ad, rfl, hc⟩ := h.int (k := k - 1) (by omega)
      have h2 : (1 : Int) ≤ (k : Int) := by omega
      by_cases hz : (l[k - 1] == 0) = true
      · go_wp2
        go_round
        case rel => exact ⟨k - 1, by omega, by go_num, cut_snoc hk0 hk (beq_iff_eq.1 hz) hp⟩
        case measure => simp [intOf]; omega
      · have hz : (l[k - 1] == 0) = false := by simpa using hz
        have Hcut := Lib.hid (cutB_eq hk hp (.inr ⟨hk0, by simpa using hz⟩))
        go_wp2_with (at_builtin; refine wp_append intT (w0 := w) 23 3 (.int .i64 0) 8 rfl _ _ rfl Try.underlying23 info_int rfl (Ge w.heap.size) S _ [] (l.take k) (some ad) _ c rfl rfl (by simp; omega) (Own.nil _ _ _ _ _) (h.take k) (fun _ _ h => h) (Bel.refl _) (by simp [maxLen]; omega) (by simp; omega) ?_; rintro v1 w1 ho hb1 _ _)
        rw [List.nil_append] at ho
        obtain ⟨A1, c1, rfl, hr⟩ := ho.rd
        have hlen : (l.take k).length = k := by simp; omega
        cases hR : rightB (l.take k) with
        | true =>
          have Hn := Lib.hid (show normB l = l.take k from by unfold normB; rw [Hcut.out, if_pos hR])
          rw [hlen] at ho
          go_wp2_with (go_at_call 49; refine (refRight_c _ _ _ _ _ hr _ rfl).mono ?_; rintro e w' ⟨rfl, rfl⟩)
          go_ret
          exact ⟨_, rfl, by rw [Hn.out]; exact ho, hb1⟩
        | false =>
          have Hn := Lib.hid (show normB l = [] from by unfold normB; rw [Hcut.out, hR]; rfl)
          go_wp2_with (go_at_call 49; refine (refRight_c _ _ _ _ _ hr _ rfl).mono ?_; rintro e w' ⟨rfl, rfl⟩)
          go_ret
          exact ⟨_, rfl, by rw [Hn.out]; exact Own.nil _ _ _ _ _, hb1⟩
    · obtain rfl : k = 0 := by omega
      have Hcut := Lib.hid (cutB_eq (Nat.zero_le _) hp (.inl rfl))
      go_wp2_with (at_builtin; refine wp_append intT (w0 := w) 23 3 (.int .i64 0) 8 rfl _ _ rfl Try.underlying23 info_int rfl (Ge w.heap.size) S _ [] (l.take 0) A _ c rfl rfl (by simp) (Own.nil _ _ _ _ _) (h.take 0) (fun _ _ h => h) (Bel.refl _) (by simp [maxLen]) (by simp) ?_; rintro v1 w1 ho hb1 _ _)
      rw [List.nil_append] at ho
      obtain ⟨A1, c1, rfl, hr⟩ := ho.rd
      have Hn := Lib.hid (show normB l = l.take 0 from by unfold normB; rw [Hcut.out]; rfl)
      go_wp2_with (go_at_call 49; refine (refRight_c _ _ _ _ _ hr _ rfl).mono ?_; rintro e w' ⟨rfl, rfl⟩)
      go_ret
      exact ⟨_, rfl, by rw [Hn.out]; exact ho, hb1⟩

set_option maxHeartbeats 1000000 in
theorem copyInt_c (S : Nat → Prop) (A : Option Addr) (c : Nat) (l : List Int) (w : World) (h : Rd intT w S A c l) (n : Nat) (hn : n = l.length) (hl : l.length * 8 ≤ 140737488355328) :
    Calls Try.prog 12 #[.slice A n c] w fun e w' => ∃ v, e = .returned v ∧ Own intT 3 w' w.heap.size (Ge w.heap.size) v l ∧ Bel w w' := by
  subst hn
  go_enter Try.func12, Try.ntmps12
  go_wp2_with (at_builtin; refine wp_append intT (w0 := w) 22 3 (.int .i64 0) 8 rfl _ _ rfl Try.underlying22 info_int rfl (Ge w.heap.size) S _ [] l A _ c rfl rfl rfl (Own.nil _ _ _ _ _) h (fun _ _ h => h) (Bel.refl _) (by simp [maxLen]; omega) (by simpa using hl) ?_; rintro v1 w1 ho hb1 _ _)
  go_ret
  exact ⟨_, rfl, ho, hb1⟩

set_option maxHeartbeats 1000000 in
theorem cutInt_c (S : Nat → Prop) (A : Option Addr) (c : Nat) (l : List Int) (k : Nat) (w : World) (h : Rd intT w S A c l) (n : Nat) (hn : n = l.length) (hl : l.length * 8 ≤ 140737488355328) (K : Int) (hK : K = (k : Int)) :
    Calls Try.prog 43 #[.slice A n c, .int .i64 K] w fun e w' => ∃ v, e = .returned v ∧ Own intT 3 w' w.heap.size (Ge w.heap.size) v (l.take k) ∧ Bel w w' := by
  subst hn hK
  have hm := h.lenMax
  have hcap := h.cap
  by_cases hk : l.length < k
  · have Ht := Lib.hid (show l.take k = l from List.take_of_length_le (by omega))
    have hk2 : (l.length : Int) ≤ (k : Int) := by omega
    go_enter Try.func43, Try.ntmps43
    go_wp2_with (go_at_call 12; refine (copyInt_c S _ c l _ h _ rfl hl).mono ?_; rintro e w' ⟨v, rfl, ho, hb⟩)
    go_ret
    exact ⟨_, rfl, by rw [Ht.out]; exact ho, hb⟩
  · have hk2 : (k : Int) ≤ (l.length : Int) := by omega
    go_enter Try.func43, Try.ntmps43
    go_wp2_with (go_at_call 12; refine (copyInt_c S _ c (l.take k) _ (h.take k) _ (by simp; omega) (by simp; omega)).mono ?_; rintro e w' ⟨v, rfl, ho, hb⟩)
    all_goals
      go_ret
      exact ⟨_, rfl, ho, hb⟩

set_option maxHeartbeats 2000000 in
theorem sameInt_c (S S' : Nat → Prop) (A B : Option Addr) (ca cb : Nat) (a b : List Int) (w : World) (ha : Rd intT w S A ca a) (hb : Rd intT w S' B cb b) (n m : Nat) (hn : n = a.length) (hm : m = b.length) :
    Calls Try.prog 19 #[.slice A n ca, .slice B m cb] w fun e w' => e = .returned (.bool (decide (a = b))) ∧ Bel w w' := by
  subst hn hm
  have la := ha.lenMax
  have lb := hb.lenMax
  by_cases hl : a.length = b.length
  · have hlb : (a.length == b.length) = true := by simpa using hl
    have Hl := Lib.hid hl
    clear hl
    go_enter Try.func19, Try.ntmps19
    go_wp2
    go_loopw [5] (fun v wr => ∃ k : Nat, k ≤ a.length ∧ v = .int .i64 k ∧ Hid (∀ i, i < k → a.getD i 0 = b.getD i 0) ∧ Bel w wr) (fun v _ => a.length - (intOf v).toNat)
    case atStart => exact ⟨0, Nat.zero_le _, rfl, fun i hi => absurd hi (by omega), Bel.refl _⟩
    case round =>
      obtain ⟨k, hk, rfl, hp, hbl⟩ := hrel
      by_cases hlt : k < a.length
      · have hltb : k < b.length := by rw [← Hl.out]; exact hlt
        obtain ⟨ad, rfl, hca⟩ := (ha.to hbl).int hlt
        obtain ⟨bd, rfl, hcb⟩ := (hb.to hbl).int hltb
        cases he : (a[k] == b[k]) with
        | true =>
          have Hs := Lib.hid (agree_snoc hlt hltb hp (beq_iff_eq.1 he))
          have he2 : (a[k] != b[k]) = false := by rw [bne, he]; rfl
          go_wp2
          go_quiet (fail)
          go_wp2
          go_roundw
          case rel => exact ⟨k + 1, by omega, by go_num, Hs.out, hbl.drewN _⟩
          case measure => simp [intOf]; omega
        | false =>
          have Hs := Lib.hid (show decide (a = b) = false from decide_eq_false (fun e => by subst e; simp at he))
          have he2 : (a[k] != b[k]) = true := by rw [bne, he]; rfl
          go_wp2
          go_quiet (fail)
          go_wp2
          go_ret
          exact ⟨by rw [Hs.out]; rfl, hbl.drewN _⟩
      · have Hs := Lib.hid (show decide (a = b) = true from decide_eq_true (list_ext Hl.out (fun i hi => hp i (by omega))))
        go_wp2
        go_ret
        exact ⟨by rw [Hs.out]; rfl, hbl⟩
  · have hlb : (a.length == b.length) = false := by simpa using hl
    have Hs := Lib.hid (show decide (a = b) = false from decide_eq_false (fun e => hl (by rw [e])))
    clear hl
    go_enter Try.func19, Try.ntmps19
    go_wp2
    go_ret
    exact ⟨by rw [Hs.out]; rfl, Bel.refl _⟩

set_option maxHeartbeats 1000000 in
theorem within_c (v n : Int) (w : World) (hn : n ≤ 9223372036854775807) :
    Calls Try.prog 13 #[.int .i64 v, .int .i64 n] w fun e w' => e = .returned (.int .i64 (withinI v n)) ∧ w = w' := by
  by_cases h1 : n < 1
  · have Hw := Lib.hid (show withinI v n = 0 from by unfold withinI; rw [if_pos h1])
    go_enter Try.func13, Try.ntmps13
    go_wp2
    go_ret
    exact ⟨by rw [Hw.out]; rfl, rfl⟩
  · have h1' : 1 ≤ n := by omega
    by_cases h0 : 0 ≤ v
    · have Hw := Lib.hid (show withinI v n = v % n from by unfold withinI; rw [if_neg h1])
      have q0 := Int.emod_nonneg v (b := n) (by omega)
      go_enter Try.func13, Try.ntmps13
      go_wp2
      go_ret
      exact ⟨by rw [Hw.out]; rfl, rfl⟩
    · obtain ⟨q0, q1, q2, q3⟩ := withinI_neg h1' (show v < 0 by omega)
      by_cases ht : v.tmod n < 0
      · have Hw := Lib.hid (q2 ht)
        clear q2 q3
        go_enter Try.func13, Try.ntmps13
        go_wp2
        go_ret
        exact ⟨by rw [← Hw.out]; rfl, rfl⟩
      · have Hw := Lib.hid (q3 ht)
        clear q2 q3
        go_enter Try.func13, Try.ntmps13
        go_wp2
        go_ret
        exact ⟨by rw [← Hw.out]; rfl, rfl⟩

set_option maxHeartbeats 1000000 in
theorem playAt_c (S : Nat → Prop) (A : Option Addr) (c : Nat) (l : List Int) (k : Nat) (w : World) (h : Rd intT w S A c l) (n : Nat) (hn : n = l.length) (K : Int) (hK : K = (k : Int)) :
    Calls Try.prog 51 #[.slice A n c, .int .i64 K] w fun e w' => e = .returned (.int .i64 (l.getD k 0)) ∧ w = w' := by
  subst hn hK
  have hl := h.lenMax
  by_cases hk : k < l.length
  · obtain ⟨ad, rfl, hc⟩ := h.int hk
    have Hg := Lib.hid (getD_of hk)
    go_enter Try.func51, Try.ntmps51
    go_wp2
    go_ret
    exact ⟨by rw [Hg.out]; rfl, rfl⟩
  · have Hg := Lib.hid (getD_out (l := l) (k := k) (by omega))
    go_enter Try.func51, Try.ntmps51
    go_wp2
    go_ret
    exact ⟨by rw [Hg.out]; rfl, rfl⟩
end Go.Proofs.Ytghdleofbkalbaa
