/- Walks: words, more. -/
import Derived.Test.YtghdleofbkalbaaBag1
namespace Go.Proofs.Ytghdleofbkalbaa
open Go.RowKit Go.Cb

theorem info_int : (Try.prog.info? 3).map (fun i => (i.zero, i.size, i.bytes)) = some (some (.int .i64 0), 1, 8) := by kernel_rfl

theorem lit0_bag (W : World) : (Instr.buildSlice 23 0 #[]).run Try.prog W = .ok (.slice (some ⟨W.heap.size, 0, none⟩) 0 0) (W.alloc (.cells #[] 3)) := by kernel_rfl
theorem own_lit0 {α : Type} (d : Ty α) (e : TypeId) (W : World) (base : Nat) (S : Nat → Prop) (hb : base ≤ W.heap.size) : Own d e (W.alloc (.cells #[] e)) base S (.slice (some ⟨W.heap.size, 0, none⟩) 0 0) [] :=
  ⟨[], World.ownsRow_lit W #[] 0 hb (by simp [maxLen]) (by simp), fun j x hj => by simp at hj⟩

set_option maxHeartbeats 1000000 in
theorem clone_c (S : Nat → Prop) (A : Option Addr) (c : Nat) (l : List Int) (w : World) (h : Rd intT w S A c l) (n : Nat) (hn : n = l.length) (hl : l.length * 8 ≤ 140737488355328) :
    Calls Try.prog 41 #[.slice A n c] w fun e w' => ∃ v, e = .returned v ∧ Own intT 3 w' w.heap.size (Ge w.heap.size) v l ∧ Bel w w' := by
  subst hn
  have hm := h.lenMax
  have hq := fun W : World => Lib.run_eql_slice_nil (P := Try.prog) W 23 3 A l.length c 0 0 Try.underlying23
  rcases A with _ | ad
  · have hn : l = [] := by
      cases l with
      | nil => rfl
      | cons x l => obtain ⟨ad, _, e, _⟩ := h.get (j := 0) rfl; cases e
    have Hn := Lib.hid hn
    clear hn
    go_enter Try.func41, Try.ntmps41
    go_wp2
    go_ret
    exact ⟨_, rfl, by rw [Hn.out]; exact Own.nil _ _ _ _ _, Bel.refl _⟩
  · have hb := lit0_bag
    go_enter Try.func41, Try.ntmps41
    go_wp2_with (at_builtin; refine wp_append intT (w0 := w) 23 3 (.int .i64 0) 8 rfl _ _ rfl Try.underlying23 info_int rfl (Ge w.heap.size) S _ [] l (some ad) _ c rfl rfl rfl (own_lit0 _ _ _ _ _ (Nat.le_refl _)) (h.to ((Bel.refl _).alloc _)) (fun _ _ h => h) ((Bel.refl _).alloc _) (by simp [maxLen]; omega) (by simpa using hl) ?_; rintro v1 w1 ho hb1 _ _)
    go_ret
    exact ⟨_, rfl, ho, hb1⟩

set_option maxHeartbeats 1000000 in
theorem cut_c (S : Nat → Prop) (A : Option Addr) (c : Nat) (l : List Int) (w : World) (h : Rd intT w S A c l) (n : Nat) (hn : n = l.length) (hl : l.length * 8 ≤ 140737488355328) :
    Calls Try.prog 64 #[.slice A n c] w fun e w' => ∃ v, e = .returned v ∧ Own intT 3 w' w.heap.size (Ge w.heap.size) v (cutB l) ∧ Bel w w' := by
  subst hn
  have hm := h.lenMax
  have hcap := h.cap
  go_enter Try.func64, Try.ntmps64
  go_wp2
  go_loop [3] (fun v => ∃ k : Nat, k ≤ l.length ∧ v = .int .i64 k ∧ Hid (∀ x ∈ l.drop k, x = 0)) (fun v => (intOf v).toNat)
  case atStart => exact ⟨l.length, Nat.le_refl _, rfl, by intro x hx; simp at hx⟩
  case round =>
    obtain ⟨k, hk, rfl, hp⟩ := hrel
    by_cases hk0 : 0 < k
    · obtain ⟨ad, rfl, hc⟩ := h.int (k := k - 1) (by omega)
      have h2 : (1 : Int) ≤ (k : Int) := by omega
      by_cases hz : (l[k - 1] == 0) = true
      · go_wp2
        go_round
        case rel => exact ⟨k - 1, by omega, by go_num, cut_snoc hk0 hk (beq_iff_eq.1 hz) hp⟩
        case measure => simp [intOf]; omega
      · have hz : (l[k - 1] == 0) = false := by simpa using hz
        have Hcut := Lib.hid (cutB_eq hk hp (.inr ⟨hk0, by simpa using hz⟩))
        go_wp2_with (go_at_call 41; refine (clone_c S _ c (l.take k) _ (h.take k) _ (by simp; omega) (by simp; omega)).mono ?_; rintro e w' ⟨v, rfl, ho, hb⟩)
        go_ret
        exact ⟨_, rfl, by rw [Hcut.out]; exact ho, hb⟩
    · obtain rfl : k = 0 := by omega
      have Hcut := Lib.hid (cutB_eq (Nat.zero_le _) hp (.inl rfl))
      go_wp2_with (go_at_call 41; refine (clone_c S _ c (l.take 0) _ (h.take 0) _ (by simp) (by simp)).mono ?_; rintro e w' ⟨v, rfl, ho, hb⟩)
      go_ret
      exact ⟨_, rfl, by rw [Hcut.out]; exact ho, hb⟩

set_option maxHeartbeats 1000000 in
theorem norm_c (S : Nat → Prop) (A : Option Addr) (c : Nat) (l : List Int) (w : World) (h : Rd intT w S A c l) (n : Nat) (hn : n = l.length) (hl : l.length * 8 ≤ 140737488355328) :
    Calls Try.prog 54 #[.slice A n c] w fun e w' => ∃ v, e = .returned v ∧ Own intT 3 w' w.heap.size (Ge w.heap.size) v (normB l) ∧ Bel w w' := by
  subst hn
  go_enter Try.func54, Try.ntmps54
  go_wp2_with (go_at_call 64; refine (cut_c S _ c l _ h _ rfl hl).mono ?_; rintro e w1 ⟨v, rfl, ho, hb⟩)
  obtain ⟨A1, c1, rfl, hr⟩ := ho.rd
  by_cases hR : rightB (cutB l) = true
  · have Hn := Lib.hid (show normB l = cutB l from by unfold normB; rw [if_pos hR])
    go_wp2_with (go_at_call 39; refine (right_c _ _ _ _ _ hr _ rfl).mono ?_; rintro e w' ⟨rfl, rfl⟩)
    go_ret
    exact ⟨_, rfl, by rw [Hn.out]; exact ho, hb⟩
  · have hR : rightB (cutB l) = false := by simpa using hR
    have Hn := Lib.hid (show normB l = [] from by unfold normB; rw [hR]; rfl)
    go_wp2_with (go_at_call 39; refine (right_c _ _ _ _ _ hr _ rfl).mono ?_; rintro e w' ⟨rfl, rfl⟩)
    go_ret
    exact ⟨_, rfl, by rw [Hn.out]; exact Own.nil _ _ _ _ _, hb⟩

end Go.Proofs.Ytghdleofbkalbaa
