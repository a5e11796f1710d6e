/- Walks: copies and cuts of rows of whatever elements. -/
import Derived.Test.YtghdleofbkalbaaBag7
import Derived.Test.YtghdleofbkalbaaLib4
namespace Go.Proofs.Ytghdleofbkalbaa
open Go.RowKit Go.Cb
set_option maxHeartbeats 1000000 in
theorem cutIntS_c (S : Nat → Prop) (A : Option Addr) (c : Nat) (l : List Int) (k : Nat) (w : World) (h : Rd intT w S A c l) (n : Nat) (hn : n = l.length) (hl : (l.take k).length * 8 ≤ 140737488355328) (K : Int) (hK : K = (k : Int)) :
    Calls Try.prog 43 #[.slice A n c, .int .i64 K] w fun e w' => ∃ v, e = .returned v ∧ Own intT 3 w' w.heap.size (Ge w.heap.size) v (l.take k) ∧ Bel w w' := by
  subst hn hK
  have hm := h.lenMax
  have hcap := h.cap
  by_cases hk : l.length < k
  · have Ht := Lib.hid (show l.take k = l from List.take_of_length_le (by omega))
    have hk2 : (l.length : Int) ≤ (k : Int) := by omega
    go_enter Try.func43, Try.ntmps43
    go_wp2_with (go_at_call 12; refine (copyInt_c S _ c l _ h _ rfl (Ht.out ▸ hl)).mono ?_; rintro e w' ⟨v, rfl, ho, hb⟩)
    go_ret
    exact ⟨_, rfl, by rw [Ht.out]; exact ho, hb⟩
  · have hk2 : (k : Int) ≤ (l.length : Int) := by omega
    go_enter Try.func43, Try.ntmps43
    go_wp2_with (go_at_call 12; refine (copyInt_c S _ c (l.take k) _ (h.take k) _ (by simp; omega) hl).mono ?_; rintro e w' ⟨v, rfl, ho, hb⟩)
    all_goals
      go_ret
      exact ⟨_, rfl, ho, hb⟩
theorem infoKWords : (Try.prog.info? 22).map (fun i => (i.zero, i.size, i.bytes)) = some (some (.slice none 0 0), 1, 24) := by kernel_rfl
set_option maxHeartbeats 1000000 in
theorem copyWords_c {α : Type} (d : Ty α) (hd : d.sz = 1) (e0 : TypeId) (he0 : e0 = 22) (S : Nat → Prop) (A : Option Addr) (c : Nat) (l : List α) (w : World) (h : Rd d w S A c l) (n : Nat) (hn : n = l.length) (hl : l.length * 24 ≤ 140737488355328) :
    Calls Try.prog 62 #[.slice A n c] w fun e w' => ∃ v, e = .returned v ∧ Own d e0 w' w.heap.size S v l ∧ Bel w w' := by
  subst hn he0
  go_enter Try.func62, Try.ntmps62
  go_wp2_with (at_builtin; refine wp_append d (w0 := w) 45 22 (.slice none 0 0) 24 rfl _ _ rfl Try.underlying45 (by rw [hd]; exact infoKWords) (by rw [hd]; rfl) S S _ [] l A _ c rfl rfl rfl (Own.nil _ _ _ _ _) h (d.rdNil (fun _ h _ => h)) (Bel.refl _) (by simp [maxLen]; omega) (by simp; omega) ?_; rintro v1 w1 ho hb1 _ _)
  go_ret
  exact ⟨_, rfl, ho, hb1⟩
set_option maxHeartbeats 1000000 in
theorem cutWords_c {α : Type} (d : Ty α) (hd : d.sz = 1) (S : Nat → Prop) (A : Option Addr) (c : Nat) (l : List α) (k : Nat) (w : World) (h : Rd d w S A c l) (n : Nat) (hn : n = l.length) (hl : (l.take k).length * 24 ≤ 140737488355328) (K : Int) (hK : K = (k : Int)) :
    Calls Try.prog 44 #[.slice A n c, .int .i64 K] w fun e w' => ∃ v, e = .returned v ∧ Own d 22 w' w.heap.size S v (l.take k) ∧ Bel w w' := by
  subst hn hK
  have hm := h.lenMax
  have hcap := h.cap
  by_cases hk : l.length < k
  · have Ht := Lib.hid (show l.take k = l from List.take_of_length_le (by omega))
    have hk2 : (l.length : Int) ≤ (k : Int) := by omega
    go_enter Try.func44, Try.ntmps44
    go_wp2_with (go_at_call 62; refine (copyWords_c d hd _ rfl S _ c l _ h _ rfl (Ht.out ▸ hl)).mono ?_; rintro e w' ⟨v, rfl, ho, hb⟩)
    go_ret
    exact ⟨_, rfl, by rw [Ht.out]; exact ho, hb⟩
  · have hk2 : (k : Int) ≤ (l.length : Int) := by omega
    go_enter Try.func44, Try.ntmps44
    go_wp2_with (go_at_call 62; refine (copyWords_c d hd _ rfl S _ c (l.take k) _ (h.take k) _ (by simp; omega) hl).mono ?_; rintro e w' ⟨v, rfl, ho, hb⟩)
    all_goals
      go_ret
      exact ⟨_, rfl, ho, hb⟩
theorem infoKBags : (Try.prog.info? 23).map (fun i => (i.zero, i.size, i.bytes)) = some (some (.slice none 0 0), 1, 24) := by kernel_rfl
set_option maxHeartbeats 1000000 in
theorem copyBags_c {α : Type} (d : Ty α) (hd : d.sz = 1) (e0 : TypeId) (he0 : e0 = 23) (S : Nat → Prop) (A : Option Addr) (c : Nat) (l : List α) (w : World) (h : Rd d w S A c l) (n : Nat) (hn : n = l.length) (hl : l.length * 24 ≤ 140737488355328) :
    Calls Try.prog 14 #[.slice A n c] w fun e w' => ∃ v, e = .returned v ∧ Own d e0 w' w.heap.size S v l ∧ Bel w w' := by
  subst hn he0
  go_enter Try.func14, Try.ntmps14
  go_wp2_with (at_builtin; refine wp_append d (w0 := w) 24 23 (.slice none 0 0) 24 rfl _ _ rfl Try.underlying24 (by rw [hd]; exact infoKBags) (by rw [hd]; rfl) S S _ [] l A _ c rfl rfl rfl (Own.nil _ _ _ _ _) h (d.rdNil (fun _ h _ => h)) (Bel.refl _) (by simp [maxLen]; omega) (by simp; omega) ?_; rintro v1 w1 ho hb1 _ _)
  go_ret
  exact ⟨_, rfl, ho, hb1⟩
end Go.Proofs.Ytghdleofbkalbaa
