/- Walks: copies and cuts of rows, those of chapter 29. -/
import Derived.Test.YtjhnenineachaaaKeep
set_option linter.unusedVariables false
set_option linter.unusedSimpArgs false
set_option linter.all false
namespace Go.Proofs.Ytjhnenineachaaa
open Go.RowKit Go.Cb
theorem infoKRaws29 : (Try.prog.info? 46).map (fun i => (i.zero, i.size, i.bytes)) = some (some (.agg #[.int .i64 0, .int .i64 0, .int .i64 0, .slice none 0 0]), 4, 48) := by kernel_rfl
set_option maxHeartbeats 1000000 in
theorem copyRaws29_c {α : Type} (d : Ty α) (hd : d.sz = 4) (e0 : TypeId) (he0 : e0 = 46) (S : Nat → Prop) (A : Option Addr) (c : Nat) (l : List α) (w : World) (h : Rd d w S A c l) (n : Nat) (hn : n = l.length) (hl : l.length * 48 ≤ 140737488355328) :
    Calls Try.prog 23 #[.slice A n c] w fun e w' => ∃ v, e = .returned v ∧ Own d e0 w' w.heap.size S v l ∧ Bel w w' := by
  subst hn he0
  go_enter Try.func23, Try.ntmps23
  go_wp2_with (at_builtin; refine wp_append d (w0 := w) 22 46 (.agg #[.int .i64 0, .int .i64 0, .int .i64 0, .slice none 0 0]) 48 rfl _ _ rfl Try.underlying22 (by rw [hd]; exact infoKRaws29) (by rw [hd]; rfl) S S _ [] l A _ c rfl rfl rfl (Own.nil _ _ _ _ _) h (d.rdNil (fun _ h _ => h)) (Bel.refl _) (by simp [maxLen]; omega) (by simp; omega) ?_; rintro v1 w1 ho hb1 _ _)
  go_ret
  exact ⟨_, rfl, ho, hb1⟩
set_option maxHeartbeats 1000000 in
theorem cutRaws29_c {α : Type} (d : Ty α) (hd : d.sz = 4) (S : Nat → Prop) (A : Option Addr) (c : Nat) (l : List α) (k : Nat) (w : World) (h : Rd d w S A c l) (n : Nat) (hn : n = l.length) (hl : (l.take k).length * 48 ≤ 140737488355328) (K : Int) (hK : K = (k : Int)) :
    Calls Try.prog 14 #[.slice A n c, .int .i64 K] w fun e w' => ∃ v, e = .returned v ∧ Own d 46 w' w.heap.size S v (l.take k) ∧ Bel w w' := by
  subst hn hK
  have hm := h.lenMax
  have hcap := h.cap
  by_cases hk : l.length < k
  · have Ht := Lib.hid (show l.take k = l from List.take_of_length_le (by omega))
    have hk2 : (l.length : Int) ≤ (k : Int) := by omega
    go_enter Try.func14, Try.ntmps14
    go_wp2_with (go_at_call 23; go_loud (refine (copyRaws29_c d hd _ rfl S _ c l _ h _ rfl (Ht.out ▸ hl)).mono ?_); rintro e w' ⟨v, rfl, ho, hb⟩)
    go_ret
    exact ⟨_, rfl, by rw [Ht.out]; exact ho, hb⟩
  · have hk2 : (k : Int) ≤ (l.length : Int) := by omega
    go_enter Try.func14, Try.ntmps14
    go_wp2_with (go_at_call 23; refine (copyRaws29_c d hd _ rfl S _ c (l.take k) _ (h.take k) _ (by simp; omega) hl).mono ?_; rintro e w' ⟨v, rfl, ho, hb⟩)
    all_goals
      go_ret
      exact ⟨_, rfl, ho, hb⟩
theorem infoKEvs : (Try.prog.info? 27).map (fun i => (i.zero, i.size, i.bytes)) = some (some (.agg #[.int .i64 0, .int .i64 0, .int .i64 0, .slice none 0 0]), 4, 48) := by kernel_rfl
set_option maxHeartbeats 1000000 in
theorem copyEvs_c {α : Type} (d : Ty α) (hd : d.sz = 4) (e0 : TypeId) (he0 : e0 = 27) (S : Nat → Prop) (A : Option Addr) (c : Nat) (l : List α) (w : World) (h : Rd d w S A c l) (n : Nat) (hn : n = l.length) (hl : l.length * 48 ≤ 140737488355328) :
    Calls Try.prog 13 #[.slice A n c] w fun e w' => ∃ v, e = .returned v ∧ Own d e0 w' w.heap.size S v l ∧ Bel w w' := by
  subst hn he0
  go_enter Try.func13, Try.ntmps13
  go_wp2_with (at_builtin; refine wp_append d (w0 := w) 23 27 (.agg #[.int .i64 0, .int .i64 0, .int .i64 0, .slice none 0 0]) 48 rfl _ _ rfl Try.underlying23 (by rw [hd]; exact infoKEvs) (by rw [hd]; rfl) S S _ [] l A _ c rfl rfl rfl (Own.nil _ _ _ _ _) h (d.rdNil (fun _ h _ => h)) (Bel.refl _) (by simp [maxLen]; omega) (by simp; omega) ?_; rintro v1 w1 ho hb1 _ _)
  go_ret
  exact ⟨_, rfl, ho, hb1⟩
set_option maxHeartbeats 1000000 in
theorem cutEvs_c {α : Type} (d : Ty α) (hd : d.sz = 4) (S : Nat → Prop) (A : Option Addr) (c : Nat) (l : List α) (k : Nat) (w : World) (h : Rd d w S A c l) (n : Nat) (hn : n = l.length) (hl : (l.take k).length * 48 ≤ 140737488355328) (K : Int) (hK : K = (k : Int)) :
    Calls Try.prog 6 #[.slice A n c, .int .i64 K] w fun e w' => ∃ v, e = .returned v ∧ Own d 27 w' w.heap.size S v (l.take k) ∧ Bel w w' := by
  subst hn hK
  have hm := h.lenMax
  have hcap := h.cap
  by_cases hk : l.length < k
  · have Ht := Lib.hid (show l.take k = l from List.take_of_length_le (by omega))
    have hk2 : (l.length : Int) ≤ (k : Int) := by omega
    go_enter Try.func6, Try.ntmps6
    go_wp2_with (go_at_call 13; go_loud (refine (copyEvs_c d hd _ rfl S _ c l _ h _ rfl (Ht.out ▸ hl)).mono ?_); rintro e w' ⟨v, rfl, ho, hb⟩)
    go_ret
    exact ⟨_, rfl, by rw [Ht.out]; exact ho, hb⟩
  · have hk2 : (k : Int) ≤ (l.length : Int) := by omega
    go_enter Try.func6, Try.ntmps6
    go_wp2_with (go_at_call 13; refine (copyEvs_c d hd _ rfl S _ c (l.take k) _ (h.take k) _ (by simp; omega) hl).mono ?_; rintro e w' ⟨v, rfl, ho, hb⟩)
    all_goals
      go_ret
      exact ⟨_, rfl, ho, hb⟩
end Go.Proofs.Ytjhnenineachaaa
