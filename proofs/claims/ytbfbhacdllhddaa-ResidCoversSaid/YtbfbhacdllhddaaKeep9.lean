/- Walks: copies and cuts of rows, those of chapter 9. -/
import Derived.Test.YtbfbhacdllhddaaMC
import Derived.Test.YtbfbhacdllhddaaAuto2
set_option linter.unusedVariables false
set_option linter.unusedSimpArgs false
set_option linter.all false
namespace Go.Proofs.Ytbfbhacdllhddaa
open Go.RowKit Go.Cb
theorem infoKRaws9 : (Try.prog.info? 96).map (fun i => (i.zero, i.size, i.bytes)) = some (some (.agg #[.int .i64 0, .slice none 0 0]), 2, 32) := by kernel_rfl
set_option maxHeartbeats 1000000 in
theorem copyRaws9_c {α : Type} (d : Ty α) (hd : d.sz = 2) (e0 : TypeId) (he0 : e0 = 96) (S : Nat → Prop) (A : Option Addr) (c : Nat) (l : List α) (w : World) (h : Rd d w S A c l) (n : Nat) (hn : n = l.length) (hl : l.length * 32 ≤ 140737488355328) :
    Calls Try.prog 86 #[.slice A n c] w fun e w' => ∃ v, e = .returned v ∧ Own d e0 w' w.heap.size S v l ∧ Bel w w' := by
  subst hn he0
  go_enter Try.func86, Try.ntmps86
  go_wp2_with (at_builtin; refine wp_append d (w0 := w) 50 96 (.agg #[.int .i64 0, .slice none 0 0]) 32 rfl _ _ rfl Try.underlying50 (by rw [hd]; exact infoKRaws9) (by rw [hd]; rfl) S S _ [] l A _ c rfl rfl rfl (Own.nil _ _ _ _ _) h (d.rdNil (fun _ h _ => h)) (Bel.refl _) (by simp [maxLen]; omega) (by simp; omega) ?_; rintro v1 w1 ho hb1 _ _)
  go_ret
  exact ⟨_, rfl, ho, hb1⟩
set_option maxHeartbeats 1000000 in
theorem cutRaws9_c {α : Type} (d : Ty α) (hd : d.sz = 2) (S : Nat → Prop) (A : Option Addr) (c : Nat) (l : List α) (k : Nat) (w : World) (h : Rd d w S A c l) (n : Nat) (hn : n = l.length) (hl : (l.take k).length * 32 ≤ 140737488355328) (K : Int) (hK : K = (k : Int)) :
    Calls Try.prog 55 #[.slice A n c, .int .i64 K] w fun e w' => ∃ v, e = .returned v ∧ Own d 96 w' w.heap.size S v (l.take k) ∧ Bel w w' := by
  subst hn hK
  have hm := h.lenMax
  have hcap := h.cap
  by_cases hk : l.length < k
  · have Ht := Lib.hid (show l.take k = l from List.take_of_length_le (by omega))
    have hk2 : (l.length : Int) ≤ (k : Int) := by omega
    go_enter Try.func55, Try.ntmps55
    go_wp2_with (go_at_call 86; refine (copyRaws9_c d hd _ rfl S _ c l _ h _ rfl (Ht.out ▸ hl)).mono ?_; rintro e w' ⟨v, rfl, ho, hb⟩)
    go_ret
    exact ⟨_, rfl, by rw [Ht.out]; exact ho, hb⟩
  · have hk2 : (k : Int) ≤ (l.length : Int) := by omega
    go_enter Try.func55, Try.ntmps55
    go_wp2_with (go_at_call 86; refine (copyRaws9_c d hd _ rfl S _ c (l.take k) _ (h.take k) _ (by simp; omega) hl).mono ?_; rintro e w' ⟨v, rfl, ho, hb⟩)
    all_goals
      go_ret
      exact ⟨_, rfl, ho, hb⟩
theorem infoKUints : (Try.prog.info? 30).map (fun i => (i.zero, i.size, i.bytes)) = some (some (.int .u64 0), 1, 8) := by kernel_rfl
set_option maxHeartbeats 1000000 in
theorem copyUints_c {α : Type} (d : Ty α) (hd : d.sz = 1) (e0 : TypeId) (he0 : e0 = 30) (S : Nat → Prop) (A : Option Addr) (c : Nat) (l : List α) (w : World) (h : Rd d w S A c l) (n : Nat) (hn : n = l.length) (hl : l.length * 8 ≤ 140737488355328) :
    Calls Try.prog 37 #[.slice A n c] w fun e w' => ∃ v, e = .returned v ∧ Own d e0 w' w.heap.size S v l ∧ Bel w w' := by
  subst hn he0
  go_enter Try.func37, Try.ntmps37
  go_wp2_with (at_builtin; refine wp_append d (w0 := w) 23 30 (.int .u64 0) 8 rfl _ _ rfl Try.underlying23 (by rw [hd]; exact infoKUints) (by rw [hd]; rfl) S S _ [] l A _ c rfl rfl rfl (Own.nil _ _ _ _ _) h (d.rdNil (fun _ h _ => h)) (Bel.refl _) (by simp [maxLen]; omega) (by simp; omega) ?_; rintro v1 w1 ho hb1 _ _)
  go_ret
  exact ⟨_, rfl, ho, hb1⟩
set_option maxHeartbeats 1000000 in
theorem cutUints_c {α : Type} (d : Ty α) (hd : d.sz = 1) (S : Nat → Prop) (A : Option Addr) (c : Nat) (l : List α) (k : Nat) (w : World) (h : Rd d w S A c l) (n : Nat) (hn : n = l.length) (hl : (l.take k).length * 8 ≤ 140737488355328) (K : Int) (hK : K = (k : Int)) :
    Calls Try.prog 11 #[.slice A n c, .int .i64 K] w fun e w' => ∃ v, e = .returned v ∧ Own d 30 w' w.heap.size S v (l.take k) ∧ Bel w w' := by
  subst hn hK
  have hm := h.lenMax
  have hcap := h.cap
  by_cases hk : l.length < k
  · have Ht := Lib.hid (show l.take k = l from List.take_of_length_le (by omega))
    have hk2 : (l.length : Int) ≤ (k : Int) := by omega
    go_enter Try.func11, Try.ntmps11
    go_wp2_with (go_at_call 37; refine (copyUints_c d hd _ rfl S _ c l _ h _ rfl (Ht.out ▸ hl)).mono ?_; rintro e w' ⟨v, rfl, ho, hb⟩)
    go_ret
    exact ⟨_, rfl, by rw [Ht.out]; exact ho, hb⟩
  · have hk2 : (k : Int) ≤ (l.length : Int) := by omega
    go_enter Try.func11, Try.ntmps11
    go_wp2_with (go_at_call 37; refine (copyUints_c d hd _ rfl S _ c (l.take k) _ (h.take k) _ (by simp; omega) hl).mono ?_; rintro e w' ⟨v, rfl, ho, hb⟩)
    all_goals
      go_ret
      exact ⟨_, rfl, ho, hb⟩
end Go.Proofs.Ytbfbhacdllhddaa
