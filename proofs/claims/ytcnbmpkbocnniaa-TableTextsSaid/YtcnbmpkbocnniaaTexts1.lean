/- Walks for TableTexts: rows of texts. -/
import Derived.Test.YtcnbmpkbocnniaaTab9
import Derived.Test.YtcnbmpkbocnniaaBag6
namespace Go.Cb
open Go.RowKit
theorem Rd.str {w : World} {S : Nat → Prop} {A : Option Addr} {c : Nat} {xs : List ByteArray} (h : Rd strT w S A c xs) {k : Nat} (hk : k < xs.length) :
    ∃ ad, A = some ad ∧ S ad.block ∧ w.cell? (ad.add k) = some (.string xs[k]) := by
  obtain ⟨ad, cs, e, hS, hr, hc⟩ := h.2.2 k xs[k] (List.getElem?_eq_getElem hk)
  have e1 : cs = [.string xs[k]] := hr
  subst e1
  have := hc 0 _ rfl
  exact ⟨ad, e, hS, by simpa [strT, scalar] using this⟩
/-- What the table has after k of the texts. -/
def LastOf (ks : List ByteArray) (k : Nat) (xs : List (ByteArray × Nat)) : Prop := ∀ s i, (s, i) ∈ xs ↔ i < k ∧ ks[i]? = some s ∧ ∀ j, i < j → j < k → ks[j]? ≠ some s
theorem LastOf.put {ks : List ByteArray} {k : Nat} {xs : List (ByteArray × Nat)} (h : LastOf ks k xs) (hs : tabOk cmpS xs) {s : ByteArray} (hk : ks[k]? = some s) : LastOf ks (k + 1) (putT cmpS xs s k) := by
  intro t i
  rw [putT_mem cmpS_ord hs, h t i]
  constructor
  · rintro (e | ⟨⟨h1, h2, h3⟩, hne⟩)
    · injection e with e1 e2
      subst e1 e2
      exact ⟨by omega, hk, fun j a b => absurd b (by omega)⟩
    · refine ⟨by omega, h2, fun j a b => ?_⟩
      by_cases e : j = k
      · subst e
        rw [hk]
        intro e
        injection e with e
        exact hne e.symm
      · exact h3 j a (by omega)
  · rintro ⟨h1, h2, h3⟩
    by_cases e : i = k
    · subst e
      rw [hk] at h2
      injection h2 with h2
      exact .inl (by rw [h2])
    · refine .inr ⟨⟨by omega, h2, fun j a b => h3 j a (by omega)⟩, fun e2 => ?_⟩
      have e2 : t = s := e2
      exact h3 k (by omega) (by omega) (by rw [hk, e2])
theorem beq_toList {a b : ByteArray} : (a.toList == b.toList) = decide (a = b) := by
  by_cases e : a = b
  · subst e; simp
  · rw [decide_eq_false e, beq_eq_false_iff_ne]
    exact fun h => e (bytes_inj h)
end Go.Cb
namespace Go.Proofs.Ytcnbmpkbocnniaa
open Go.RowKit Go.Cb
theorem info_str : (Try.prog.info? 9).map (fun i => (i.zero, i.size, i.bytes)) = some (some (.string ⟨#[]⟩), 1, 16) := by kernel_rfl
set_option maxHeartbeats 1000000 in
theorem copyStr_c (S : Nat → Prop) (A : Option Addr) (c : Nat) (l : List ByteArray) (w : World) (h : Rd strT w S A c l) (n : Nat) (hn : n = l.length) (hl : l.length * 16 ≤ 140737488355328) :
    Calls Try.prog 48 #[.slice A n c] w fun e w' => ∃ v, e = .returned v ∧ Own strT 9 w' w.heap.size (Ge w.heap.size) v l ∧ Bel w w' := by
  subst hn
  go_enter Try.func48, Try.ntmps48
  go_wp2_with (at_builtin; refine wp_append strT (w0 := w) 22 9 (.string ⟨#[]⟩) 16 rfl _ _ rfl Try.underlying22 info_str rfl (Ge w.heap.size) S _ [] l A _ c rfl rfl rfl (Own.nil _ _ _ _ _) h (fun _ _ h => h) (Bel.refl _) (by simp [maxLen]; omega) (by simpa using hl) ?_; rintro v1 w1 ho hb1 _ _)
  go_ret
  exact ⟨_, rfl, ho, hb1⟩
set_option maxHeartbeats 1000000 in
theorem cutStr_c (S : Nat → Prop) (A : Option Addr) (c : Nat) (l : List ByteArray) (k : Nat) (w : World) (h : Rd strT w S A c l) (n : Nat) (hn : n = l.length) (hl : l.length * 16 ≤ 140737488355328) (K : Int) (hK : K = (k : Int)) :
    Calls Try.prog 13 #[.slice A n c, .int .i64 K] w fun e w' => ∃ v, e = .returned v ∧ Own strT 9 w' w.heap.size (Ge w.heap.size) v (l.take k) ∧ Bel w w' := by
  subst hn hK
  have hm := h.lenMax
  have hcap := h.cap
  by_cases hk : l.length < k
  · have Ht := Lib.hid (show l.take k = l from List.take_of_length_le (by omega))
    have hk2 : (l.length : Int) ≤ (k : Int) := by omega
    go_enter Try.func13, Try.ntmps13
    go_wp2_with (go_at_call 48; refine (copyStr_c S _ c l _ h _ (by omega) hl).mono ?_; rintro e w' ⟨v, rfl, ho, hb⟩)
    go_ret
    exact ⟨_, rfl, by rw [Ht.out]; exact ho, hb⟩
  · have hk2 : (k : Int) ≤ (l.length : Int) := by omega
    go_enter Try.func13, Try.ntmps13
    go_wp2_with (go_at_call 48; refine (copyStr_c S _ c (l.take k) _ (h.take k) _ (by rw [List.length_take]; omega) (by rw [List.length_take]; omega)).mono ?_; rintro e w' ⟨v, rfl, ho, hb⟩)
    all_goals
      go_ret
      exact ⟨_, rfl, ho, hb⟩
set_option maxHeartbeats 2000000 in
theorem sameStr_c (S S' : Nat → Prop) (A B : Option Addr) (ca cb : Nat) (a : List ByteArray) (w : World) (ha : Rd strT w S A ca a) (hb : Rd strT w S' B cb a) (n m : Nat) (hn : n = a.length) (hm : m = a.length) :
    Calls Try.prog 17 #[.slice A n ca, .slice B m cb] w fun e w' => e = .returned (.bool true) ∧ Dr w w' := by
  subst hn hm
  have la := ha.lenMax
  go_enter Try.func17, Try.ntmps17
  go_wp2
  go_loopw [5] (fun v wr => ∃ k : Nat, k ≤ a.length ∧ v = .int .i64 k ∧ Dr w wr) (fun v _ => a.length - (intOf v).toNat)
  case atStart => exact ⟨0, Nat.zero_le _, rfl, Dr.refl _⟩
  case round =>
    obtain ⟨k, hk, rfl, hbl⟩ := hrel
    by_cases hlt : k < a.length
    · obtain ⟨ad, rfl, _, hca⟩ := (ha.to hbl.bel).str hlt
      obtain ⟨bd, rfl, _, hcb⟩ := (hb.to hbl.bel).str hlt
      go_wp2
      go_quiet (fail)
      go_wp2
      go_roundw
      case rel => exact ⟨k + 1, by omega, by go_num, hbl.drewN _⟩
      case measure => simp [intOf]; omega
    · go_wp2
      go_ret
      exact ⟨rfl, hbl⟩
end Go.Proofs.Ytcnbmpkbocnniaa
