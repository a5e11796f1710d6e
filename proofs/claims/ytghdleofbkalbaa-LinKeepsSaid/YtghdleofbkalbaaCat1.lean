/- Walks: slices.Grow of nothing, slices.Concat. -/
import Derived.Test.YtghdleofbkalbaaLin2
import Derived.Test.YtghdleofbkalbaaLib4
import Derived.Lib.AppendZerosOnto
namespace Go.Cb
open Go.RowKit
theorem ownsRow_room {w : World} {base g cap size : Nat} {e : TypeId} {cur : Array Value} (h : w.heap[g]? = some (.cells cur e (0, 0))) (hb : base ≤ g) (hc : cur.size = cap * size) (hm : cap ≤ maxLen) : w.ownsRow base e size (.slice (some ⟨g, 0, none⟩) 0 cap) 0 [] :=
  ⟨by simp, .inr ⟨g, cap, cur, rfl, hb, h, Nat.zero_le _, hm, hc, by simp⟩⟩
theorem Own.room {α : Type} (d : Ty α) {w : World} {base g cap : Nat} {e : TypeId} {S : Nat → Prop} {cur : Array Value} (h : w.heap[g]? = some (.cells cur e (0, 0))) (hb : base ≤ g) (hc : cur.size = cap * d.sz) (hm : cap ≤ maxLen) : Own d e w base S (.slice (some ⟨g, 0, none⟩) 0 cap) [] :=
  ⟨[], ownsRow_room h hb hc hm, fun j x hj => by simp at hj⟩
theorem flat_succ {α : Type} {xss : List (List α)} {k : Nat} {q : List α} (h : xss[k]? = some q) : (xss.take (k + 1)).flatten = (xss.take k).flatten ++ q := by
  rw [List.take_add_one, h]; simp
theorem flat_le {α : Type} (xss : List (List α)) (k : Nat) : (xss.take k).flatten.length ≤ xss.flatten.length := by
  conv => rhs; rw [← List.take_append_drop k xss]
  rw [List.flatten_append, List.length_append]; omega
end Go.Cb
namespace Go.Proofs.Ytghdleofbkalbaa
open Go.RowKit Go.Cb
theorem infoBags : (Try.prog.info? 23).map (fun i => (i.zero, i.size, i.bytes)) = some (some (.slice none 0 0), 1, 24) := by kernel_rfl
set_option maxRecDepth 20000 in
set_option maxHeartbeats 1000000 in
theorem growBags_c {α : Type} (d : Ty α) (hd : d.sz = 1) (S : Nat → Prop) (n : Nat) (w : World) (hn : n ≤ 1000000) :
    Calls Try.prog 60 #[.slice none 0 0, .int .i64 n] w fun e w' => ∃ v, e = .returned v ∧ Own d 23 w' w.heap.size S v [] ∧ Bel w w' := by
  rcases Nat.eq_zero_or_pos n with h0 | h0
  · subst h0
    go_enter Try.func60, Try.ntmps60
    go_wp2
    go_ret
    exact ⟨_, rfl, Own.nil _ _ _ _ _, Bel.refl _⟩
  · have hp : (0 : Int) < (n : Int) := by omega
    obtain ⟨i0, hi, hzz⟩ := Option.map_eq_some_iff.1 infoBags
    simp only [Prod.mk.injEq] at hzz
    obtain ⟨hz0, hz1, hz2⟩ := hzz
    have hr := Lib.run_append_nil_zeros (P := Try.prog) w 24 3 24 23 i0 (.slice none 0 0) .i64 .i64 Try.underlying24 Try.underlying3 hi hz0 n h0 (by omega) (by omega) (by rw [hz2]; omega)
    have hG := grownCap_ge w n 0 23
    have hM := grownCap_le_maxLen w n 0 23 (by unfold maxLen; omega)
    have hX : (w.drew.alloc (.cells (Builtin.zeroCells ((.slice none 0 0) : Value).cells n ++ Builtin.zeroCells ((.slice none 0 0) : Value).cells (grownCap w n 0 23 - n)) 23)).heap[w.heap.size]? = some (.cells (Builtin.zeroCells ((.slice none 0 0) : Value).cells n ++ Builtin.zeroCells ((.slice none 0 0) : Value).cells (grownCap w n 0 23 - n)) 23 (0, 0)) := heap_alloc_new w.drew _
    have hO := Own.room (base := w.heap.size) (S := S) d hX (Nat.le_refl _) (by rw [hd, Array.size_append]; simp [Builtin.zeroCells, Value.cells]; omega) hM
    have hB : Bel w (w.drew.alloc (.cells (Builtin.zeroCells ((.slice none 0 0) : Value).cells n ++ Builtin.zeroCells ((.slice none 0 0) : Value).cells (grownCap w n 0 23 - n)) 23)) := (Bel.refl w).drew.alloc _
    clear hX hi hz0 hz1 hz2
    generalize w.drew.alloc (.cells (Builtin.zeroCells ((.slice none 0 0) : Value).cells n ++ Builtin.zeroCells ((.slice none 0 0) : Value).cells (grownCap w n 0 23 - n)) 23) = W at *
    generalize grownCap w n 0 23 = cp at *
    have HR := Lib.hid hr
    clear hr hG hM
    go_enter Try.func60, Try.ntmps60
    go_wp2_with (at_builtin; refine Lib.wpList_append_run _ rfl _ _ _ _ rfl _ _ rfl rfl _ _ HR.out ?_)
    go_ret
    exact ⟨_, rfl, hO, hB⟩
set_option maxHeartbeats 2000000 in
theorem concatBags_c {α : Type} (d : Ty α) (hd : d.sz = 1) (S : Nat → Prop) (A : Option Addr) (c : Nat) (xss : List (List α)) (w : World) (h : Rd (sl d) w S A c xss) (n : Nat) (hn : n = xss.length) (hl : xss.flatten.length ≤ 1000000) :
    Calls Try.prog 40 #[.slice A n c] w fun e w' => ∃ v, e = .returned v ∧ Own d 23 w' w.heap.size (fun k => S k ∧ k < w.heap.size) v xss.flatten ∧ Bel w w' := by
  subst hn
  have lm := h.lenMax
  obtain ⟨N, hN⟩ : ∃ N, xss.flatten.length = N := ⟨_, rfl⟩
  have Hle := Lib.hid (show ∀ k, (xss.take k).flatten.length ≤ N from fun k => hN ▸ flat_le xss k)
  rw [hN] at hl
  have HN := Lib.hid hN
  clear hN
  go_enter Try.func40, Try.ntmps40
  go_wp2
  go_loop [3, 11] (fun v3 v11 => ∃ k : Nat, k ≤ xss.length ∧ v11 = .int .i64 k ∧ ∃ m : Nat, v3 = .int .i64 m ∧ Hid ((xss.take k).flatten.length = m)) (fun _ v11 => xss.length - (intOf v11).toNat)
  case atStart => exact ⟨0, Nat.zero_le _, rfl, 0, rfl, (by simp : (xss.take 0).flatten.length = 0)⟩
  case round =>
    obtain ⟨k, hk, rfl, m, rfl, HM⟩ := hrel
    by_cases hlt : k < xss.length
    · obtain ⟨ad, B, cb, rfl, hc, hr⟩ := h.row hlt
      obtain ⟨q, hq⟩ : ∃ q, xss[k] = q := ⟨_, rfl⟩
      have HQ := Lib.hid (flat_succ (show xss[k]? = some q by rw [List.getElem?_eq_getElem hlt, hq]))
      rw [hq] at hc hr
      clear hq
      have h1 := Hle.out (k + 1)
      rw [HQ.out, List.length_append, HM.out] at h1
      have hw : IntKind.i64.wrap ((m : Int) + (q.length : Int)) = ((m + q.length : Nat) : Int) := by rw [IntKind.wrap_i64]; omega
      have hng : decide (((m + q.length : Nat) : Int) < 0) = false := decide_eq_false (by omega)
      have hng2 : decide ((m : Int) + (q.length : Int) < 0) = false := decide_eq_false (by omega)
      go_wp2
      go_round
      case rel => exact ⟨k + 1, by omega, by go_num, m + q.length, by go_num, (by rw [HQ.out, List.length_append, HM.out] : (xss.take (k + 1)).flatten.length = m + q.length)⟩
      case measure => simp [intOf]; omega
    · obtain rfl : k = xss.length := by omega
      have HT := Lib.hid (show xss.take xss.length = xss from List.take_length)
      obtain rfl : N = m := by have := HM.out; rw [HT.out, HN.out] at this; exact this
      clear hlt HM
      go_wp2_with fail
      refine (growBags_c d hd (fun k => S k ∧ k < w.heap.size) N w hl).mono ?_
      rintro e w1 ⟨v1, rfl, ho1, hb1⟩
      go_wp2
      go_loopw [6, 27] (fun v6 v27 wr => ∃ (k : Nat) (W : World), W = wr ∧ k ≤ xss.length ∧ v27 = .int .i64 k ∧ Own d 23 W w.heap.size (fun k => S k ∧ k < w.heap.size) v6 (xss.take k).flatten ∧ Bel w W) (fun _ v27 _ => xss.length - (intOf v27).toNat)
      case atStart => exact ⟨0, _, rfl, Nat.zero_le _, rfl, by simpa using ho1, hb1⟩
      case round =>
        obtain ⟨k, W, rfl, hk, rfl, ho, hb⟩ := hrel
        by_cases hlt : k < xss.length
        · obtain ⟨ad, B, cb, rfl, hc, hr⟩ := (h.bound.to hb).row hlt
          obtain ⟨q, hq⟩ : ∃ q, xss[k] = q := ⟨_, rfl⟩
          have HQ := Lib.hid (flat_succ (show xss[k]? = some q by rw [List.getElem?_eq_getElem hlt, hq]))
          rw [hq] at hc hr
          clear hq
          have h1 := Hle.out (k + 1)
          rw [HQ.out, List.length_append] at h1
          have HO := Lib.hid ho
          have h1' := Lib.hid (show (xss.take k).flatten.length + q.length ≤ 1000000 by omega)
          obtain ⟨A6, c6, hv6⟩ := ho.form
          subst hv6
          clear ho h1
          go_wp2_with (at_builtin; refine wp_append d (w0 := w) 24 23 (.slice none 0 0) 24 rfl _ _ rfl Try.underlying24 (by rw [hd]; exact infoBags) (by rw [hd]; rfl) (fun k => S k ∧ k < w.heap.size) (fun k => S k ∧ k < w.heap.size) _ (xss.take k).flatten q _ _ cb rfl rfl rfl HO.out hr (d.rdS (fun j hj _ => ⟨hj, fun e => by have := HO.out.ge e.symm; omega⟩)) hb (by unfold maxLen; have := h1'.out; omega) (by have := h1'.out; omega) ?_; rintro v7 w7 ho7 hb7 _ _; rw [← HQ.out] at ho7)
          go_roundw
          case rel => exact ⟨k + 1, _, rfl, by omega, by go_num, ho7, hb7⟩
          case measure => simp [intOf]; omega
        · obtain rfl : k = xss.length := by omega
          rw [HT.out] at ho
          go_wp2
          go_ret
          exact ⟨_, rfl, ho, hb⟩
end Go.Proofs.Ytghdleofbkalbaa
