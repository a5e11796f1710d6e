/- Walks: numbers and words. -/
import Derived.Test.YtfkopkjioohgoaaRows
import Derived.Test.YtfkopkjioohgoaaMA
import Derived.ProofKit
import Derived.OpenShut
import Derived.ChangeOld
import Derived.SizedLaws
import Derived.ChangeSlices
set_option linter.unusedVariables false
set_option linter.unusedSimpArgs false
namespace Go.Proofs.Ytfkopkjioohgoaa
open Go.RowKit Go.Cb

set_option maxHeartbeats 400000 in
theorem may_c (n : Int) (w : World) :
    Calls Try.prog 78 #[.int .i64 n] w fun e w' => e = .returned (.bool (okN n)) ∧ w = w' := by
  by_cases h : 0 ≤ n
  · have h0 : decide (0 ≤ n) = true := by simpa using h
    go_enter Try.func78, Try.ntmps78
    go_wp2
    go_ret
    exact ⟨by unfold okN far; rw [h0]; rfl, rfl⟩
  · have h0 : decide (0 ≤ n) = false := by simpa using h
    go_enter Try.func78, Try.ntmps78
    go_wp2
    go_ret
    exact ⟨by unfold okN; rw [h0]; rfl, rfl⟩

set_option maxHeartbeats 400000 in
theorem right1_c (n : Int) (w : World) :
    Calls Try.prog 65 #[.int .i64 n] w fun e w' => e = .returned (.bool (!okN n)) ∧ w = w' := by
  by_cases h : 0 ≤ n
  · have h0 : decide (n < 0) = false := by simpa using h
    go_enter Try.func65, Try.ntmps65
    go_wp2
    go_ret
    exact ⟨by unfold okN far; rw [show decide (0 ≤ n) = true from by simpa using h, Bool.true_and, ← decide_not]; simp, rfl⟩
  · have h0 : decide (n < 0) = true := by simpa using h
    go_enter Try.func65, Try.ntmps65
    go_wp2
    go_ret
    exact ⟨by unfold okN; rw [show decide (0 ≤ n) = false from by simpa using h]; rfl, rfl⟩

set_option maxHeartbeats 1000000 in
theorem indexFunc_c (f : FuncId) (p : Int → Bool) (hcf : ∀ (args : Array Value) (w : World), (callFunc f args).run Try.prog w = .ok (.enter f args) w) (hf : ∀ n w, Calls Try.prog f #[.int .i64 n] w fun e w' => e = .returned (.bool (p n)) ∧ w = w') (S : Nat → Prop) (A : Option Addr) (c : Nat) (l : List Int) (w : World) (h : Rd intT w S A c l) (n : Nat) (hn : n = l.length) :
    Calls Try.prog 82 #[.slice A n c, .func (.func f) #[] #[]] w fun e w' => (∃ n : Int, e = .returned (.int .i64 n) ∧ (decide (0 ≤ n) = l.any p)) ∧ w = w' := by
  subst hn
  have hl := h.lenMax
  have Hf := Lib.hid hf
  clear hf
  go_enter Try.func82, Try.ntmps82
  go_wp2
  go_loop [8] (fun v => ∃ k : Nat, k ≤ l.length ∧ v = .int .i64 k ∧ Hid (∀ x ∈ l.take k, p x = false)) (fun v => l.length - (intOf v).toNat)
  case atStart => exact ⟨0, Nat.zero_le _, rfl, by intro x hx; simp at hx⟩
  case round =>
    obtain ⟨k, hk, rfl, hp⟩ := hrel
    by_cases hlt : k < l.length
    · obtain ⟨ad, rfl, hc⟩ := h.int hlt
      cases hok : p l[k] with
      | false =>
        have Hs := Lib.hid (none_snoc hlt hp hok)
        go_wp2_with fail
        refine (Hf.out _ _).mono ?_
        rw [hok]
        rintro e w' ⟨rfl, rfl⟩
        go_wp2
        go_round
        case rel => exact ⟨k + 1, by omega, by go_num, Hs.out⟩
        case measure => simp [intOf]; omega
      | true =>
        have Hs := Lib.hid (any_yes hlt hok)
        go_wp2_with fail
        refine (Hf.out _ _).mono ?_
        rw [hok]
        rintro e w' ⟨rfl, rfl⟩
        go_wp2
        go_ret
        exact ⟨⟨_, rfl, Hs.out⟩, rfl⟩
    · have Hs := Lib.hid (any_no (show l.length ≤ k by omega) hp)
      go_wp2
      go_ret
      exact ⟨⟨_, rfl, Hs.out⟩, rfl⟩
set_option maxHeartbeats 1000000 in
theorem containsFunc_c (f : FuncId) (p : Int → Bool) (hcf : ∀ (args : Array Value) (w : World), (callFunc f args).run Try.prog w = .ok (.enter f args) w) (hf : ∀ n w, Calls Try.prog f #[.int .i64 n] w fun e w' => e = .returned (.bool (p n)) ∧ w = w') (S : Nat → Prop) (A : Option Addr) (c : Nat) (l : List Int) (w : World) (h : Rd intT w S A c l) (n : Nat) (hn : n = l.length) :
    Calls Try.prog 64 #[.slice A n c, .func (.func f) #[] #[]] w fun e w' => e = .returned (.bool (l.any p)) ∧ w = w' := by
  subst hn
  have Hf := Lib.hid hf
  have Hcf := Lib.hid hcf
  clear hf hcf
  go_enter Try.func64, Try.ntmps64
  go_wp2_with fail
  refine (indexFunc_c f p Hcf.out Hf.out S A c l _ h _ rfl).mono ?_
  rintro e w' ⟨⟨n, rfl, hn⟩, rfl⟩
  go_wp2
  go_ret
  exact ⟨rfl, rfl⟩
theorem containsFunc50 (S : Nat → Prop) (A : Option Addr) (c : Nat) (l : List Int) (w : World) (h : Rd intT w S A c l) (n : Nat) (hn : n = l.length) :
    Calls Try.prog 64 #[.slice A n c, .func (.func 65) #[] #[]] w fun e w' => e = .returned (.bool (!l.all okN)) ∧ w = w' := by
  have h2 := containsFunc_c 65 (fun n => !okN n) (fun _ _ => by kernel_rfl) (fun n w => right1_c n w) S A c l w h n hn
  rw [show l.any (fun n => !okN n) = !l.all okN from by rw [List.not_all_eq_any_not]] at h2
  exact h2
set_option maxHeartbeats 1000000 in
theorem right_c (S : Nat → Prop) (A : Option Addr) (c : Nat) (l : List Int) (w : World) (h : Rd intT w S A c l) (n : Nat) (hn : n = l.length) :
    Calls Try.prog 46 #[.slice A n c] w fun e w' => e = .returned (.bool (rightB l)) ∧ w = w' := by
  subst hn
  by_cases h12 : 12 < l.length
  · have h0 : decide (12 < (l.length : Int)) = true := decide_eq_true (by omega)
    go_enter Try.func46, Try.ntmps46
    go_wp2
    go_ret
    exact ⟨by unfold rightB; rw [show decide (l.length ≤ 12) = false from by simp; omega]; rfl, rfl⟩
  · have h0 : decide (12 < (l.length : Int)) = false := decide_eq_false (by omega)
    by_cases hz : 0 < l.length
    · obtain ⟨ad, rfl, hc⟩ := h.int (k := l.length - 1) (by omega)
      have hlast : l.getLast? = some l[l.length - 1] := by rw [List.getLast?_eq_getElem?, List.getElem?_eq_getElem (by omega)]
      have h1 : decide (0 < (l.length : Int)) = true := decide_eq_true (by omega)
      have h2 : (1 : Int) ≤ (l.length : Int) := by omega
      by_cases hb : (l[l.length - 1] == 0) = true
      · have hr : rightB l = false := by unfold rightB; rw [hlast, beq_iff_eq.1 hb]; simp
        have Hr := Lib.hid hr
        clear hr hlast
        go_enter Try.func46, Try.ntmps46
        go_wp2
        go_ret
        exact ⟨by rw [Hr.out]; rfl, rfl⟩
      · have hb : (l[l.length - 1] == 0) = false := by simpa using hb
        have hr : rightB l = l.all okN := by
          unfold rightB
          have h5 : l[l.length - 1] ≠ 0 := by simpa using hb
          have h6 : l.length ≤ 12 := by omega
          rw [hlast, show decide (l.length ≤ 12) = true from decide_eq_true h6]
          simp [h5]
        have Hr := Lib.hid hr
        clear hr hlast
        go_enter Try.func46, Try.ntmps46
        go_wp2_with (go_at_call 64; refine (containsFunc50 S _ c l _ h _ rfl).mono ?_; rintro e w' ⟨rfl, rfl⟩)
        go_ret
        exact ⟨by rw [Hr.out]; simp, rfl⟩
    · have h1 : decide (0 < (l.length : Int)) = false := decide_eq_false (by omega)
      have hn : l = [] := List.eq_nil_of_length_eq_zero (by omega)
      have Hr := Lib.hid (show rightB l = !(!l.all okN) from by rw [hn]; rfl)
      clear hn
      go_enter Try.func46, Try.ntmps46
      go_wp2_with (go_at_call 64; refine (containsFunc50 S _ c l _ h _ rfl).mono ?_; rintro e w' ⟨rfl, rfl⟩)
      go_ret
      exact ⟨by rw [Hr.out, Bool.not_not]; rfl, rfl⟩
end Go.Proofs.Ytfkopkjioohgoaa

/- Walks: sums and products, the program's and the document's. -/
namespace Go.Proofs.Ytfkopkjioohgoaa
open Go.RowKit Go.Cb

theorem okN_t {n : Int} (h : okN n = true) : 0 ≤ n ∧ n ≤ 1152921504606846976 := (okN_iff n).1 h
theorem okN_f {n : Int} (h : okN n = false) : n < 0 ∨ 1152921504606846976 < n := by
  have h2 : ¬ (0 ≤ n ∧ n ≤ 1152921504606846976) := fun h3 => by rw [(okN_iff n).2 h3] at h; cases h
  omega

set_option maxHeartbeats 1000000 in
theorem add_c (a b : Int) (w : World) :
    Calls Try.prog 58 #[.int .i64 a, .int .i64 b] w fun e w' => e = .returned (.tuple #[.int .i64 (addN a b).1, .bool (addN a b).2]) ∧ w = w' := by
  cases hA : okN a with
  | false =>
    have Hn := Lib.hid (show addN a b = (0, false) from by unfold addN; rw [if_neg (by simp [hA])])
    go_enter Try.func58, Try.ntmps58
    go_wp2_with (go_at_call 78; refine (may_c _ _).mono ?_; rintro e w' ⟨rfl, rfl⟩)
    go_ret2
    exact ⟨by rw [Hn.out]; rfl, rfl⟩
  | true =>
    obtain ⟨a0, a1⟩ := okN_t hA
    cases hB : okN b with
    | false =>
      have Hn := Lib.hid (show addN a b = (0, false) from by unfold addN; rw [if_neg (by simp [hB])])
      go_enter Try.func58, Try.ntmps58
      go_wp2_with (go_at_call 78; refine (may_c _ _).mono ?_; rintro e w' ⟨rfl, rfl⟩)
      go_ret2
      exact ⟨by rw [Hn.out]; rfl, rfl⟩
    | true =>
      obtain ⟨b0, b1⟩ := okN_t hB
      by_cases hs : a + b ≤ 1152921504606846976
      · have Hn := Lib.hid (show addN a b = (a + b, true) from by unfold addN far; rw [if_pos ⟨hA, hB, hs⟩])
        have d : decide (1152921504606846976 - b < a) = false := decide_eq_false (by omega)
        go_enter Try.func58, Try.ntmps58
        go_wp2_with (go_at_call 78; refine (may_c _ _).mono ?_; rintro e w' ⟨rfl, rfl⟩)
        go_ret2
        exact ⟨by rw [Hn.out]; rfl, rfl⟩
      · have Hn := Lib.hid (show addN a b = (0, false) from by unfold addN far; rw [if_neg (by omega)])
        have d : decide (1152921504606846976 - b < a) = true := decide_eq_true (by omega)
        go_enter Try.func58, Try.ntmps58
        go_wp2_with (go_at_call 78; refine (may_c _ _).mono ?_; rintro e w' ⟨rfl, rfl⟩)
        go_ret2
        exact ⟨by rw [Hn.out]; rfl, rfl⟩



theorem addN_comm (a b : Int) : addN a b = addN b a := by
  unfold addN
  by_cases h : okN a = true ∧ okN b = true ∧ a + b ≤ far
  · rw [if_pos h, if_pos ⟨h.2.1, h.1, by rw [Int.add_comm]; exact h.2.2⟩, Int.add_comm]
  · rw [if_neg h, if_neg (fun h2 => h ⟨h2.2.1, h2.1, by rw [Int.add_comm]; exact h2.2.2⟩)]
theorem mulN_comm (a b : Int) : mulN a b = mulN b a := by
  unfold mulN
  by_cases h : okN a = true ∧ okN b = true ∧ a * b ≤ far
  · rw [if_pos h, if_pos ⟨h.2.1, h.1, by rw [Int.mul_comm]; exact h.2.2⟩, Int.mul_comm]
  · rw [if_neg h, if_neg (fun h2 => h ⟨h2.2.1, h2.1, by rw [Int.mul_comm]; exact h2.2.2⟩)]
theorem addN_ok {a b n : Int} (h : addN a b = (n, true)) : n = a + b ∧ 0 ≤ a ∧ 0 ≤ b ∧ n ≤ 1152921504606846976 := by
  unfold addN at h
  split at h
  · rename_i hc
    injection h with h _
    obtain ⟨h1, h2, h3⟩ := hc
    have := okN_t h1
    have := okN_t h2
    unfold far at h3
    omega
  · injection h with _ h; cases h
theorem mulN_ok {a b n : Int} (h : mulN a b = (n, true)) : n = a * b ∧ n ≤ 1152921504606846976 := by
  unfold mulN at h
  split at h
  · rename_i hc
    injection h with h _
    obtain ⟨h1, h2, h3⟩ := hc
    unfold far at h3
    omega
  · injection h with _ h; cases h
theorem add_c_to (a b n : Int) (ok : Bool) (h : addN a b = (n, ok)) (w : World) :
    Calls Try.prog 58 #[.int .i64 a, .int .i64 b] w fun e w' => e = .returned (.tuple #[.int .i64 n, .bool ok]) ∧ w = w' := by
  have := add_c a b w
  rw [h] at this
  exact this
end Go.Proofs.Ytfkopkjioohgoaa

/- Walks: meters, the program's and the document's. -/
namespace Go.Proofs.Ytfkopkjioohgoaa
open Go.RowKit Go.Cb

set_option maxHeartbeats 1000000 in
theorem spendNil_s1 (n : Int) (w : World) :
    Calls Try.prog 25 #[.pointer none, .int .i64 n] w fun e w' => e = .returned (.bool true) ∧ w = w' := by
  go_enter Try.func25, Try.ntmps25
  go_wp2
  go_ret
  exact ⟨rfl, rfl⟩

set_option maxHeartbeats 1000000 in
theorem spend_s1 (g : Nat) (b s : Int) (o : Bool) (n : Int) (w : World) (hg : Met w 71 g b s o) (h0 : 0 ≤ s) (h1 : s ≤ b) (h2 : b ≤ 9223372036854775807) :
    Calls Try.prog 25 #[.pointer (some ⟨g, 0, none⟩), .int .i64 n] w fun e w' => e = .returned (.bool (spendOk b s o n)) ∧ Met w' 71 g b (spendS b s o n) (spendO b s o n) ∧ Upd g w w' := by
  obtain ⟨c0, c1, c2, cf⟩ := hg.cells
  have f1 := cf 1
  have f2 := cf 2
  clear cf
  cases o with
  | true =>
    have Hk := Lib.hid (show spendOk b s true n = false from rfl)
    have Hs := Lib.hid (show spendS b s true n = s from rfl)
    have Ho := Lib.hid (show spendO b s true n = true from rfl)
    by_cases hn : n < 0
    all_goals
      go_enter Try.func25, Try.ntmps25
      go_wp2
      go_quiet (fail)
      go_wp2
      go_ret
      rw [Hk.out, Hs.out, Ho.out]
      exact ⟨rfl, (hg.drewN _).setO true, ((Upd.refl g w).drewN _).set rfl _⟩
  | false =>
    by_cases hn : n < 0
    · have Hk := Lib.hid (show spendOk b s false n = true from by simp [spendOk]; omega)
      have Hs := Lib.hid (show spendS b s false n = s from by unfold spendS; rw [if_pos Hk.out]; omega)
      have Ho := Lib.hid (show spendO b s false n = false from by unfold spendO; rw [Hk.out]; rfl)
      have d : decide (b - s < 0) = false := decide_eq_false (by omega)
      go_enter Try.func25, Try.ntmps25
      go_wp2
      go_quiet (fail)
      go_wp2
      go_ret
      rw [Hk.out, Hs.out, Ho.out]
      exact ⟨rfl, (hg.drewN _).setS s, ((Upd.refl g w).drewN _).set rfl _⟩
    · by_cases hs : n ≤ b - s
      · have Hk := Lib.hid (show spendOk b s false n = true from by simp [spendOk]; omega)
        have Hs := Lib.hid (show spendS b s false n = s + n from by unfold spendS; rw [if_pos Hk.out]; omega)
        have Ho := Lib.hid (show spendO b s false n = false from by unfold spendO; rw [Hk.out]; rfl)
        have d : decide (b - s < n) = false := decide_eq_false (by omega)
        go_enter Try.func25, Try.ntmps25
        go_wp2
        go_quiet (fail)
        go_wp2
        go_ret
        rw [Hk.out, Hs.out, Ho.out]
        exact ⟨rfl, (hg.drewN _).setS _, ((Upd.refl g w).drewN _).set rfl _⟩
      · have Hk := Lib.hid (show spendOk b s false n = false from by simp [spendOk]; omega)
        have Hs := Lib.hid (show spendS b s false n = s from by unfold spendS; rw [Hk.out]; rfl)
        have Ho := Lib.hid (show spendO b s false n = true from by unfold spendO; rw [Hk.out]; rfl)
        have d : decide (b - s < n) = true := decide_eq_true (by omega)
        go_enter Try.func25, Try.ntmps25
        go_wp2
        go_quiet (fail)
        go_wp2
        go_ret
        rw [Hk.out, Hs.out, Ho.out]
        exact ⟨rfl, (hg.drewN _).setO true, ((Upd.refl g w).drewN _).set rfl _⟩
theorem spendYes_s1 (g : Nat) (b s n : Int) (w : World) (hg : Met w 71 g b s false) (h0 : 0 ≤ s) (hn : 0 ≤ n) (hs : s + n ≤ b) (h2 : b ≤ 9223372036854775807) :
    Calls Try.prog 25 #[.pointer (some ⟨g, 0, none⟩), .int .i64 n] w fun e w' => e = .returned (.bool true) ∧ Met w' 71 g b (s + n) false ∧ Upd g w w' := by
  have Hk : spendOk b s false n = true := by simp [spendOk]; omega
  refine (spend_s1 g b s false n w hg h0 (by omega) h2).mono ?_
  rintro e w' ⟨rfl, hm, hu⟩
  rw [Hk]
  rw [show spendS b s false n = s + n from by unfold spendS; rw [if_pos Hk]; omega, show spendO b s false n = false from by unfold spendO; rw [Hk]; rfl] at hm
  exact ⟨rfl, hm, hu⟩
theorem spendNeg_s1 (g : Nat) (b s n : Int) (w : World) (hg : Met w 71 g b s false) (h0 : 0 ≤ s) (h1 : s ≤ b) (hn : n < 0) (h2 : b ≤ 9223372036854775807) :
    Calls Try.prog 25 #[.pointer (some ⟨g, 0, none⟩), .int .i64 n] w fun e w' => e = .returned (.bool true) ∧ Met w' 71 g b s false ∧ Upd g w w' := by
  have Hk : spendOk b s false n = true := by simp [spendOk]; omega
  refine (spend_s1 g b s false n w hg h0 (by omega) h2).mono ?_
  rintro e w' ⟨rfl, hm, hu⟩
  rw [Hk]
  rw [show spendS b s false n = s from by unfold spendS; rw [if_pos Hk]; omega, show spendO b s false n = false from by unfold spendO; rw [Hk]; rfl] at hm
  exact ⟨rfl, hm, hu⟩
theorem spendNo_s1 (g : Nat) (b s n : Int) (o : Bool) (w : World) (hg : Met w 71 g b s o) (h0 : 0 ≤ s) (h1 : s ≤ b) (hs : o = true ∨ b < s + n) (h2 : b ≤ 9223372036854775807) :
    Calls Try.prog 25 #[.pointer (some ⟨g, 0, none⟩), .int .i64 n] w fun e w' => e = .returned (.bool false) ∧ Met w' 71 g b s true ∧ Upd g w w' := by
  have Hk : spendOk b s o n = false := by
    rcases hs with rfl | hs
    · rfl
    · cases o <;> simp [spendOk]; omega
  refine (spend_s1 g b s o n w hg h0 h1 h2).mono ?_
  rintro e w' ⟨rfl, hm, hu⟩
  rw [Hk]
  rw [show spendS b s o n = s from by unfold spendS; rw [Hk]; rfl, show spendO b s o n = true from by unfold spendO; rw [Hk]; rfl] at hm
  exact ⟨rfl, hm, hu⟩

set_option maxHeartbeats 1000000 in
theorem newMeter_s1 (b : Int) (w : World) (hb : b ≤ 9223372036854775807) :
    Calls Try.prog 19 #[.int .i64 b] w fun e w' => ∃ g, e = .returned (.pointer (some ⟨g, 0, none⟩)) ∧ w.heap.size ≤ g ∧ Met w' 71 g (max b 0) 0 false ∧ Bel w w' := by
  by_cases h : b < 0
  · have Hm := Lib.hid (show max b 0 = 0 from by omega)
    go_enter Try.func19, Try.ntmps19
    go_wp2
    go_ret
    rw [Hm.out]
    exact ⟨_, rfl, Nat.le_refl _, heap_alloc_new w _, (Bel.refl _).alloc _⟩
  · have Hm := Lib.hid (show max b 0 = b from by omega)
    go_enter Try.func19, Try.ntmps19
    go_wp2
    go_ret
    rw [Hm.out]
    exact ⟨_, rfl, Nat.le_refl _, heap_alloc_new w _, (Bel.refl _).alloc _⟩

set_option maxHeartbeats 1000000 in
theorem spentNil_s1 (w : World) :
    Calls Try.prog 20 #[.pointer none] w fun e w' => e = .returned (.int .i64 0) ∧ w = w' := by
  go_enter Try.func20, Try.ntmps20
  go_wp2
  go_ret
  exact ⟨rfl, rfl⟩
set_option maxHeartbeats 1000000 in
theorem spent_s1 (g : Nat) (b s : Int) (o : Bool) (w : World) (hg : Met w 71 g b s o) :
    Calls Try.prog 20 #[.pointer (some ⟨g, 0, none⟩)] w fun e w' => e = .returned (.int .i64 s) ∧ w = w' := by
  obtain ⟨c0, c1, c2, cf⟩ := hg.cells
  clear cf
  go_enter Try.func20, Try.ntmps20
  go_wp2
  go_ret
  exact ⟨rfl, rfl⟩
theorem spentEq_s1 (g : Nat) (b s : Int) (o : Bool) (w : World) (hg : Met w 71 g b s o) (s' : Int) (hs : s = s') :
    Calls Try.prog 20 #[.pointer (some ⟨g, 0, none⟩)] w fun e w' => e = .returned (.int .i64 s') ∧ w = w' := by subst hs; exact spent_s1 g b s o w hg



end Go.Proofs.Ytfkopkjioohgoaa

/- Walks: words, more. -/
namespace Go.Proofs.Ytfkopkjioohgoaa
open Go.RowKit Go.Cb

theorem info_int : (Try.prog.info? 3).map (fun i => (i.zero, i.size, i.bytes)) = some (some (.int .i64 0), 1, 8) := by kernel_rfl

theorem lit0_bag (W : World) : (Instr.buildSlice 43 0 #[]).run Try.prog W = .ok (.slice (some ⟨W.heap.size, 0, none⟩) 0 0) (W.alloc (.cells #[] 3)) := by kernel_rfl
theorem own_lit0 {α : Type} (d : Ty α) (e : TypeId) (W : World) (base : Nat) (S : Nat → Prop) (hb : base ≤ W.heap.size) : Own d e (W.alloc (.cells #[] e)) base S (.slice (some ⟨W.heap.size, 0, none⟩) 0 0) [] :=
  ⟨[], World.ownsRow_lit W #[] 0 hb (by simp [maxLen]) (by simp), fun j x hj => by simp at hj⟩

set_option maxHeartbeats 1000000 in
theorem clone_c (S : Nat → Prop) (A : Option Addr) (c : Nat) (l : List Int) (w : World) (h : Rd intT w S A c l) (n : Nat) (hn : n = l.length) (hl : l.length * 8 ≤ 140737488355328) :
    Calls Try.prog 52 #[.slice A n c] w fun e w' => ∃ v, e = .returned v ∧ Own intT 3 w' w.heap.size (Ge w.heap.size) v l ∧ Bel w w' := by
  subst hn
  have hm := h.lenMax
  have hq := fun W : World => Lib.run_eql_slice_nil (P := Try.prog) W 43 3 A l.length c 0 0 Try.underlying43
  rcases A with _ | ad
  · have hn : l = [] := by
      cases l with
      | nil => rfl
      | cons x l => obtain ⟨ad, _, e, _⟩ := h.get (j := 0) rfl; cases e
    have Hn := Lib.hid hn
    clear hn
    go_enter Try.func52, Try.ntmps52
    go_wp2
    go_ret
    exact ⟨_, rfl, by rw [Hn.out]; exact Own.nil _ _ _ _ _, Bel.refl _⟩
  · have hb := lit0_bag
    go_enter Try.func52, Try.ntmps52
    go_wp2_with (at_builtin; refine wp_append intT (w0 := w) 43 3 (.int .i64 0) 8 rfl _ _ rfl Try.underlying43 info_int rfl (Ge w.heap.size) S _ [] l (some ad) _ c rfl rfl rfl (own_lit0 _ _ _ _ _ (Nat.le_refl _)) (h.to ((Bel.refl _).alloc _)) (fun _ _ h => h) ((Bel.refl _).alloc _) (by simp [maxLen]; omega) (by simpa using hl) ?_; rintro v1 w1 ho hb1 _ _)
    go_ret
    exact ⟨_, rfl, ho, hb1⟩

set_option maxHeartbeats 1000000 in
theorem cut_c (S : Nat → Prop) (A : Option Addr) (c : Nat) (l : List Int) (w : World) (h : Rd intT w S A c l) (n : Nat) (hn : n = l.length) (hl : l.length * 8 ≤ 140737488355328) :
    Calls Try.prog 88 #[.slice A n c] w fun e w' => ∃ v, e = .returned v ∧ Own intT 3 w' w.heap.size (Ge w.heap.size) v (cutB l) ∧ Bel w w' := by
  subst hn
  have hm := h.lenMax
  have hcap := h.cap
  go_enter Try.func88, Try.ntmps88
  go_wp2
  go_loop [3] (fun v => ∃ k : Nat, k ≤ l.length ∧ v = .int .i64 k ∧ Hid (∀ x ∈ l.drop k, x = 0)) (fun v => (intOf v).toNat)
  case atStart => exact ⟨l.length, Nat.le_refl _, rfl, by intro x hx; simp at hx⟩
  case round =>
    obtain ⟨k, hk, rfl, hp⟩ := hrel
    by_cases hk0 : 0 < k
    · obtain ⟨ad, rfl, hc⟩ := h.int (k := k - 1) (by omega)
      have h2 : (1 : Int) ≤ (k : Int) := by omega
      by_cases hz : (l[k - 1] == 0) = true
      · go_wp2
        go_round
        case rel => exact ⟨k - 1, by omega, by go_num, cut_snoc hk0 hk (beq_iff_eq.1 hz) hp⟩
        case measure => simp [intOf]; omega
      · have hz : (l[k - 1] == 0) = false := by simpa using hz
        have Hcut := Lib.hid (cutB_eq hk hp (.inr ⟨hk0, by simpa using hz⟩))
        go_wp2_with (go_at_call 52; refine (clone_c S _ c (l.take k) _ (h.take k) _ (by simp; omega) (by simp; omega)).mono ?_; rintro e w' ⟨v, rfl, ho, hb⟩)
        go_ret
        exact ⟨_, rfl, by rw [Hcut.out]; exact ho, hb⟩
    · obtain rfl : k = 0 := by omega
      have Hcut := Lib.hid (cutB_eq (Nat.zero_le _) hp (.inl rfl))
      go_wp2_with (go_at_call 52; refine (clone_c S _ c (l.take 0) _ (h.take 0) _ (by simp) (by simp)).mono ?_; rintro e w' ⟨v, rfl, ho, hb⟩)
      go_ret
      exact ⟨_, rfl, by rw [Hcut.out]; exact ho, hb⟩

set_option maxHeartbeats 1000000 in
theorem norm_c (S : Nat → Prop) (A : Option Addr) (c : Nat) (l : List Int) (w : World) (h : Rd intT w S A c l) (n : Nat) (hn : n = l.length) (hl : l.length * 8 ≤ 140737488355328) :
    Calls Try.prog 79 #[.slice A n c] w fun e w' => ∃ v, e = .returned v ∧ Own intT 3 w' w.heap.size (Ge w.heap.size) v (normB l) ∧ Bel w w' := by
  subst hn
  go_enter Try.func79, Try.ntmps79
  go_wp2_with (go_at_call 88; refine (cut_c S _ c l _ h _ rfl hl).mono ?_; rintro e w1 ⟨v, rfl, ho, hb⟩)
  obtain ⟨A1, c1, rfl, hr⟩ := ho.rd
  by_cases hR : rightB (cutB l) = true
  · have Hn := Lib.hid (show normB l = cutB l from by unfold normB; rw [if_pos hR])
    go_wp2_with (go_at_call 46; refine (right_c _ _ _ _ _ hr _ rfl).mono ?_; rintro e w' ⟨rfl, rfl⟩)
    go_ret
    exact ⟨_, rfl, by rw [Hn.out]; exact ho, hb⟩
  · have hR : rightB (cutB l) = false := by simpa using hR
    have Hn := Lib.hid (show normB l = [] from by unfold normB; rw [hR]; rfl)
    go_wp2_with (go_at_call 46; refine (right_c _ _ _ _ _ hr _ rfl).mono ?_; rintro e w' ⟨rfl, rfl⟩)
    go_ret
    exact ⟨_, rfl, by rw [Hn.out]; exact Own.nil _ _ _ _ _, hb⟩

set_option maxHeartbeats 1000000 in
theorem bagOne_c (tag k : Int) (w : World) :
    Calls Try.prog 35 #[.int .i64 tag, .int .i64 k] w fun e w' => ∃ v, e = .returned v ∧ Own intT 3 w' w.heap.size (Ge w.heap.size) v (oneB tag k) ∧ Bel w w' := by
  by_cases h0 : 0 ≤ tag
  · by_cases h1 : tag < 12
    · by_cases h2 : 1 ≤ k
      · by_cases h3 : k ≤ 1152921504606846976
        · obtain ⟨t, rfl⟩ := Int.eq_ofNat_of_zero_le h0
          have Hn := Lib.hid (show oneB (t : Int) k = (List.replicate (t + 1) (0 : Int)).set t k from oneB_eq (by omega) h2 h3)
          have d0 : decide ((t : Int) < 0) = false := decide_eq_false (by omega)
          have d1 : decide (12 ≤ (t : Int)) = false := decide_eq_false (by omega)
          have d2 : decide (k < 1) = false := decide_eq_false (by omega)
          have d3 : decide (1152921504606846976 < k) = false := decide_eq_false (by omega)
          go_enter Try.func35, Try.ntmps35
          go_wp2_with (at_make; refine wp_make (enc := Value.int .i64) (fun _ => rfl) (0 : Int) (w0 := w) 43 3 8 rfl _ _ rfl Try.underlying43 info_int rfl (t + 1) _ _ rfl rfl (by simp) (by simp) (Bel.refl _) (by omega) (by unfold maxLen; omega) ?_; intro w1 ho hb hb2 hsz; obtain ⟨hc, hf⟩ := ho.cell (i := t) (by simp))
          go_ret
          refine ⟨_, rfl, ?_, hb.set (Nat.le_refl _) _⟩
          rw [Hn.out]
          exact (Own.set ho t k).any
        · have d0 : decide (tag < 0) = false := decide_eq_false (by omega)
          have d1 : decide (12 ≤ tag) = false := decide_eq_false (by omega)
          have d2 : decide (k < 1) = false := decide_eq_false (by omega)
          have d3 : decide (1152921504606846976 < k) = true := decide_eq_true (by omega)
          have Hn := Lib.hid (oneB_no (t := tag) (k := k) (by omega))
          go_enter Try.func35, Try.ntmps35
          go_wp2
          go_ret
          exact ⟨_, rfl, by rw [Hn.out]; exact Own.nil _ _ _ _ _, Bel.refl _⟩
      · have d0 : decide (tag < 0) = false := decide_eq_false (by omega)
        have d1 : decide (12 ≤ tag) = false := decide_eq_false (by omega)
        have d2 : decide (k < 1) = true := decide_eq_true (by omega)
        have Hn := Lib.hid (oneB_no (t := tag) (k := k) (by omega))
        go_enter Try.func35, Try.ntmps35
        go_wp2
        go_ret
        exact ⟨_, rfl, by rw [Hn.out]; exact Own.nil _ _ _ _ _, Bel.refl _⟩
    · have d0 : decide (tag < 0) = false := decide_eq_false (by omega)
      have d1 : decide (12 ≤ tag) = true := decide_eq_true (by omega)
      have Hn := Lib.hid (oneB_no (t := tag) (k := k) (by omega))
      go_enter Try.func35, Try.ntmps35
      go_wp2
      go_ret
      exact ⟨_, rfl, by rw [Hn.out]; exact Own.nil _ _ _ _ _, Bel.refl _⟩
  · have d0 : decide (tag < 0) = true := decide_eq_true (by omega)
    have Hn := Lib.hid (oneB_no (t := tag) (k := k) (by omega))
    go_enter Try.func35, Try.ntmps35
    go_wp2
    go_ret
    exact ⟨_, rfl, by rw [Hn.out]; exact Own.nil _ _ _ _ _, Bel.refl _⟩
end Go.Proofs.Ytfkopkjioohgoaa

/- Walks: sums of words. -/
namespace Go.Proofs.Ytfkopkjioohgoaa
open Go.RowKit Go.Cb

theorem addN_sum {x y : Int} (hx : 0 ≤ x ∧ x ≤ far) (hy : 0 ≤ y ∧ y ≤ far) (h : x + y ≤ 1152921504606846976) : addN x y = (x + y, true) := by
  unfold addN
  rw [if_pos ⟨(okN_iff x).2 hx, (okN_iff y).2 hy, h⟩]
theorem addN_over {x y : Int} (h : ¬ x + y ≤ 1152921504606846976) : addN x y = (0, false) := by
  unfold addN
  rw [if_neg (fun h2 => h h2.2.2)]

set_option maxHeartbeats 2000000 in
theorem bagAdd_bad (S : Nat → Prop) (A B : Option Addr) (ca cb : Nat) (a b : List Int) (w : World) (ha : Rd intT w S A ca a) (hb : Rd intT w S B cb b) (hR : rightB a = false ∨ rightB b = false) :
    Calls Try.prog 42 #[.slice A a.length ca, .slice B b.length cb] w fun e w' => e = .returned (.tuple #[.slice none 0 0, .bool false]) ∧ addB a b = ([], false) ∧ w = w' := by
  have Hn := Lib.hid (show addB a b = ([], false) from by unfold addB; rw [if_neg (by rcases hR with h | h <;> simp [h])])
  cases hA : rightB a with
  | false =>
    go_enter Try.func42, Try.ntmps42
    go_wp2_with (go_at_call 46; refine (right_c _ _ _ _ _ (by first | exact ha | exact hb) _ rfl).mono ?_; rintro e w' ⟨rfl, rfl⟩)
    go_ret2
    exact ⟨rfl, Hn.out, rfl⟩
  | true =>
    have hB : rightB b = false := by rcases hR with h | h
                                     · rw [hA] at h; cases h
                                     · exact h
    go_enter Try.func42, Try.ntmps42
    go_wp2_with fail
    refine (right_c _ _ _ _ _ ha _ rfl).mono ?_
    rintro e w' ⟨rfl, rfl⟩
    go_wp2_with fail
    refine (right_c _ _ _ _ _ hb _ rfl).mono ?_
    rintro e w' ⟨rfl, rfl⟩
    go_wp2_with fail
    go_ret2
    exact ⟨rfl, Hn.out, rfl⟩

set_option maxHeartbeats 2000000 in
theorem bagAdd_x (S : Nat → Prop) (A B : Option Addr) (ca cb : Nat) (a b : List Int) (w : World) (ha : Rd intT w S A ca a) (hb : Rd intT w S B cb b) (hA : rightB a = true) (hB : rightB b = true) (hL : ¬ a.length < b.length) :
    Calls Try.prog 42 #[.slice A a.length ca, .slice B b.length cb] w fun e w' => ∃ v, e = .returned (.tuple #[v, .bool (addB a b).2]) ∧ Own intT 3 w' w.heap.size (Ge w.heap.size) v (addB a b).1 ∧ Bel w w' := by
  have la := right_len hA
  have lb := right_len hB
  go_enter Try.func42, Try.ntmps42
  go_wp2_with fail
  refine (right_c _ _ _ _ _ ha _ rfl).mono ?_
  rintro e w' ⟨rfl, rfl⟩
  go_wp2_with fail
  refine (right_c _ _ _ _ _ hb _ rfl).mono ?_
  rintro e w' ⟨rfl, rfl⟩
  go_wp2_with fail
  refine (clone_c S _ _ _ _ ha _ rfl (by omega)).mono ?_
  rintro e w1 ⟨v, rfl, ho, hb1⟩
  obtain ⟨A1, c1, rfl⟩ := ho.form
  go_wp2_with fail
  go_loopw [4, 5, 27] (fun v4 v5 v27 wr => ∃ (k : Nat) (ok : Bool), k ≤ b.length ∧ v27 = .int .i64 k ∧ v5 = .bool ok ∧ v4 = .slice A1 a.length c1 ∧ Own intT 3 wr w.heap.size (Ge w.heap.size) (.slice A1 a.length c1) (addP a (b.take k)) ∧ Hid (∀ i, i < k → a.getD i 0 + b.getD i 0 ≤ far) ∧ Bel w wr) (fun _ _ v27 _ => b.length - (intOf v27).toNat)
  case atStart => exact ⟨0, false, Nat.zero_le _, rfl, rfl, rfl, by rw [List.take_zero, addP_nil]; exact ho, fun i hi => absurd hi (by omega), hb1⟩
  case round =>
    clear ho hb1
    obtain ⟨k, ok, hk, rfl, rfl, rfl, ho, hs, hb1⟩ := hrel
    by_cases hlt : k < b.length
    · have hka : k < a.length := by omega
      have hol : k < (addP a (b.take k)).length := by rw [addP_length]; omega
      obtain ⟨g, rfl, hg, _⟩ := ho.addr (by omega)
      obtain ⟨hc1, hf1⟩ := ho.cell hol
      obtain ⟨ad, hA1, hca⟩ := (ha.to hb1).int hka
      obtain ⟨bd, hB1, hcb⟩ := (hb.to hb1).int hlt
      subst hA1 hB1
      have xa := right_ok (by first | exact hA | exact hB) a[k] (List.getElem_mem hka)
      have xb := right_ok (by first | exact hB | exact hA) b[k] (List.getElem_mem hlt)
      by_cases hsum : a[k] + b[k] ≤ 1152921504606846976
      · have Hn := Lib.hid (addN_sum xa xb hsum)
        have Hsum := Lib.hid hsum
        clear xa xb hsum
        go_wp2_with (go_at_call 58; refine (add_c_to _ _ _ _ Hn.out _).mono ?_; rintro e w' ⟨rfl, rfl⟩)
        go_roundw
        case rel =>
          refine ⟨k + 1, true, by omega, by go_num, rfl, rfl, ?_, ?_, hb1.set hg _⟩
          · rw [addP_step hlt (by omega)]; exact Own.set ho k _
          · intro i hi
            by_cases hik : i < k
            · exact hs i hik
            · obtain rfl : i = k := by omega
              rw [getD_of hka, getD_of hlt]
              exact Hsum.out
        case measure => simp [intOf]; omega
      · have Hn := Lib.hid (addN_over hsum)
        have Hr := Lib.hid (addB_no (a := a) (b := b) (i := k) (by rw [getD_of hka, getD_of hlt]; unfold far; omega))
        clear xa xb hsum
        go_wp2_with (go_at_call 58; refine (add_c_to _ _ _ _ Hn.out _).mono ?_; rintro e w' ⟨rfl, rfl⟩)
        go_ret2
        have hr2 : addB a b = ([], false) := by first | exact Hr.out | exact (addB_comm a b).trans Hr.out
        rw [hr2]
        exact ⟨_, rfl, Own.nil _ _ _ _ _, hb1.set hg _⟩
    · go_wp2
      go_ret2
      have hr2 : addB a b = (addP a b, true) := by
        have := addB_yes (a := a) (b := b) (by first | exact hA | exact hB) (by first | exact hB | exact hA) (by omega) (fun i hi => hs i (by omega))
        first | exact this | exact (addB_comm a b).trans this
      rw [hr2]
      rw [List.take_of_length_le (by omega)] at ho
      exact ⟨_, rfl, ho, hb1⟩
set_option maxHeartbeats 2000000 in
theorem bagAdd_y (S : Nat → Prop) (A B : Option Addr) (ca cb : Nat) (a b : List Int) (w : World) (ha : Rd intT w S A ca a) (hb : Rd intT w S B cb b) (hA : rightB a = true) (hB : rightB b = true) (hL : a.length < b.length) :
    Calls Try.prog 42 #[.slice A a.length ca, .slice B b.length cb] w fun e w' => ∃ v, e = .returned (.tuple #[v, .bool (addB a b).2]) ∧ Own intT 3 w' w.heap.size (Ge w.heap.size) v (addB a b).1 ∧ Bel w w' := by
  have la := right_len hA
  have lb := right_len hB
  go_enter Try.func42, Try.ntmps42
  go_wp2_with fail
  refine (right_c _ _ _ _ _ ha _ rfl).mono ?_
  rintro e w' ⟨rfl, rfl⟩
  go_wp2_with fail
  refine (right_c _ _ _ _ _ hb _ rfl).mono ?_
  rintro e w' ⟨rfl, rfl⟩
  go_wp2_with fail
  refine (clone_c S _ _ _ _ hb _ rfl (by omega)).mono ?_
  rintro e w1 ⟨v, rfl, ho, hb1⟩
  obtain ⟨A1, c1, rfl⟩ := ho.form
  go_wp2_with fail
  go_loopw [4, 5, 27] (fun v4 v5 v27 wr => ∃ (k : Nat) (ok : Bool), k ≤ a.length ∧ v27 = .int .i64 k ∧ v5 = .bool ok ∧ v4 = .slice A1 b.length c1 ∧ Own intT 3 wr w.heap.size (Ge w.heap.size) (.slice A1 b.length c1) (addP b (a.take k)) ∧ Hid (∀ i, i < k → b.getD i 0 + a.getD i 0 ≤ far) ∧ Bel w wr) (fun _ _ v27 _ => a.length - (intOf v27).toNat)
  case atStart => exact ⟨0, false, Nat.zero_le _, rfl, rfl, rfl, by rw [List.take_zero, addP_nil]; exact ho, fun i hi => absurd hi (by omega), hb1⟩
  case round =>
    clear ho hb1
    obtain ⟨k, ok, hk, rfl, rfl, rfl, ho, hs, hb1⟩ := hrel
    by_cases hlt : k < a.length
    · have hka : k < b.length := by omega
      have hol : k < (addP b (a.take k)).length := by rw [addP_length]; omega
      obtain ⟨g, rfl, hg, _⟩ := ho.addr (by omega)
      obtain ⟨hc1, hf1⟩ := ho.cell hol
      obtain ⟨ad, hA1, hca⟩ := (hb.to hb1).int hka
      obtain ⟨bd, hB1, hcb⟩ := (ha.to hb1).int hlt
      subst hA1 hB1
      have xa := right_ok (by first | exact hA | exact hB) b[k] (List.getElem_mem hka)
      have xb := right_ok (by first | exact hB | exact hA) a[k] (List.getElem_mem hlt)
      by_cases hsum : b[k] + a[k] ≤ 1152921504606846976
      · have Hn := Lib.hid (addN_sum xa xb hsum)
        have Hsum := Lib.hid hsum
        clear xa xb hsum
        go_wp2_with (go_at_call 58; refine (add_c_to _ _ _ _ Hn.out _).mono ?_; rintro e w' ⟨rfl, rfl⟩)
        go_roundw
        case rel =>
          refine ⟨k + 1, true, by omega, by go_num, rfl, rfl, ?_, ?_, hb1.set hg _⟩
          · rw [addP_step hlt (by omega)]; exact Own.set ho k _
          · intro i hi
            by_cases hik : i < k
            · exact hs i hik
            · obtain rfl : i = k := by omega
              rw [getD_of hka, getD_of hlt]
              exact Hsum.out
        case measure => simp [intOf]; omega
      · have Hn := Lib.hid (addN_over hsum)
        have Hr := Lib.hid (addB_no (a := b) (b := a) (i := k) (by rw [getD_of hka, getD_of hlt]; unfold far; omega))
        clear xa xb hsum
        go_wp2_with (go_at_call 58; refine (add_c_to _ _ _ _ Hn.out _).mono ?_; rintro e w' ⟨rfl, rfl⟩)
        go_ret2
        have hr2 : addB a b = ([], false) := by first | exact Hr.out | exact (addB_comm a b).trans Hr.out
        rw [hr2]
        exact ⟨_, rfl, Own.nil _ _ _ _ _, hb1.set hg _⟩
    · go_wp2
      go_ret2
      have hr2 : addB a b = (addP b a, true) := by
        have := addB_yes (a := b) (b := a) (by first | exact hA | exact hB) (by first | exact hB | exact hA) (by omega) (fun i hi => hs i (by omega))
        first | exact this | exact (addB_comm a b).trans this
      rw [hr2]
      rw [List.take_of_length_le (by omega)] at ho
      exact ⟨_, rfl, ho, hb1⟩
theorem bagAdd_c (S : Nat → Prop) (A B : Option Addr) (ca cb : Nat) (a b : List Int) (w : World) (ha : Rd intT w S A ca a) (hb : Rd intT w S B cb b) (n m : Nat) (hn : n = a.length) (hm : m = b.length) :
    Calls Try.prog 42 #[.slice A n ca, .slice B m cb] w fun e w' => ∃ v, e = .returned (.tuple #[v, .bool (addB a b).2]) ∧ Own intT 3 w' w.heap.size (Ge w.heap.size) v (addB a b).1 ∧ Bel w w' := by
  subst hn hm
  by_cases hR : rightB a = true ∧ rightB b = true
  · by_cases hL : a.length < b.length
    · exact bagAdd_y S A B ca cb a b w ha hb hR.1 hR.2 hL
    · exact bagAdd_x S A B ca cb a b w ha hb hR.1 hR.2 hL
  · refine (bagAdd_bad S A B ca cb a b w ha hb ?_).mono ?_
    · cases h1 : rightB a with
      | false => exact .inl rfl
      | true =>
        cases h2 : rightB b with
        | false => exact .inr rfl
        | true => exact absurd ⟨h1, h2⟩ hR
    · rintro e w' ⟨rfl, hr, rfl⟩
      rw [hr]
      exact ⟨_, rfl, Own.nil _ _ _ _ _, Bel.refl _⟩
end Go.Proofs.Ytfkopkjioohgoaa

/- Walks: order and totals of words. -/
namespace Go.Proofs.Ytfkopkjioohgoaa
open Go.RowKit Go.Cb

set_option maxHeartbeats 1000000 in
theorem isNaN_c (a : Int) (w : World) : Calls Try.prog 67 #[.int .i64 a] w fun e w' => e = .returned (.bool false) ∧ w = w' := by
  go_enter Try.func67, Try.ntmps67
  go_wp2
  go_ret
  exact ⟨by simp, rfl⟩
set_option maxHeartbeats 1000000 in
theorem cmpCompare_c (a b : Int) (w : World) : Calls Try.prog 49 #[.int .i64 a, .int .i64 b] w fun e w' => e = .returned (.int .i64 (cmpI a b)) ∧ w = w' := by
  by_cases h1 : a < b
  · have Hn := Lib.hid (cmpI_lt h1)
    go_enter Try.func49, Try.ntmps49
    go_wp2_with (go_at_call 67; refine (isNaN_c _ _).mono ?_; rintro e w' ⟨rfl, rfl⟩)
    go_ret
    exact ⟨by rw [Hn.out]; rfl, rfl⟩
  · by_cases h2 : b < a
    · have Hn := Lib.hid (cmpI_gt h2)
      go_enter Try.func49, Try.ntmps49
      go_wp2_with (go_at_call 67; refine (isNaN_c _ _).mono ?_; rintro e w' ⟨rfl, rfl⟩)
      go_ret
      exact ⟨by rw [Hn.out]; rfl, rfl⟩
    · have Hn := Lib.hid (show cmpI a b = 0 from cmpI_zero.2 (by omega))
      go_enter Try.func49, Try.ntmps49
      go_wp2_with (go_at_call 67; refine (isNaN_c _ _).mono ?_; rintro e w' ⟨rfl, rfl⟩)
      go_ret
      exact ⟨by rw [Hn.out]; rfl, rfl⟩

set_option maxHeartbeats 2000000 in
theorem slicesCompare_c (S S' : Nat → Prop) (A B : Option Addr) (ca cb : Nat) (a b : List Int) (w : World) (ha : Rd intT w S A ca a) (hb : Rd intT w S' B cb b) (n m : Nat) (hn : n = a.length) (hm : m = b.length) :
    Calls Try.prog 66 #[.slice A n ca, .slice B m cb] w fun e w' => e = .returned (.int .i64 (cmpL a b)) ∧ w = w' := by
  subst hn hm
  have la := ha.lenMax
  have lb := hb.lenMax
  go_enter Try.func66, Try.ntmps66
  go_wp2
  go_loop [11] (fun v => ∃ k : Nat, k ≤ a.length ∧ k ≤ b.length ∧ v = .int .i64 k ∧ Hid (∀ i, i < k → a.getD i 0 = b.getD i 0)) (fun v => a.length - (intOf v).toNat)
  case atStart => exact ⟨0, Nat.zero_le _, Nat.zero_le _, rfl, fun i hi => absurd hi (by omega)⟩
  case round =>
    obtain ⟨k, hka, hkb, rfl, hp⟩ := hrel
    by_cases h1 : k < a.length
    · obtain ⟨ad, rfl, hca⟩ := ha.int h1
      by_cases h2 : k < b.length
      · obtain ⟨bd, rfl, hcb⟩ := hb.int h2
        by_cases he : a[k] = b[k]
        · have Hz := Lib.hid (cmpI_zero.2 he)
          have Hs := Lib.hid (agree_snoc h1 h2 hp he)
          clear he
          go_wp2_with (go_at_call 49; refine (cmpCompare_c _ _ _).mono ?_; rintro e w' ⟨rfl, rfl⟩; rw [Hz.out])
          go_round
          case rel => exact ⟨k + 1, by omega, by omega, by go_num, Hs.out⟩
          case measure => simp [intOf]; omega
        · have Hr := Lib.hid (cmpL_at h1 h2 hp he)
          have hz : (cmpI a[k] b[k] == 0) = false := by rw [beq_eq_false_iff_ne]; exact fun e => he (cmpI_zero.1 e)
          clear he
          go_wp2_with (go_at_call 49; refine (cmpCompare_c _ _ _).mono ?_; rintro e w' ⟨rfl, rfl⟩)
          go_ret
          exact ⟨by rw [Hr.out]; rfl, rfl⟩
      · have Hr := Lib.hid (cmpL_long (a := a) (b := b) (by omega) (fun i hi => hp i (by omega)))
        go_wp2
        go_ret
        exact ⟨by rw [Hr.out]; rfl, rfl⟩
    · by_cases h2 : k < b.length
      · have Hr := Lib.hid (cmpL_short (a := a) (b := b) (by omega) (fun i hi => hp i (by omega)))
        go_wp2
        go_ret
        exact ⟨by rw [Hr.out]; rfl, rfl⟩
      · have Hr := Lib.hid (cmpL_same (a := a) (b := b) (by omega) (fun i hi => hp i (by omega)))
        go_wp2
        go_ret
        exact ⟨by rw [Hr.out]; rfl, rfl⟩

set_option maxHeartbeats 2000000 in
theorem bagCompare_c (S S' : Nat → Prop) (A B : Option Addr) (ca cb : Nat) (a b : List Int) (w : World) (ha : Rd intT w S A ca a) (hb : Rd intT w S' B cb b) (n m : Nat) (hn : n = a.length) (hm : m = b.length) :
    Calls Try.prog 47 #[.slice A n ca, .slice B m cb] w fun e w' => e = .returned (.int .i64 (cmpB a b)) ∧ w = w' := by
  subst hn hm
  have la := ha.lenMax
  have lb := hb.lenMax
  cases hA : rightB a with
  | false =>
    have Hn := Lib.hid (show cmpB a b = 0 from by unfold cmpB; rw [if_neg (by simp [hA])])
    go_enter Try.func47, Try.ntmps47
    go_wp2_with fail
    refine (right_c _ _ _ _ _ ha _ rfl).mono ?_
    rintro e w' ⟨rfl, rfl⟩
    go_wp2_with fail
    go_ret
    exact ⟨by rw [Hn.out]; rfl, rfl⟩
  | true =>
    cases hB : rightB b with
    | false =>
      have Hn := Lib.hid (show cmpB a b = 0 from by unfold cmpB; rw [if_neg (by simp [hB])])
      go_enter Try.func47, Try.ntmps47
      go_wp2_with fail
      refine (right_c _ _ _ _ _ ha _ rfl).mono ?_
      rintro e w' ⟨rfl, rfl⟩
      go_wp2_with fail
      refine (right_c _ _ _ _ _ hb _ rfl).mono ?_
      rintro e w' ⟨rfl, rfl⟩
      go_wp2_with fail
      go_ret
      exact ⟨by rw [Hn.out]; rfl, rfl⟩
    | true =>
      by_cases hl : a.length = b.length
      · have Hn := Lib.hid (show cmpB a b = cmpL a b from by unfold cmpB; rw [if_pos ⟨hA, hB⟩, if_pos hl])
        have d : (a.length == b.length) = true := by simpa using hl
        clear hl
        go_enter Try.func47, Try.ntmps47
        go_wp2_with fail
        refine (right_c _ _ _ _ _ ha _ rfl).mono ?_
        rintro e w' ⟨rfl, rfl⟩
        go_wp2_with fail
        refine (right_c _ _ _ _ _ hb _ rfl).mono ?_
        rintro e w' ⟨rfl, rfl⟩
        go_wp2_with fail
        refine (slicesCompare_c _ _ _ _ _ _ _ _ _ ha hb _ _ rfl rfl).mono ?_
        rintro e w' ⟨rfl, rfl⟩
        go_wp2_with fail
        go_ret
        exact ⟨by rw [Hn.out]; rfl, rfl⟩
      · have Hn := Lib.hid (show cmpB a b = cmpI a.length b.length from by unfold cmpB; rw [if_pos ⟨hA, hB⟩, if_neg hl])
        have d : (a.length == b.length) = false := by simpa using hl
        clear hl
        go_enter Try.func47, Try.ntmps47
        go_wp2_with fail
        refine (right_c _ _ _ _ _ ha _ rfl).mono ?_
        rintro e w' ⟨rfl, rfl⟩
        go_wp2_with fail
        refine (right_c _ _ _ _ _ hb _ rfl).mono ?_
        rintro e w' ⟨rfl, rfl⟩
        go_wp2_with fail
        refine (cmpCompare_c _ _ _).mono ?_
        rintro e w' ⟨rfl, rfl⟩
        go_wp2_with fail
        go_ret
        exact ⟨by rw [Hn.out]; rfl, rfl⟩
end Go.Proofs.Ytfkopkjioohgoaa

/- Walks: totals and differences; the document's words. -/
namespace Go.Proofs.Ytfkopkjioohgoaa
open Go.RowKit Go.Cb


end Go.Proofs.Ytfkopkjioohgoaa

/- Walks: the document's words; helps. -/
namespace Go.Proofs.Ytfkopkjioohgoaa
open Go.RowKit Go.Cb


set_option maxHeartbeats 1000000 in
theorem copyInt_c (S : Nat → Prop) (A : Option Addr) (c : Nat) (l : List Int) (w : World) (h : Rd intT w S A c l) (n : Nat) (hn : n = l.length) (hl : l.length * 8 ≤ 140737488355328) :
    Calls Try.prog 23 #[.slice A n c] w fun e w' => ∃ v, e = .returned v ∧ Own intT 3 w' w.heap.size (Ge w.heap.size) v l ∧ Bel w w' := by
  subst hn
  go_enter Try.func23, Try.ntmps23
  go_wp2_with (at_builtin; refine wp_append intT (w0 := w) 22 3 (.int .i64 0) 8 rfl _ _ rfl Try.underlying22 info_int rfl (Ge w.heap.size) S _ [] l A _ c rfl rfl rfl (Own.nil _ _ _ _ _) h (fun _ _ h => h) (Bel.refl _) (by simp [maxLen]; omega) (by simpa using hl) ?_; rintro v1 w1 ho hb1 _ _)
  go_ret
  exact ⟨_, rfl, ho, hb1⟩

set_option maxHeartbeats 1000000 in
theorem cutInt_c (S : Nat → Prop) (A : Option Addr) (c : Nat) (l : List Int) (k : Nat) (w : World) (h : Rd intT w S A c l) (n : Nat) (hn : n = l.length) (hl : l.length * 8 ≤ 140737488355328) (K : Int) (hK : K = (k : Int)) :
    Calls Try.prog 8 #[.slice A n c, .int .i64 K] w fun e w' => ∃ v, e = .returned v ∧ Own intT 3 w' w.heap.size (Ge w.heap.size) v (l.take k) ∧ Bel w w' := by
  subst hn hK
  have hm := h.lenMax
  have hcap := h.cap
  by_cases hk : l.length < k
  · have Ht := Lib.hid (show l.take k = l from List.take_of_length_le (by omega))
    have hk2 : (l.length : Int) ≤ (k : Int) := by omega
    go_enter Try.func8, Try.ntmps8
    go_wp2_with (go_at_call 23; refine (copyInt_c S _ c l _ h _ rfl hl).mono ?_; rintro e w' ⟨v, rfl, ho, hb⟩)
    go_ret
    exact ⟨_, rfl, by rw [Ht.out]; exact ho, hb⟩
  · have hk2 : (k : Int) ≤ (l.length : Int) := by omega
    go_enter Try.func8, Try.ntmps8
    go_wp2_with (go_at_call 23; refine (copyInt_c S _ c (l.take k) _ (h.take k) _ (by simp; omega) (by simp; omega)).mono ?_; rintro e w' ⟨v, rfl, ho, hb⟩)
    all_goals
      go_ret
      exact ⟨_, rfl, ho, hb⟩

set_option maxHeartbeats 2000000 in
theorem sameInt_c (S S' : Nat → Prop) (A B : Option Addr) (ca cb : Nat) (a b : List Int) (w : World) (ha : Rd intT w S A ca a) (hb : Rd intT w S' B cb b) (n m : Nat) (hn : n = a.length) (hm : m = b.length) :
    Calls Try.prog 17 #[.slice A n ca, .slice B m cb] w fun e w' => e = .returned (.bool (decide (a = b))) ∧ Bel w w' := by
  subst hn hm
  have la := ha.lenMax
  have lb := hb.lenMax
  by_cases hl : a.length = b.length
  · have hlb : (a.length == b.length) = true := by simpa using hl
    have Hl := Lib.hid hl
    clear hl
    go_enter Try.func17, Try.ntmps17
    go_wp2
    go_loopw [5] (fun v wr => ∃ k : Nat, k ≤ a.length ∧ v = .int .i64 k ∧ Hid (∀ i, i < k → a.getD i 0 = b.getD i 0) ∧ Bel w wr) (fun v _ => a.length - (intOf v).toNat)
    case atStart => exact ⟨0, Nat.zero_le _, rfl, fun i hi => absurd hi (by omega), Bel.refl _⟩
    case round =>
      obtain ⟨k, hk, rfl, hp, hbl⟩ := hrel
      by_cases hlt : k < a.length
      · have hltb : k < b.length := by rw [← Hl.out]; exact hlt
        obtain ⟨ad, rfl, hca⟩ := (ha.to hbl).int hlt
        obtain ⟨bd, rfl, hcb⟩ := (hb.to hbl).int hltb
        cases he : (a[k] == b[k]) with
        | true =>
          have Hs := Lib.hid (agree_snoc hlt hltb hp (beq_iff_eq.1 he))
          have he2 : (a[k] != b[k]) = false := by rw [bne, he]; rfl
          go_wp2
          go_quiet (fail)
          go_wp2
          go_roundw
          case rel => exact ⟨k + 1, by omega, by go_num, Hs.out, hbl.drewN _⟩
          case measure => simp [intOf]; omega
        | false =>
          have Hs := Lib.hid (show decide (a = b) = false from decide_eq_false (fun e => by subst e; simp at he))
          have he2 : (a[k] != b[k]) = true := by rw [bne, he]; rfl
          go_wp2
          go_quiet (fail)
          go_wp2
          go_ret
          exact ⟨by rw [Hs.out]; rfl, hbl.drewN _⟩
      · have Hs := Lib.hid (show decide (a = b) = true from decide_eq_true (list_ext Hl.out (fun i hi => hp i (by omega))))
        go_wp2
        go_ret
        exact ⟨by rw [Hs.out]; rfl, hbl⟩
  · have hlb : (a.length == b.length) = false := by simpa using hl
    have Hs := Lib.hid (show decide (a = b) = false from decide_eq_false (fun e => hl (by rw [e])))
    clear hl
    go_enter Try.func17, Try.ntmps17
    go_wp2
    go_ret
    exact ⟨by rw [Hs.out]; rfl, Bel.refl _⟩

set_option maxHeartbeats 1000000 in
theorem within_c (v n : Int) (w : World) (hn : n ≤ 9223372036854775807) :
    Calls Try.prog 12 #[.int .i64 v, .int .i64 n] w fun e w' => e = .returned (.int .i64 (withinI v n)) ∧ w = w' := by
  by_cases h1 : n < 1
  · have Hw := Lib.hid (show withinI v n = 0 from by unfold withinI; rw [if_pos h1])
    go_enter Try.func12, Try.ntmps12
    go_wp2
    go_ret
    exact ⟨by rw [Hw.out]; rfl, rfl⟩
  · have h1' : 1 ≤ n := by omega
    by_cases h0 : 0 ≤ v
    · have Hw := Lib.hid (show withinI v n = v % n from by unfold withinI; rw [if_neg h1])
      have q0 := Int.emod_nonneg v (b := n) (by omega)
      go_enter Try.func12, Try.ntmps12
      go_wp2
      go_ret
      exact ⟨by rw [Hw.out]; rfl, rfl⟩
    · obtain ⟨q0, q1, q2, q3⟩ := withinI_neg h1' (show v < 0 by omega)
      by_cases ht : v.tmod n < 0
      · have Hw := Lib.hid (q2 ht)
        clear q2 q3
        go_enter Try.func12, Try.ntmps12
        go_wp2
        go_ret
        exact ⟨by rw [← Hw.out]; rfl, rfl⟩
      · have Hw := Lib.hid (q3 ht)
        clear q2 q3
        go_enter Try.func12, Try.ntmps12
        go_wp2
        go_ret
        exact ⟨by rw [← Hw.out]; rfl, rfl⟩

set_option maxHeartbeats 1000000 in
theorem playAt_c (S : Nat → Prop) (A : Option Addr) (c : Nat) (l : List Int) (k : Nat) (w : World) (h : Rd intT w S A c l) (n : Nat) (hn : n = l.length) (K : Int) (hK : K = (k : Int)) :
    Calls Try.prog 22 #[.slice A n c, .int .i64 K] w fun e w' => e = .returned (.int .i64 (l.getD k 0)) ∧ w = w' := by
  subst hn hK
  have hl := h.lenMax
  by_cases hk : k < l.length
  · obtain ⟨ad, rfl, hc⟩ := h.int hk
    have Hg := Lib.hid (getD_of hk)
    go_enter Try.func22, Try.ntmps22
    go_wp2
    go_ret
    exact ⟨by rw [Hg.out]; rfl, rfl⟩
  · have Hg := Lib.hid (getD_out (l := l) (k := k) (by omega))
    go_enter Try.func22, Try.ntmps22
    go_wp2
    go_ret
    exact ⟨by rw [Hg.out]; rfl, rfl⟩
end Go.Proofs.Ytfkopkjioohgoaa

/- Walks: the words that the statements make; the document's sums, differences, order. -/
namespace Go.Proofs.Ytfkopkjioohgoaa
open Go.RowKit Go.Cb



end Go.Proofs.Ytfkopkjioohgoaa

/- Walks: the document's sums of words. -/
namespace Go.Proofs.Ytfkopkjioohgoaa
open Go.RowKit Go.Cb

end Go.Proofs.Ytfkopkjioohgoaa

/- Walks: what the statements of chapter 3 use. -/
namespace Go.Proofs.Ytfkopkjioohgoaa
open Go.RowKit Go.Cb

end Go.Proofs.Ytfkopkjioohgoaa

/- What the rows' proofs use: arguments that are read, opened. -/
namespace Go.Cb
open Go.ChangeShapes Go.WideShapes Go.RowKit

def inI64 (x : Int) : Prop := -9223372036854775808 ≤ x ∧ x ≤ 9223372036854775807
def inU64 (x : Int) : Prop := 0 ≤ x ∧ x ≤ 18446744073709551615
theorem inI64_wf {x : Int} (h : (Lit.int .i64 x).wf = true) : inI64 x := by
  simp [Lit.wf, IntKind.min, IntKind.max, IntKind.signed, IntKind.bits] at h
  exact h
theorem inU64_wf {x : Int} (h : (Lit.int .u64 x).wf = true) : inU64 x := by
  simp [Lit.wf, IntKind.min, IntKind.max, IntKind.signed, IntKind.bits] at h
  exact h

theorem open_rd {H : Type} {enc : TypeId × Value → H} {P : Program} {W : World} {base : Nat} {spare : Nat → Bool} {held : Bool} {t e : TypeId} {k : IntKind} {a : Option Addr} {len cap : Nat} {d : DataW H} {ps : List MemPlace} {ts : List TypeId} {ds : List (DataW H)} {j : Nat}
    (hsz : (DataW.weightsEach P ts ds).all (· ≤ reachBytes) = true) (ht : ts[j]? = some t) (hd : ds[j]? = some d) (hu : P.underlying t = some (.slice e)) (he : P.underlying e = some (.int k)) (hc : P.cellsOf e = 1) (hB : P.bytesOf e = 8)
    (h : DataW.Trod enc P W base spare held t (.slice a len cap) d ps) :
    ∃ l : List Int, len = l.length ∧ Rd (scalar (Value.int k) (fun _ => rfl)) W All a cap l ∧ (∀ x ∈ l, (Lit.int k x).wf = true) ∧ l.length * 8 ≤ 140737488351232 := by
  obtain ⟨fuel, hf⟩ := h
  rcases open_ints hu he hc hf with ⟨hcs, _⟩ | ⟨x, n, c, zs, hcs, _, hl, hm, hz, hx, hcell, hwf⟩
  · simp [Value.cells] at hcs
    obtain ⟨rfl, rfl, rfl⟩ := hcs
    exact ⟨[], rfl, Rd.nil _ _ _ _ _ (by simp [maxLen]), by simp, by simp⟩
  · simp [Value.cells] at hcs
    obtain ⟨rfl, rfl, rfl⟩ := hcs
    obtain ⟨hx, _⟩ := Prod.mk.inj hx
    subst hx
    have hl2 : len ≤ zs.length := by
      rw [hz]
      split
      · exact hl
      · exact Nat.le_refl _
    have hlen : (zs.take len).length = len := by simp; omega
    refine ⟨zs.take len, hlen.symm, ⟨by omega, hm, fun i y hy => ?_⟩, fun y hy => hwf y (List.mem_of_mem_take hy), ?_⟩
    · have hi : i < len := by have := (List.getElem?_eq_some_iff.1 hy).1; omega
      rw [List.getElem?_take, if_pos hi] at hy
      refine ⟨x, [.int k y], rfl, trivial, rfl, fun i' u hu' => ?_⟩
      cases i' with
      | succ i' => simp at hu'
      | zero =>
        have hu2 : u = .int k y := by simpa using hu'.symm
        subst hu2
        have := hcell i (by omega)
        rw [List.getD_eq_getElem?_getD, hy] at this
        simpa [scalar] using this
    · have z := sized_slice hsz ht hd hu
      rw [hB] at z
      have h1 : (lits (H := H) k (zs.take len)).length + (lits (H := H) k (zs.drop len)).length = zs.length := by
        simp [lits]
        omega
      rw [h1] at z
      rw [hlen]
      exact Nat.le_trans (Nat.mul_le_mul_right _ hl2) z
end Go.Cb

/- What the rows' proofs use: arguments of whatever shape, opened. -/
namespace Go.Cb
open Go.ChangeShapes Go.WideShapes Go.RowKit
/-- What is read as data of type t reads as a value of kind d, its numbers as they should be. -/
def Opens (P : Program) {α : Type} (d : Ty α) (ok : α → Prop) (t : TypeId) : Prop :=
  ∀ (H : Type) (enc : TypeId × Value → H) (W : World) (base : Nat) (spare : Nat → Bool) (held : Bool) (fuel : Nat) (cs : List Value) (x : DataW H × List MemPlace),
    DataW.trod enc P W base spare held fuel t cs = some x → ∃ v, d.rd W All v cs ∧ ok v
theorem opens_int {P : Program} {t : TypeId} (hu : P.underlying t = some (.int .i64)) : Opens P intT inI64 t := fun H enc W base spare held fuel cs x h => by
  obtain ⟨n, rfl, _, hw⟩ := DataW.trod_int hu h
  exact ⟨n, rfl, inI64_wf hw⟩
theorem opens_slice {P : Program} {α : Type} {d : Ty α} {ok : α → Prop} {t e : TypeId} (hu : P.underlying t = some (.slice e)) (hc : P.cellsOf e = d.sz) (h : Opens P d ok e) : Opens P (sl d) (fun l => ∀ x ∈ l, ok x) t := fun H enc W base spare held fuel cs x hx => by
  rcases DataW.trod_slice hu hx with ⟨rfl, _⟩ | ⟨a, len, cap, elems, rest, n, _, rfl, _, _, hl, hm, hel, he, _⟩
  · exact ⟨[], ⟨none, 0, rfl, Rd.nil _ _ _ _ _ (by decide)⟩, fun x hx => by simp at hx⟩
  · have key : ∀ i : Fin len, ∃ v, ok v ∧ ∃ cs, d.rd W All v cs ∧ ∀ j u, cs[j]? = some u → W.cell? (a.add (i.1 * d.sz + j)) = some u := fun i => by
      have h1 := he i.1 i.2
      rw [List.getElem?_eq_getElem (by omega), Option.bind_eq_some_iff] at h1
      obtain ⟨cs, h2, h3⟩ := h1
      obtain ⟨_, h4, h5⟩ := World.cells?_some h2
      obtain ⟨v, hv, hok⟩ := h H enc W base spare held n cs _ h3
      refine ⟨v, hok, cs, hv, fun j u hu => ?_⟩
      have hj := (List.getElem?_eq_some_iff.1 hu).1
      have h6 := h5 j (by omega)
      rw [add_add, hc] at h6
      rw [h6, hu]
    obtain ⟨f, hf⟩ := Classical.axiomOfChoice key
    have hlen : (List.ofFn f).length = len := List.length_ofFn
    refine ⟨List.ofFn f, ⟨some a, cap, by rw [hlen], by rw [hlen]; exact hl, hm, fun j x hj => ?_⟩, fun x hx => ?_⟩
    · obtain ⟨hj1, hj2⟩ := List.getElem?_eq_some_iff.1 hj
      rw [hlen] at hj1
      rw [List.getElem_ofFn] at hj2
      obtain ⟨_, cs, h1, h2⟩ := hf ⟨j, hj1⟩
      rw [hj2] at h1
      exact ⟨a, cs, rfl, trivial, h1, h2⟩
    · obtain ⟨i, rfl⟩ := List.mem_ofFn.1 hx
      exact (hf i).1
theorem opens_struct2 {P : Program} {α β : Type} {d : Ty α} {b : Ty β} {ok : α → Prop} {okb : β → Prop} {t : TypeId} {f0 f1 : Field} (hu : P.underlying t = some (.struct #[f0, f1])) (h0 : P.cellsOf f0.type = d.sz) (h1 : P.cellsOf f1.type = b.sz) (ho0 : f0.offset = 0) (ho1 : f1.offset = d.sz) (hc : P.cellsOf t = d.sz + b.sz)
    (hd : Opens P d ok f0.type) (hb : Opens P b okb f1.type) : Opens P (two d b) (fun x => ok x.1 ∧ okb x.2) t := fun H enc W base spare held fuel cs x hx => by
  obtain ⟨xs, n, _, _, hl, hlen, hf⟩ := DataW.trod_struct hu hx
  have e0 := hf 0 f0 rfl
  have e1 := hf 1 f1 rfl
  have hl0 : 0 < xs.length := by rw [hlen]; simp
  have hl1 : 1 < xs.length := by rw [hlen]; simp
  rw [List.getElem?_eq_getElem hl0] at e0
  rw [List.getElem?_eq_getElem hl1] at e1
  obtain ⟨v0, r0, k0⟩ := hd H enc W base spare held n _ _ e0
  obtain ⟨v1, r1, k1⟩ := hb H enc W base spare held n _ _ e1
  rw [ho0, h0, List.drop_zero] at r0
  rw [ho1, h1, List.take_of_length_le (by rw [List.length_drop]; omega)] at r1
  exact ⟨(v0, v1), ⟨_, _, (List.take_append_drop d.sz cs).symm, r0, r1⟩, k0, k1⟩
end Go.Cb
