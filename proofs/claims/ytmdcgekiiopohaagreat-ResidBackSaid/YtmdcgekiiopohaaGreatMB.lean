/- Walks: numbers and words. -/
import Derived.Test.YtmdcgekiiopohaaGreatRows
import Derived.Test.YtmdcgekiiopohaaGreatMA
import Derived.ProofKit
import Derived.OpenShut
import Derived.ChangeOld
import Derived.SizedLaws
import Derived.ChangeSlices
set_option linter.unusedVariables false
set_option linter.unusedSimpArgs false
namespace Go.Proofs.YtmdcgekiiopohaaGreat
open Go.RowKit Go.Cb

set_option maxHeartbeats 400000 in
theorem may_c (n : Int) (w : World) :
    Calls Tryz.prog 47 #[.int .i64 n] w fun e w' => e = .returned (.bool (okN n)) ∧ w = w' := by
  by_cases h : 0 ≤ n
  · have h0 : decide (0 ≤ n) = true := by simpa using h
    go_enter Tryz.func47, Tryz.ntmps47
    go_wp2
    go_ret
    exact ⟨by unfold okN far; rw [h0]; rfl, rfl⟩
  · have h0 : decide (0 ≤ n) = false := by simpa using h
    go_enter Tryz.func47, Tryz.ntmps47
    go_wp2
    go_ret
    exact ⟨by unfold okN; rw [h0]; rfl, rfl⟩

set_option maxHeartbeats 400000 in
theorem right1_c (n : Int) (w : World) :
    Calls Tryz.prog 46 #[.int .i64 n] w fun e w' => e = .returned (.bool (!okN n)) ∧ w = w' := by
  by_cases h : 0 ≤ n
  · have h0 : decide (n < 0) = false := by simpa using h
    go_enter Tryz.func46, Tryz.ntmps46
    go_wp2
    go_ret
    exact ⟨by unfold okN far; rw [show decide (0 ≤ n) = true from by simpa using h, Bool.true_and, ← decide_not]; simp, rfl⟩
  · have h0 : decide (n < 0) = true := by simpa using h
    go_enter Tryz.func46, Tryz.ntmps46
    go_wp2
    go_ret
    exact ⟨by unfold okN; rw [show decide (0 ≤ n) = false from by simpa using h]; rfl, rfl⟩

set_option maxHeartbeats 1000000 in
theorem indexFunc_c (f : FuncId) (p : Int → Bool) (hcf : ∀ (args : Array Value) (w : World), (callFunc f args).run Tryz.prog w = .ok (.enter f args) w) (hf : ∀ n w, Calls Tryz.prog f #[.int .i64 n] w fun e w' => e = .returned (.bool (p n)) ∧ w = w') (S : Nat → Prop) (A : Option Addr) (c : Nat) (l : List Int) (w : World) (h : Rd intT w S A c l) (n : Nat) (hn : n = l.length) :
    Calls Tryz.prog 73 #[.slice A n c, .func (.func f) #[] #[]] w fun e w' => (∃ n : Int, e = .returned (.int .i64 n) ∧ (decide (0 ≤ n) = l.any p)) ∧ w = w' := by
  subst hn
  have hl := h.lenMax
  have Hf := Lib.hid hf
  clear hf
  go_enter Tryz.func73, Tryz.ntmps73
  go_wp2
  go_loop [8] (fun v => ∃ k : Nat, k ≤ l.length ∧ v = .int .i64 k ∧ Hid (∀ x ∈ l.take k, p x = false)) (fun v => l.length - (intOf v).toNat)
  case atStart => exact ⟨0, Nat.zero_le _, rfl, by intro x hx; simp at hx⟩
  case round =>
    obtain ⟨k, hk, rfl, hp⟩ := hrel
    by_cases hlt : k < l.length
    · obtain ⟨ad, rfl, hc⟩ := h.int hlt
      cases hok : p l[k] with
      | false =>
        have Hs := Lib.hid (none_snoc hlt hp hok)
        go_wp2_with fail
        refine (Hf.out _ _).mono ?_
        rw [hok]
        rintro e w' ⟨rfl, rfl⟩
        go_wp2
        go_round
        case rel => exact ⟨k + 1, by omega, by go_num, Hs.out⟩
        case measure => simp [intOf]; omega
      | true =>
        have Hs := Lib.hid (any_yes hlt hok)
        go_wp2_with fail
        refine (Hf.out _ _).mono ?_
        rw [hok]
        rintro e w' ⟨rfl, rfl⟩
        go_wp2
        go_ret
        exact ⟨⟨_, rfl, Hs.out⟩, rfl⟩
    · have Hs := Lib.hid (any_no (show l.length ≤ k by omega) hp)
      go_wp2
      go_ret
      exact ⟨⟨_, rfl, Hs.out⟩, rfl⟩
set_option maxHeartbeats 1000000 in
theorem containsFunc_c (f : FuncId) (p : Int → Bool) (hcf : ∀ (args : Array Value) (w : World), (callFunc f args).run Tryz.prog w = .ok (.enter f args) w) (hf : ∀ n w, Calls Tryz.prog f #[.int .i64 n] w fun e w' => e = .returned (.bool (p n)) ∧ w = w') (S : Nat → Prop) (A : Option Addr) (c : Nat) (l : List Int) (w : World) (h : Rd intT w S A c l) (n : Nat) (hn : n = l.length) :
    Calls Tryz.prog 45 #[.slice A n c, .func (.func f) #[] #[]] w fun e w' => e = .returned (.bool (l.any p)) ∧ w = w' := by
  subst hn
  have Hf := Lib.hid hf
  have Hcf := Lib.hid hcf
  clear hf hcf
  go_enter Tryz.func45, Tryz.ntmps45
  go_wp2_with fail
  refine (indexFunc_c f p Hcf.out Hf.out S A c l _ h _ rfl).mono ?_
  rintro e w' ⟨⟨n, rfl, hn⟩, rfl⟩
  go_wp2
  go_ret
  exact ⟨rfl, rfl⟩
theorem containsFunc50 (S : Nat → Prop) (A : Option Addr) (c : Nat) (l : List Int) (w : World) (h : Rd intT w S A c l) (n : Nat) (hn : n = l.length) :
    Calls Tryz.prog 45 #[.slice A n c, .func (.func 46) #[] #[]] w fun e w' => e = .returned (.bool (!l.all okN)) ∧ w = w' := by
  have h2 := containsFunc_c 46 (fun n => !okN n) (fun _ _ => by kernel_rfl) (fun n w => right1_c n w) S A c l w h n hn
  rw [show l.any (fun n => !okN n) = !l.all okN from by rw [List.not_all_eq_any_not]] at h2
  exact h2
set_option maxHeartbeats 1000000 in
theorem right_c (S : Nat → Prop) (A : Option Addr) (c : Nat) (l : List Int) (w : World) (h : Rd intT w S A c l) (n : Nat) (hn : n = l.length) :
    Calls Tryz.prog 20 #[.slice A n c] w fun e w' => e = .returned (.bool (rightB l)) ∧ w = w' := by
  subst hn
  by_cases h12 : 12 < l.length
  · have h0 : decide (12 < (l.length : Int)) = true := decide_eq_true (by omega)
    go_enter Tryz.func20, Tryz.ntmps20
    go_wp2
    go_ret
    exact ⟨by unfold rightB; rw [show decide (l.length ≤ 12) = false from by simp; omega]; rfl, rfl⟩
  · have h0 : decide (12 < (l.length : Int)) = false := decide_eq_false (by omega)
    by_cases hz : 0 < l.length
    · obtain ⟨ad, rfl, hc⟩ := h.int (k := l.length - 1) (by omega)
      have hlast : l.getLast? = some l[l.length - 1] := by rw [List.getLast?_eq_getElem?, List.getElem?_eq_getElem (by omega)]
      have h1 : decide (0 < (l.length : Int)) = true := decide_eq_true (by omega)
      have h2 : (1 : Int) ≤ (l.length : Int) := by omega
      by_cases hb : (l[l.length - 1] == 0) = true
      · have hr : rightB l = false := by unfold rightB; rw [hlast, beq_iff_eq.1 hb]; simp
        have Hr := Lib.hid hr
        clear hr hlast
        go_enter Tryz.func20, Tryz.ntmps20
        go_wp2
        go_ret
        exact ⟨by rw [Hr.out]; rfl, rfl⟩
      · have hb : (l[l.length - 1] == 0) = false := by simpa using hb
        have hr : rightB l = l.all okN := by
          unfold rightB
          have h5 : l[l.length - 1] ≠ 0 := by simpa using hb
          have h6 : l.length ≤ 12 := by omega
          rw [hlast, show decide (l.length ≤ 12) = true from decide_eq_true h6]
          simp [h5]
        have Hr := Lib.hid hr
        clear hr hlast
        go_enter Tryz.func20, Tryz.ntmps20
        go_wp2_with (go_at_call 45; refine (containsFunc50 S _ c l _ h _ rfl).mono ?_; rintro e w' ⟨rfl, rfl⟩)
        go_ret
        exact ⟨by rw [Hr.out]; simp, rfl⟩
    · have h1 : decide (0 < (l.length : Int)) = false := decide_eq_false (by omega)
      have hn : l = [] := List.eq_nil_of_length_eq_zero (by omega)
      have Hr := Lib.hid (show rightB l = !(!l.all okN) from by rw [hn]; rfl)
      clear hn
      go_enter Tryz.func20, Tryz.ntmps20
      go_wp2_with (go_at_call 45; refine (containsFunc50 S _ c l _ h _ rfl).mono ?_; rintro e w' ⟨rfl, rfl⟩)
      go_ret
      exact ⟨by rw [Hr.out, Bool.not_not]; rfl, rfl⟩
end Go.Proofs.YtmdcgekiiopohaaGreat

/- Walks: sums and products, the program's and the document's. -/
namespace Go.Proofs.YtmdcgekiiopohaaGreat
open Go.RowKit Go.Cb

theorem okN_t {n : Int} (h : okN n = true) : 0 ≤ n ∧ n ≤ 1152921504606846976 := (okN_iff n).1 h
theorem okN_f {n : Int} (h : okN n = false) : n < 0 ∨ 1152921504606846976 < n := by
  have h2 : ¬ (0 ≤ n ∧ n ≤ 1152921504606846976) := fun h3 => by rw [(okN_iff n).2 h3] at h; cases h
  omega

set_option maxHeartbeats 1000000 in
theorem add_c (a b : Int) (w : World) :
    Calls Tryz.prog 22 #[.int .i64 a, .int .i64 b] w fun e w' => e = .returned (.tuple #[.int .i64 (addN a b).1, .bool (addN a b).2]) ∧ w = w' := by
  cases hA : okN a with
  | false =>
    have Hn := Lib.hid (show addN a b = (0, false) from by unfold addN; rw [if_neg (by simp [hA])])
    go_enter Tryz.func22, Tryz.ntmps22
    go_wp2_with (go_at_call 47; refine (may_c _ _).mono ?_; rintro e w' ⟨rfl, rfl⟩)
    go_ret2
    exact ⟨by rw [Hn.out]; rfl, rfl⟩
  | true =>
    obtain ⟨a0, a1⟩ := okN_t hA
    cases hB : okN b with
    | false =>
      have Hn := Lib.hid (show addN a b = (0, false) from by unfold addN; rw [if_neg (by simp [hB])])
      go_enter Tryz.func22, Tryz.ntmps22
      go_wp2_with (go_at_call 47; refine (may_c _ _).mono ?_; rintro e w' ⟨rfl, rfl⟩)
      go_ret2
      exact ⟨by rw [Hn.out]; rfl, rfl⟩
    | true =>
      obtain ⟨b0, b1⟩ := okN_t hB
      by_cases hs : a + b ≤ 1152921504606846976
      · have Hn := Lib.hid (show addN a b = (a + b, true) from by unfold addN far; rw [if_pos ⟨hA, hB, hs⟩])
        have d : decide (1152921504606846976 - b < a) = false := decide_eq_false (by omega)
        go_enter Tryz.func22, Tryz.ntmps22
        go_wp2_with (go_at_call 47; refine (may_c _ _).mono ?_; rintro e w' ⟨rfl, rfl⟩)
        go_ret2
        exact ⟨by rw [Hn.out]; rfl, rfl⟩
      · have Hn := Lib.hid (show addN a b = (0, false) from by unfold addN far; rw [if_neg (by omega)])
        have d : decide (1152921504606846976 - b < a) = true := decide_eq_true (by omega)
        go_enter Tryz.func22, Tryz.ntmps22
        go_wp2_with (go_at_call 47; refine (may_c _ _).mono ?_; rintro e w' ⟨rfl, rfl⟩)
        go_ret2
        exact ⟨by rw [Hn.out]; rfl, rfl⟩


set_option maxHeartbeats 1000000 in
theorem refAdd_c (a b : Int) (w : World) :
    Calls Tryz.prog 111 #[.int .i64 a, .int .i64 b] w fun e w' => e = .returned (.tuple #[.int .i64 (addN a b).1, .bool (addN a b).2]) ∧ w = w' := by
  by_cases a0 : 0 ≤ a
  · have d0 : decide (a < 0) = false := decide_eq_false (by omega)
    by_cases b0 : 0 ≤ b
    · have d1 : decide (b < 0) = false := decide_eq_false (by omega)
      by_cases a1 : a ≤ 1152921504606846976
      · have d2 : decide (1152921504606846976 < a) = false := decide_eq_false (by omega)
        by_cases hs : a + b ≤ 1152921504606846976
        · have Hn := Lib.hid (show addN a b = (a + b, true) from by unfold addN; rw [if_pos ⟨(okN_iff a).2 ⟨a0, a1⟩, (okN_iff b).2 ⟨b0, by unfold far; omega⟩, hs⟩])
          have d : decide (1152921504606846976 - a < b) = false := decide_eq_false (by omega)
          go_enter Tryz.func111, Tryz.ntmps111
          go_wp2
          go_ret2
          exact ⟨by rw [Hn.out]; rfl, rfl⟩
        · have Hn := Lib.hid (show addN a b = (0, false) from by unfold addN far; rw [if_neg (by omega)])
          have d : decide (1152921504606846976 - a < b) = true := decide_eq_true (by omega)
          go_enter Tryz.func111, Tryz.ntmps111
          go_wp2
          go_ret2
          exact ⟨by rw [Hn.out]; rfl, rfl⟩
      · have d2 : decide (1152921504606846976 < a) = true := decide_eq_true (by omega)
        have Hn := Lib.hid (show addN a b = (0, false) from by unfold addN; rw [if_neg (by rintro ⟨h, _⟩; exact a1 (okN_t h).2)])
        go_enter Tryz.func111, Tryz.ntmps111
        go_wp2
        go_ret2
        exact ⟨by rw [Hn.out]; rfl, rfl⟩
    · have d1 : decide (b < 0) = true := decide_eq_true (by omega)
      have Hn := Lib.hid (show addN a b = (0, false) from by unfold addN; rw [if_neg (by rintro ⟨_, h, _⟩; exact b0 (okN_t h).1)])
      go_enter Tryz.func111, Tryz.ntmps111
      go_wp2
      go_ret2
      exact ⟨by rw [Hn.out]; rfl, rfl⟩
  · have d0 : decide (a < 0) = true := decide_eq_true (by omega)
    have Hn := Lib.hid (show addN a b = (0, false) from by unfold addN; rw [if_neg (by rintro ⟨h, _⟩; exact a0 (okN_t h).1)])
    go_enter Tryz.func111, Tryz.ntmps111
    go_wp2
    go_ret2
    exact ⟨by rw [Hn.out]; rfl, rfl⟩

theorem addN_comm (a b : Int) : addN a b = addN b a := by
  unfold addN
  by_cases h : okN a = true ∧ okN b = true ∧ a + b ≤ far
  · rw [if_pos h, if_pos ⟨h.2.1, h.1, by rw [Int.add_comm]; exact h.2.2⟩, Int.add_comm]
  · rw [if_neg h, if_neg (fun h2 => h ⟨h2.2.1, h2.1, by rw [Int.add_comm]; exact h2.2.2⟩)]
theorem mulN_comm (a b : Int) : mulN a b = mulN b a := by
  unfold mulN
  by_cases h : okN a = true ∧ okN b = true ∧ a * b ≤ far
  · rw [if_pos h, if_pos ⟨h.2.1, h.1, by rw [Int.mul_comm]; exact h.2.2⟩, Int.mul_comm]
  · rw [if_neg h, if_neg (fun h2 => h ⟨h2.2.1, h2.1, by rw [Int.mul_comm]; exact h2.2.2⟩)]
theorem addN_ok {a b n : Int} (h : addN a b = (n, true)) : n = a + b ∧ 0 ≤ a ∧ 0 ≤ b ∧ n ≤ 1152921504606846976 := by
  unfold addN at h
  split at h
  · rename_i hc
    injection h with h _
    obtain ⟨h1, h2, h3⟩ := hc
    have := okN_t h1
    have := okN_t h2
    unfold far at h3
    omega
  · injection h with _ h; cases h
theorem mulN_ok {a b n : Int} (h : mulN a b = (n, true)) : n = a * b ∧ n ≤ 1152921504606846976 := by
  unfold mulN at h
  split at h
  · rename_i hc
    injection h with h _
    obtain ⟨h1, h2, h3⟩ := hc
    unfold far at h3
    omega
  · injection h with _ h; cases h
theorem add_c_to (a b n : Int) (ok : Bool) (h : addN a b = (n, ok)) (w : World) :
    Calls Tryz.prog 22 #[.int .i64 a, .int .i64 b] w fun e w' => e = .returned (.tuple #[.int .i64 n, .bool ok]) ∧ w = w' := by
  have := add_c a b w
  rw [h] at this
  exact this
theorem refAdd_c_to (a b n : Int) (ok : Bool) (h : addN a b = (n, ok)) (w : World) :
    Calls Tryz.prog 111 #[.int .i64 a, .int .i64 b] w fun e w' => e = .returned (.tuple #[.int .i64 n, .bool ok]) ∧ w = w' := by
  have := refAdd_c a b w
  rw [h] at this
  exact this
end Go.Proofs.YtmdcgekiiopohaaGreat

/- Walks: meters, the program's and the document's. -/
namespace Go.Proofs.YtmdcgekiiopohaaGreat
open Go.RowKit Go.Cb

set_option maxHeartbeats 1000000 in
theorem spendNil_s1 (n : Int) (w : World) :
    Calls Tryz.prog 50 #[.pointer none, .int .i64 n] w fun e w' => e = .returned (.bool true) ∧ w = w' := by
  go_enter Tryz.func50, Tryz.ntmps50
  go_wp2
  go_ret
  exact ⟨rfl, rfl⟩

set_option maxHeartbeats 1000000 in
theorem spend_s1 (g : Nat) (b s : Int) (o : Bool) (n : Int) (w : World) (hg : Met w 120 g b s o) (h0 : 0 ≤ s) (h1 : s ≤ b) (h2 : b ≤ 9223372036854775807) :
    Calls Tryz.prog 50 #[.pointer (some ⟨g, 0, none⟩), .int .i64 n] w fun e w' => e = .returned (.bool (spendOk b s o n)) ∧ Met w' 120 g b (spendS b s o n) (spendO b s o n) ∧ Upd g w w' := by
  obtain ⟨c0, c1, c2, cf⟩ := hg.cells
  have f1 := cf 1
  have f2 := cf 2
  clear cf
  cases o with
  | true =>
    have Hk := Lib.hid (show spendOk b s true n = false from rfl)
    have Hs := Lib.hid (show spendS b s true n = s from rfl)
    have Ho := Lib.hid (show spendO b s true n = true from rfl)
    by_cases hn : n < 0
    all_goals
      go_enter Tryz.func50, Tryz.ntmps50
      go_wp2
      go_quiet (fail)
      go_wp2
      go_ret
      rw [Hk.out, Hs.out, Ho.out]
      exact ⟨rfl, (hg.drewN _).setO true, ((Upd.refl g w).drewN _).set rfl _⟩
  | false =>
    by_cases hn : n < 0
    · have Hk := Lib.hid (show spendOk b s false n = true from by simp [spendOk]; omega)
      have Hs := Lib.hid (show spendS b s false n = s from by unfold spendS; rw [if_pos Hk.out]; omega)
      have Ho := Lib.hid (show spendO b s false n = false from by unfold spendO; rw [Hk.out]; rfl)
      have d : decide (b - s < 0) = false := decide_eq_false (by omega)
      go_enter Tryz.func50, Tryz.ntmps50
      go_wp2
      go_quiet (fail)
      go_wp2
      go_ret
      rw [Hk.out, Hs.out, Ho.out]
      exact ⟨rfl, (hg.drewN _).setS s, ((Upd.refl g w).drewN _).set rfl _⟩
    · by_cases hs : n ≤ b - s
      · have Hk := Lib.hid (show spendOk b s false n = true from by simp [spendOk]; omega)
        have Hs := Lib.hid (show spendS b s false n = s + n from by unfold spendS; rw [if_pos Hk.out]; omega)
        have Ho := Lib.hid (show spendO b s false n = false from by unfold spendO; rw [Hk.out]; rfl)
        have d : decide (b - s < n) = false := decide_eq_false (by omega)
        go_enter Tryz.func50, Tryz.ntmps50
        go_wp2
        go_quiet (fail)
        go_wp2
        go_ret
        rw [Hk.out, Hs.out, Ho.out]
        exact ⟨rfl, (hg.drewN _).setS _, ((Upd.refl g w).drewN _).set rfl _⟩
      · have Hk := Lib.hid (show spendOk b s false n = false from by simp [spendOk]; omega)
        have Hs := Lib.hid (show spendS b s false n = s from by unfold spendS; rw [Hk.out]; rfl)
        have Ho := Lib.hid (show spendO b s false n = true from by unfold spendO; rw [Hk.out]; rfl)
        have d : decide (b - s < n) = true := decide_eq_true (by omega)
        go_enter Tryz.func50, Tryz.ntmps50
        go_wp2
        go_quiet (fail)
        go_wp2
        go_ret
        rw [Hk.out, Hs.out, Ho.out]
        exact ⟨rfl, (hg.drewN _).setO true, ((Upd.refl g w).drewN _).set rfl _⟩
theorem spendYes_s1 (g : Nat) (b s n : Int) (w : World) (hg : Met w 120 g b s false) (h0 : 0 ≤ s) (hn : 0 ≤ n) (hs : s + n ≤ b) (h2 : b ≤ 9223372036854775807) :
    Calls Tryz.prog 50 #[.pointer (some ⟨g, 0, none⟩), .int .i64 n] w fun e w' => e = .returned (.bool true) ∧ Met w' 120 g b (s + n) false ∧ Upd g w w' := by
  have Hk : spendOk b s false n = true := by simp [spendOk]; omega
  refine (spend_s1 g b s false n w hg h0 (by omega) h2).mono ?_
  rintro e w' ⟨rfl, hm, hu⟩
  rw [Hk]
  rw [show spendS b s false n = s + n from by unfold spendS; rw [if_pos Hk]; omega, show spendO b s false n = false from by unfold spendO; rw [Hk]; rfl] at hm
  exact ⟨rfl, hm, hu⟩
theorem spendNeg_s1 (g : Nat) (b s n : Int) (w : World) (hg : Met w 120 g b s false) (h0 : 0 ≤ s) (h1 : s ≤ b) (hn : n < 0) (h2 : b ≤ 9223372036854775807) :
    Calls Tryz.prog 50 #[.pointer (some ⟨g, 0, none⟩), .int .i64 n] w fun e w' => e = .returned (.bool true) ∧ Met w' 120 g b s false ∧ Upd g w w' := by
  have Hk : spendOk b s false n = true := by simp [spendOk]; omega
  refine (spend_s1 g b s false n w hg h0 (by omega) h2).mono ?_
  rintro e w' ⟨rfl, hm, hu⟩
  rw [Hk]
  rw [show spendS b s false n = s from by unfold spendS; rw [if_pos Hk]; omega, show spendO b s false n = false from by unfold spendO; rw [Hk]; rfl] at hm
  exact ⟨rfl, hm, hu⟩
theorem spendNo_s1 (g : Nat) (b s n : Int) (o : Bool) (w : World) (hg : Met w 120 g b s o) (h0 : 0 ≤ s) (h1 : s ≤ b) (hs : o = true ∨ b < s + n) (h2 : b ≤ 9223372036854775807) :
    Calls Tryz.prog 50 #[.pointer (some ⟨g, 0, none⟩), .int .i64 n] w fun e w' => e = .returned (.bool false) ∧ Met w' 120 g b s true ∧ Upd g w w' := by
  have Hk : spendOk b s o n = false := by
    rcases hs with rfl | hs
    · rfl
    · cases o <;> simp [spendOk]; omega
  refine (spend_s1 g b s o n w hg h0 h1 h2).mono ?_
  rintro e w' ⟨rfl, hm, hu⟩
  rw [Hk]
  rw [show spendS b s o n = s from by unfold spendS; rw [Hk]; rfl, show spendO b s o n = true from by unfold spendO; rw [Hk]; rfl] at hm
  exact ⟨rfl, hm, hu⟩


set_option maxHeartbeats 1000000 in
theorem spendNil_s2 (n : Int) (w : World) :
    Calls Tryz.prog 32 #[.pointer none, .int .i64 n] w fun e w' => e = .returned (.bool true) ∧ w = w' := by
  go_enter Tryz.func32, Tryz.ntmps32
  go_wp2
  go_ret
  exact ⟨rfl, rfl⟩

set_option maxHeartbeats 1000000 in
theorem spend_s2 (g : Nat) (b s : Int) (o : Bool) (n : Int) (w : World) (hg : Met w 82 g b s o) (h0 : 0 ≤ s) (h1 : s ≤ b) (h2 : b ≤ 9223372036854775807) :
    Calls Tryz.prog 32 #[.pointer (some ⟨g, 0, none⟩), .int .i64 n] w fun e w' => e = .returned (.bool (spendOk b s o n)) ∧ Met w' 82 g b (spendS b s o n) (spendO b s o n) ∧ Upd g w w' := by
  obtain ⟨c0, c1, c2, cf⟩ := hg.cells
  have f1 := cf 1
  have f2 := cf 2
  clear cf
  cases o with
  | true =>
    have Hk := Lib.hid (show spendOk b s true n = false from rfl)
    have Hs := Lib.hid (show spendS b s true n = s from rfl)
    have Ho := Lib.hid (show spendO b s true n = true from rfl)
    by_cases hn : n < 0
    all_goals
      go_enter Tryz.func32, Tryz.ntmps32
      go_wp2
      go_quiet (fail)
      go_wp2
      go_ret
      rw [Hk.out, Hs.out, Ho.out]
      exact ⟨rfl, (hg.drewN _).setO true, ((Upd.refl g w).drewN _).set rfl _⟩
  | false =>
    by_cases hn : n < 0
    · have Hk := Lib.hid (show spendOk b s false n = true from by simp [spendOk]; omega)
      have Hs := Lib.hid (show spendS b s false n = s from by unfold spendS; rw [if_pos Hk.out]; omega)
      have Ho := Lib.hid (show spendO b s false n = false from by unfold spendO; rw [Hk.out]; rfl)
      have d : decide (b - s < 0) = false := decide_eq_false (by omega)
      go_enter Tryz.func32, Tryz.ntmps32
      go_wp2
      go_quiet (fail)
      go_wp2
      go_ret
      rw [Hk.out, Hs.out, Ho.out]
      exact ⟨rfl, (hg.drewN _).setS s, ((Upd.refl g w).drewN _).set rfl _⟩
    · by_cases hs : n ≤ b - s
      · have Hk := Lib.hid (show spendOk b s false n = true from by simp [spendOk]; omega)
        have Hs := Lib.hid (show spendS b s false n = s + n from by unfold spendS; rw [if_pos Hk.out]; omega)
        have Ho := Lib.hid (show spendO b s false n = false from by unfold spendO; rw [Hk.out]; rfl)
        have d : decide (b - s < n) = false := decide_eq_false (by omega)
        go_enter Tryz.func32, Tryz.ntmps32
        go_wp2
        go_quiet (fail)
        go_wp2
        go_ret
        rw [Hk.out, Hs.out, Ho.out]
        exact ⟨rfl, (hg.drewN _).setS _, ((Upd.refl g w).drewN _).set rfl _⟩
      · have Hk := Lib.hid (show spendOk b s false n = false from by simp [spendOk]; omega)
        have Hs := Lib.hid (show spendS b s false n = s from by unfold spendS; rw [Hk.out]; rfl)
        have Ho := Lib.hid (show spendO b s false n = true from by unfold spendO; rw [Hk.out]; rfl)
        have d : decide (b - s < n) = true := decide_eq_true (by omega)
        go_enter Tryz.func32, Tryz.ntmps32
        go_wp2
        go_quiet (fail)
        go_wp2
        go_ret
        rw [Hk.out, Hs.out, Ho.out]
        exact ⟨rfl, (hg.drewN _).setO true, ((Upd.refl g w).drewN _).set rfl _⟩
theorem spendYes_s2 (g : Nat) (b s n : Int) (w : World) (hg : Met w 82 g b s false) (h0 : 0 ≤ s) (hn : 0 ≤ n) (hs : s + n ≤ b) (h2 : b ≤ 9223372036854775807) :
    Calls Tryz.prog 32 #[.pointer (some ⟨g, 0, none⟩), .int .i64 n] w fun e w' => e = .returned (.bool true) ∧ Met w' 82 g b (s + n) false ∧ Upd g w w' := by
  have Hk : spendOk b s false n = true := by simp [spendOk]; omega
  refine (spend_s2 g b s false n w hg h0 (by omega) h2).mono ?_
  rintro e w' ⟨rfl, hm, hu⟩
  rw [Hk]
  rw [show spendS b s false n = s + n from by unfold spendS; rw [if_pos Hk]; omega, show spendO b s false n = false from by unfold spendO; rw [Hk]; rfl] at hm
  exact ⟨rfl, hm, hu⟩
theorem spendNeg_s2 (g : Nat) (b s n : Int) (w : World) (hg : Met w 82 g b s false) (h0 : 0 ≤ s) (h1 : s ≤ b) (hn : n < 0) (h2 : b ≤ 9223372036854775807) :
    Calls Tryz.prog 32 #[.pointer (some ⟨g, 0, none⟩), .int .i64 n] w fun e w' => e = .returned (.bool true) ∧ Met w' 82 g b s false ∧ Upd g w w' := by
  have Hk : spendOk b s false n = true := by simp [spendOk]; omega
  refine (spend_s2 g b s false n w hg h0 (by omega) h2).mono ?_
  rintro e w' ⟨rfl, hm, hu⟩
  rw [Hk]
  rw [show spendS b s false n = s from by unfold spendS; rw [if_pos Hk]; omega, show spendO b s false n = false from by unfold spendO; rw [Hk]; rfl] at hm
  exact ⟨rfl, hm, hu⟩
theorem spendNo_s2 (g : Nat) (b s n : Int) (o : Bool) (w : World) (hg : Met w 82 g b s o) (h0 : 0 ≤ s) (h1 : s ≤ b) (hs : o = true ∨ b < s + n) (h2 : b ≤ 9223372036854775807) :
    Calls Tryz.prog 32 #[.pointer (some ⟨g, 0, none⟩), .int .i64 n] w fun e w' => e = .returned (.bool false) ∧ Met w' 82 g b s true ∧ Upd g w w' := by
  have Hk : spendOk b s o n = false := by
    rcases hs with rfl | hs
    · rfl
    · cases o <;> simp [spendOk]; omega
  refine (spend_s2 g b s o n w hg h0 h1 h2).mono ?_
  rintro e w' ⟨rfl, hm, hu⟩
  rw [Hk]
  rw [show spendS b s o n = s from by unfold spendS; rw [Hk]; rfl, show spendO b s o n = true from by unfold spendO; rw [Hk]; rfl] at hm
  exact ⟨rfl, hm, hu⟩

set_option maxHeartbeats 1000000 in
theorem newMeter_s2 (b : Int) (w : World) (hb : b ≤ 9223372036854775807) :
    Calls Tryz.prog 14 #[.int .i64 b] w fun e w' => ∃ g, e = .returned (.pointer (some ⟨g, 0, none⟩)) ∧ w.heap.size ≤ g ∧ Met w' 82 g (max b 0) 0 false ∧ Bel w w' := by
  by_cases h : b < 0
  · have Hm := Lib.hid (show max b 0 = 0 from by omega)
    go_enter Tryz.func14, Tryz.ntmps14
    go_wp2
    go_ret
    rw [Hm.out]
    exact ⟨_, rfl, Nat.le_refl _, heap_alloc_new w _, (Bel.refl _).alloc _⟩
  · have Hm := Lib.hid (show max b 0 = b from by omega)
    go_enter Tryz.func14, Tryz.ntmps14
    go_wp2
    go_ret
    rw [Hm.out]
    exact ⟨_, rfl, Nat.le_refl _, heap_alloc_new w _, (Bel.refl _).alloc _⟩


end Go.Proofs.YtmdcgekiiopohaaGreat

/- Walks: words, more. -/
namespace Go.Proofs.YtmdcgekiiopohaaGreat
open Go.RowKit Go.Cb

theorem info_int : (Tryz.prog.info? 3).map (fun i => (i.zero, i.size, i.bytes)) = some (some (.int .i64 0), 1, 8) := by kernel_rfl

theorem lit0_bag (W : World) : (Instr.buildSlice 27 0 #[]).run Tryz.prog W = .ok (.slice (some ⟨W.heap.size, 0, none⟩) 0 0) (W.alloc (.cells #[] 3)) := by kernel_rfl
theorem own_lit0 {α : Type} (d : Ty α) (e : TypeId) (W : World) (base : Nat) (S : Nat → Prop) (hb : base ≤ W.heap.size) : Own d e (W.alloc (.cells #[] e)) base S (.slice (some ⟨W.heap.size, 0, none⟩) 0 0) [] :=
  ⟨[], World.ownsRow_lit W #[] 0 hb (by simp [maxLen]) (by simp), fun j x hj => by simp at hj⟩

set_option maxHeartbeats 1000000 in
theorem clone_c (S : Nat → Prop) (A : Option Addr) (c : Nat) (l : List Int) (w : World) (h : Rd intT w S A c l) (n : Nat) (hn : n = l.length) (hl : l.length * 8 ≤ 140737488355328) :
    Calls Tryz.prog 21 #[.slice A n c] w fun e w' => ∃ v, e = .returned v ∧ Own intT 3 w' w.heap.size (Ge w.heap.size) v l ∧ Bel w w' := by
  subst hn
  have hm := h.lenMax
  have hq := fun W : World => Lib.run_eql_slice_nil (P := Tryz.prog) W 27 3 A l.length c 0 0 Tryz.underlying27
  rcases A with _ | ad
  · have hn : l = [] := by
      cases l with
      | nil => rfl
      | cons x l => obtain ⟨ad, _, e, _⟩ := h.get (j := 0) rfl; cases e
    have Hn := Lib.hid hn
    clear hn
    go_enter Tryz.func21, Tryz.ntmps21
    go_wp2
    go_ret
    exact ⟨_, rfl, by rw [Hn.out]; exact Own.nil _ _ _ _ _, Bel.refl _⟩
  · have hb := lit0_bag
    go_enter Tryz.func21, Tryz.ntmps21
    go_wp2_with (at_builtin; refine wp_append intT (w0 := w) 27 3 (.int .i64 0) 8 rfl _ _ rfl Tryz.underlying27 info_int rfl (Ge w.heap.size) S _ [] l (some ad) _ c rfl rfl rfl (own_lit0 _ _ _ _ _ (Nat.le_refl _)) (h.to ((Bel.refl _).alloc _)) (fun _ _ h => h) ((Bel.refl _).alloc _) (by simp [maxLen]; omega) (by simpa using hl) ?_; rintro v1 w1 ho hb1 _ _)
    go_ret
    exact ⟨_, rfl, ho, hb1⟩

set_option maxHeartbeats 1000000 in
theorem cut_c (S : Nat → Prop) (A : Option Addr) (c : Nat) (l : List Int) (w : World) (h : Rd intT w S A c l) (n : Nat) (hn : n = l.length) (hl : l.length * 8 ≤ 140737488355328) :
    Calls Tryz.prog 78 #[.slice A n c] w fun e w' => ∃ v, e = .returned v ∧ Own intT 3 w' w.heap.size (Ge w.heap.size) v (cutB l) ∧ Bel w w' := by
  subst hn
  have hm := h.lenMax
  have hcap := h.cap
  go_enter Tryz.func78, Tryz.ntmps78
  go_wp2
  go_loop [3] (fun v => ∃ k : Nat, k ≤ l.length ∧ v = .int .i64 k ∧ Hid (∀ x ∈ l.drop k, x = 0)) (fun v => (intOf v).toNat)
  case atStart => exact ⟨l.length, Nat.le_refl _, rfl, by intro x hx; simp at hx⟩
  case round =>
    obtain ⟨k, hk, rfl, hp⟩ := hrel
    by_cases hk0 : 0 < k
    · obtain ⟨ad, rfl, hc⟩ := h.int (k := k - 1) (by omega)
      have h2 : (1 : Int) ≤ (k : Int) := by omega
      by_cases hz : (l[k - 1] == 0) = true
      · go_wp2
        go_round
        case rel => exact ⟨k - 1, by omega, by go_num, cut_snoc hk0 hk (beq_iff_eq.1 hz) hp⟩
        case measure => simp [intOf]; omega
      · have hz : (l[k - 1] == 0) = false := by simpa using hz
        have Hcut := Lib.hid (cutB_eq hk hp (.inr ⟨hk0, by simpa using hz⟩))
        go_wp2_with (go_at_call 21; refine (clone_c S _ c (l.take k) _ (h.take k) _ (by simp; omega) (by simp; omega)).mono ?_; rintro e w' ⟨v, rfl, ho, hb⟩)
        go_ret
        exact ⟨_, rfl, by rw [Hcut.out]; exact ho, hb⟩
    · obtain rfl : k = 0 := by omega
      have Hcut := Lib.hid (cutB_eq (Nat.zero_le _) hp (.inl rfl))
      go_wp2_with (go_at_call 21; refine (clone_c S _ c (l.take 0) _ (h.take 0) _ (by simp) (by simp)).mono ?_; rintro e w' ⟨v, rfl, ho, hb⟩)
      go_ret
      exact ⟨_, rfl, by rw [Hcut.out]; exact ho, hb⟩

set_option maxHeartbeats 1000000 in
theorem norm_c (S : Nat → Prop) (A : Option Addr) (c : Nat) (l : List Int) (w : World) (h : Rd intT w S A c l) (n : Nat) (hn : n = l.length) (hl : l.length * 8 ≤ 140737488355328) :
    Calls Tryz.prog 83 #[.slice A n c] w fun e w' => ∃ v, e = .returned v ∧ Own intT 3 w' w.heap.size (Ge w.heap.size) v (normB l) ∧ Bel w w' := by
  subst hn
  go_enter Tryz.func83, Tryz.ntmps83
  go_wp2_with (go_at_call 78; refine (cut_c S _ c l _ h _ rfl hl).mono ?_; rintro e w1 ⟨v, rfl, ho, hb⟩)
  obtain ⟨A1, c1, rfl, hr⟩ := ho.rd
  by_cases hR : rightB (cutB l) = true
  · have Hn := Lib.hid (show normB l = cutB l from by unfold normB; rw [if_pos hR])
    go_wp2_with (go_at_call 20; refine (right_c _ _ _ _ _ hr _ rfl).mono ?_; rintro e w' ⟨rfl, rfl⟩)
    go_ret
    exact ⟨_, rfl, by rw [Hn.out]; exact ho, hb⟩
  · have hR : rightB (cutB l) = false := by simpa using hR
    have Hn := Lib.hid (show normB l = [] from by unfold normB; rw [hR]; rfl)
    go_wp2_with (go_at_call 20; refine (right_c _ _ _ _ _ hr _ rfl).mono ?_; rintro e w' ⟨rfl, rfl⟩)
    go_ret
    exact ⟨_, rfl, by rw [Hn.out]; exact Own.nil _ _ _ _ _, hb⟩

set_option maxHeartbeats 1000000 in
theorem bagOne_c (tag k : Int) (w : World) :
    Calls Tryz.prog 10 #[.int .i64 tag, .int .i64 k] w fun e w' => ∃ v, e = .returned v ∧ Own intT 3 w' w.heap.size (Ge w.heap.size) v (oneB tag k) ∧ Bel w w' := by
  by_cases h0 : 0 ≤ tag
  · by_cases h1 : tag < 12
    · by_cases h2 : 1 ≤ k
      · by_cases h3 : k ≤ 1152921504606846976
        · obtain ⟨t, rfl⟩ := Int.eq_ofNat_of_zero_le h0
          have Hn := Lib.hid (show oneB (t : Int) k = (List.replicate (t + 1) (0 : Int)).set t k from oneB_eq (by omega) h2 h3)
          have d0 : decide ((t : Int) < 0) = false := decide_eq_false (by omega)
          have d1 : decide (12 ≤ (t : Int)) = false := decide_eq_false (by omega)
          have d2 : decide (k < 1) = false := decide_eq_false (by omega)
          have d3 : decide (1152921504606846976 < k) = false := decide_eq_false (by omega)
          go_enter Tryz.func10, Tryz.ntmps10
          go_wp2_with (at_make; refine wp_make (enc := Value.int .i64) (fun _ => rfl) (0 : Int) (w0 := w) 27 3 8 rfl _ _ rfl Tryz.underlying27 info_int rfl (t + 1) _ _ rfl rfl (by simp) (by simp) (Bel.refl _) (by omega) (by unfold maxLen; omega) ?_; intro w1 ho hb hb2 hsz; obtain ⟨hc, hf⟩ := ho.cell (i := t) (by simp))
          go_ret
          refine ⟨_, rfl, ?_, hb.set (Nat.le_refl _) _⟩
          rw [Hn.out]
          exact (Own.set ho t k).any
        · have d0 : decide (tag < 0) = false := decide_eq_false (by omega)
          have d1 : decide (12 ≤ tag) = false := decide_eq_false (by omega)
          have d2 : decide (k < 1) = false := decide_eq_false (by omega)
          have d3 : decide (1152921504606846976 < k) = true := decide_eq_true (by omega)
          have Hn := Lib.hid (oneB_no (t := tag) (k := k) (by omega))
          go_enter Tryz.func10, Tryz.ntmps10
          go_wp2
          go_ret
          exact ⟨_, rfl, by rw [Hn.out]; exact Own.nil _ _ _ _ _, Bel.refl _⟩
      · have d0 : decide (tag < 0) = false := decide_eq_false (by omega)
        have d1 : decide (12 ≤ tag) = false := decide_eq_false (by omega)
        have d2 : decide (k < 1) = true := decide_eq_true (by omega)
        have Hn := Lib.hid (oneB_no (t := tag) (k := k) (by omega))
        go_enter Tryz.func10, Tryz.ntmps10
        go_wp2
        go_ret
        exact ⟨_, rfl, by rw [Hn.out]; exact Own.nil _ _ _ _ _, Bel.refl _⟩
    · have d0 : decide (tag < 0) = false := decide_eq_false (by omega)
      have d1 : decide (12 ≤ tag) = true := decide_eq_true (by omega)
      have Hn := Lib.hid (oneB_no (t := tag) (k := k) (by omega))
      go_enter Tryz.func10, Tryz.ntmps10
      go_wp2
      go_ret
      exact ⟨_, rfl, by rw [Hn.out]; exact Own.nil _ _ _ _ _, Bel.refl _⟩
  · have d0 : decide (tag < 0) = true := decide_eq_true (by omega)
    have Hn := Lib.hid (oneB_no (t := tag) (k := k) (by omega))
    go_enter Tryz.func10, Tryz.ntmps10
    go_wp2
    go_ret
    exact ⟨_, rfl, by rw [Hn.out]; exact Own.nil _ _ _ _ _, Bel.refl _⟩
set_option maxHeartbeats 1000000 in
theorem refOne_c (tag k : Int) (w : World) :
    Calls Tryz.prog 34 #[.int .i64 tag, .int .i64 k] w fun e w' => ∃ v, e = .returned v ∧ Own intT 3 w' w.heap.size (Ge w.heap.size) v (oneB tag k) ∧ Bel w w' := by
  by_cases h0 : 0 ≤ tag
  · by_cases h1 : tag < 12
    · by_cases h2 : 1 ≤ k
      · by_cases h3 : k ≤ 1152921504606846976
        · obtain ⟨t, rfl⟩ := Int.eq_ofNat_of_zero_le h0
          have Hn := Lib.hid (show oneB (t : Int) k = (List.replicate (t + 1) (0 : Int)).set t k from oneB_eq (by omega) h2 h3)
          have d0 : decide ((t : Int) < 0) = false := decide_eq_false (by omega)
          have d1 : decide (12 ≤ (t : Int)) = false := decide_eq_false (by omega)
          have d2 : decide (k < 1) = false := decide_eq_false (by omega)
          have d3 : decide (1152921504606846976 < k) = false := decide_eq_false (by omega)
          go_enter Tryz.func34, Tryz.ntmps34
          go_wp2_with (at_make; refine wp_make (enc := Value.int .i64) (fun _ => rfl) (0 : Int) (w0 := w) 27 3 8 rfl _ _ rfl Tryz.underlying27 info_int rfl (t + 1) _ _ rfl rfl (by simp) (by simp) (Bel.refl _) (by omega) (by unfold maxLen; omega) ?_; intro w1 ho hb hb2 hsz; obtain ⟨hc, hf⟩ := ho.cell (i := t) (by simp))
          go_ret
          refine ⟨_, rfl, ?_, hb.set (Nat.le_refl _) _⟩
          rw [Hn.out]
          exact (Own.set ho t k).any
        · have d0 : decide (tag < 0) = false := decide_eq_false (by omega)
          have d1 : decide (12 ≤ tag) = false := decide_eq_false (by omega)
          have d2 : decide (k < 1) = false := decide_eq_false (by omega)
          have d3 : decide (1152921504606846976 < k) = true := decide_eq_true (by omega)
          have Hn := Lib.hid (oneB_no (t := tag) (k := k) (by omega))
          go_enter Tryz.func34, Tryz.ntmps34
          go_wp2
          go_ret
          exact ⟨_, rfl, by rw [Hn.out]; exact Own.nil _ _ _ _ _, Bel.refl _⟩
      · have d0 : decide (tag < 0) = false := decide_eq_false (by omega)
        have d1 : decide (12 ≤ tag) = false := decide_eq_false (by omega)
        have d2 : decide (k < 1) = true := decide_eq_true (by omega)
        have Hn := Lib.hid (oneB_no (t := tag) (k := k) (by omega))
        go_enter Tryz.func34, Tryz.ntmps34
        go_wp2
        go_ret
        exact ⟨_, rfl, by rw [Hn.out]; exact Own.nil _ _ _ _ _, Bel.refl _⟩
    · have d0 : decide (tag < 0) = false := decide_eq_false (by omega)
      have d1 : decide (12 ≤ tag) = true := decide_eq_true (by omega)
      have Hn := Lib.hid (oneB_no (t := tag) (k := k) (by omega))
      go_enter Tryz.func34, Tryz.ntmps34
      go_wp2
      go_ret
      exact ⟨_, rfl, by rw [Hn.out]; exact Own.nil _ _ _ _ _, Bel.refl _⟩
  · have d0 : decide (tag < 0) = true := decide_eq_true (by omega)
    have Hn := Lib.hid (oneB_no (t := tag) (k := k) (by omega))
    go_enter Tryz.func34, Tryz.ntmps34
    go_wp2
    go_ret
    exact ⟨_, rfl, by rw [Hn.out]; exact Own.nil _ _ _ _ _, Bel.refl _⟩
end Go.Proofs.YtmdcgekiiopohaaGreat

/- Walks: sums of words. -/
namespace Go.Proofs.YtmdcgekiiopohaaGreat
open Go.RowKit Go.Cb

theorem addN_sum {x y : Int} (hx : 0 ≤ x ∧ x ≤ far) (hy : 0 ≤ y ∧ y ≤ far) (h : x + y ≤ 1152921504606846976) : addN x y = (x + y, true) := by
  unfold addN
  rw [if_pos ⟨(okN_iff x).2 hx, (okN_iff y).2 hy, h⟩]
theorem addN_over {x y : Int} (h : ¬ x + y ≤ 1152921504606846976) : addN x y = (0, false) := by
  unfold addN
  rw [if_neg (fun h2 => h h2.2.2)]

set_option maxHeartbeats 2000000 in
theorem bagAdd_bad (S : Nat → Prop) (A B : Option Addr) (ca cb : Nat) (a b : List Int) (w : World) (ha : Rd intT w S A ca a) (hb : Rd intT w S B cb b) (hR : rightB a = false ∨ rightB b = false) :
    Calls Tryz.prog 9 #[.slice A a.length ca, .slice B b.length cb] w fun e w' => e = .returned (.tuple #[.slice none 0 0, .bool false]) ∧ addB a b = ([], false) ∧ w = w' := by
  have Hn := Lib.hid (show addB a b = ([], false) from by unfold addB; rw [if_neg (by rcases hR with h | h <;> simp [h])])
  cases hA : rightB a with
  | false =>
    go_enter Tryz.func9, Tryz.ntmps9
    go_wp2_with (go_at_call 20; refine (right_c _ _ _ _ _ (by first | exact ha | exact hb) _ rfl).mono ?_; rintro e w' ⟨rfl, rfl⟩)
    go_ret2
    exact ⟨rfl, Hn.out, rfl⟩
  | true =>
    have hB : rightB b = false := by rcases hR with h | h
                                     · rw [hA] at h; cases h
                                     · exact h
    go_enter Tryz.func9, Tryz.ntmps9
    go_wp2_with fail
    refine (right_c _ _ _ _ _ ha _ rfl).mono ?_
    rintro e w' ⟨rfl, rfl⟩
    go_wp2_with fail
    refine (right_c _ _ _ _ _ hb _ rfl).mono ?_
    rintro e w' ⟨rfl, rfl⟩
    go_wp2_with fail
    go_ret2
    exact ⟨rfl, Hn.out, rfl⟩

set_option maxHeartbeats 2000000 in
theorem bagAdd_x (S : Nat → Prop) (A B : Option Addr) (ca cb : Nat) (a b : List Int) (w : World) (ha : Rd intT w S A ca a) (hb : Rd intT w S B cb b) (hA : rightB a = true) (hB : rightB b = true) (hL : ¬ a.length < b.length) :
    Calls Tryz.prog 9 #[.slice A a.length ca, .slice B b.length cb] w fun e w' => ∃ v, e = .returned (.tuple #[v, .bool (addB a b).2]) ∧ Own intT 3 w' w.heap.size (Ge w.heap.size) v (addB a b).1 ∧ Bel w w' := by
  have la := right_len hA
  have lb := right_len hB
  go_enter Tryz.func9, Tryz.ntmps9
  go_wp2_with fail
  refine (right_c _ _ _ _ _ ha _ rfl).mono ?_
  rintro e w' ⟨rfl, rfl⟩
  go_wp2_with fail
  refine (right_c _ _ _ _ _ hb _ rfl).mono ?_
  rintro e w' ⟨rfl, rfl⟩
  go_wp2_with fail
  refine (clone_c S _ _ _ _ ha _ rfl (by omega)).mono ?_
  rintro e w1 ⟨v, rfl, ho, hb1⟩
  obtain ⟨A1, c1, rfl⟩ := ho.form
  go_wp2_with fail
  go_loopw [4, 5, 27] (fun v4 v5 v27 wr => ∃ (k : Nat) (ok : Bool), k ≤ b.length ∧ v27 = .int .i64 k ∧ v5 = .bool ok ∧ v4 = .slice A1 a.length c1 ∧ Own intT 3 wr w.heap.size (Ge w.heap.size) (.slice A1 a.length c1) (addP a (b.take k)) ∧ Hid (∀ i, i < k → a.getD i 0 + b.getD i 0 ≤ far) ∧ Bel w wr) (fun _ _ v27 _ => b.length - (intOf v27).toNat)
  case atStart => exact ⟨0, false, Nat.zero_le _, rfl, rfl, rfl, by rw [List.take_zero, addP_nil]; exact ho, fun i hi => absurd hi (by omega), hb1⟩
  case round =>
    clear ho hb1
    obtain ⟨k, ok, hk, rfl, rfl, rfl, ho, hs, hb1⟩ := hrel
    by_cases hlt : k < b.length
    · have hka : k < a.length := by omega
      have hol : k < (addP a (b.take k)).length := by rw [addP_length]; omega
      obtain ⟨g, rfl, hg, _⟩ := ho.addr (by omega)
      obtain ⟨hc1, hf1⟩ := ho.cell hol
      obtain ⟨ad, hA1, hca⟩ := (ha.to hb1).int hka
      obtain ⟨bd, hB1, hcb⟩ := (hb.to hb1).int hlt
      subst hA1 hB1
      have xa := right_ok (by first | exact hA | exact hB) a[k] (List.getElem_mem hka)
      have xb := right_ok (by first | exact hB | exact hA) b[k] (List.getElem_mem hlt)
      by_cases hsum : a[k] + b[k] ≤ 1152921504606846976
      · have Hn := Lib.hid (addN_sum xa xb hsum)
        have Hsum := Lib.hid hsum
        clear xa xb hsum
        go_wp2_with (go_at_call 22; refine (add_c_to _ _ _ _ Hn.out _).mono ?_; rintro e w' ⟨rfl, rfl⟩)
        go_roundw
        case rel =>
          refine ⟨k + 1, true, by omega, by go_num, rfl, rfl, ?_, ?_, hb1.set hg _⟩
          · rw [addP_step hlt (by omega)]; exact Own.set ho k _
          · intro i hi
            by_cases hik : i < k
            · exact hs i hik
            · obtain rfl : i = k := by omega
              rw [getD_of hka, getD_of hlt]
              exact Hsum.out
        case measure => simp [intOf]; omega
      · have Hn := Lib.hid (addN_over hsum)
        have Hr := Lib.hid (addB_no (a := a) (b := b) (i := k) (by rw [getD_of hka, getD_of hlt]; unfold far; omega))
        clear xa xb hsum
        go_wp2_with (go_at_call 22; refine (add_c_to _ _ _ _ Hn.out _).mono ?_; rintro e w' ⟨rfl, rfl⟩)
        go_ret2
        have hr2 : addB a b = ([], false) := by first | exact Hr.out | exact (addB_comm a b).trans Hr.out
        rw [hr2]
        exact ⟨_, rfl, Own.nil _ _ _ _ _, hb1.set hg _⟩
    · go_wp2
      go_ret2
      have hr2 : addB a b = (addP a b, true) := by
        have := addB_yes (a := a) (b := b) (by first | exact hA | exact hB) (by first | exact hB | exact hA) (by omega) (fun i hi => hs i (by omega))
        first | exact this | exact (addB_comm a b).trans this
      rw [hr2]
      rw [List.take_of_length_le (by omega)] at ho
      exact ⟨_, rfl, ho, hb1⟩
set_option maxHeartbeats 2000000 in
theorem bagAdd_y (S : Nat → Prop) (A B : Option Addr) (ca cb : Nat) (a b : List Int) (w : World) (ha : Rd intT w S A ca a) (hb : Rd intT w S B cb b) (hA : rightB a = true) (hB : rightB b = true) (hL : a.length < b.length) :
    Calls Tryz.prog 9 #[.slice A a.length ca, .slice B b.length cb] w fun e w' => ∃ v, e = .returned (.tuple #[v, .bool (addB a b).2]) ∧ Own intT 3 w' w.heap.size (Ge w.heap.size) v (addB a b).1 ∧ Bel w w' := by
  have la := right_len hA
  have lb := right_len hB
  go_enter Tryz.func9, Tryz.ntmps9
  go_wp2_with fail
  refine (right_c _ _ _ _ _ ha _ rfl).mono ?_
  rintro e w' ⟨rfl, rfl⟩
  go_wp2_with fail
  refine (right_c _ _ _ _ _ hb _ rfl).mono ?_
  rintro e w' ⟨rfl, rfl⟩
  go_wp2_with fail
  refine (clone_c S _ _ _ _ hb _ rfl (by omega)).mono ?_
  rintro e w1 ⟨v, rfl, ho, hb1⟩
  obtain ⟨A1, c1, rfl⟩ := ho.form
  go_wp2_with fail
  go_loopw [4, 5, 27] (fun v4 v5 v27 wr => ∃ (k : Nat) (ok : Bool), k ≤ a.length ∧ v27 = .int .i64 k ∧ v5 = .bool ok ∧ v4 = .slice A1 b.length c1 ∧ Own intT 3 wr w.heap.size (Ge w.heap.size) (.slice A1 b.length c1) (addP b (a.take k)) ∧ Hid (∀ i, i < k → b.getD i 0 + a.getD i 0 ≤ far) ∧ Bel w wr) (fun _ _ v27 _ => a.length - (intOf v27).toNat)
  case atStart => exact ⟨0, false, Nat.zero_le _, rfl, rfl, rfl, by rw [List.take_zero, addP_nil]; exact ho, fun i hi => absurd hi (by omega), hb1⟩
  case round =>
    clear ho hb1
    obtain ⟨k, ok, hk, rfl, rfl, rfl, ho, hs, hb1⟩ := hrel
    by_cases hlt : k < a.length
    · have hka : k < b.length := by omega
      have hol : k < (addP b (a.take k)).length := by rw [addP_length]; omega
      obtain ⟨g, rfl, hg, _⟩ := ho.addr (by omega)
      obtain ⟨hc1, hf1⟩ := ho.cell hol
      obtain ⟨ad, hA1, hca⟩ := (hb.to hb1).int hka
      obtain ⟨bd, hB1, hcb⟩ := (ha.to hb1).int hlt
      subst hA1 hB1
      have xa := right_ok (by first | exact hA | exact hB) b[k] (List.getElem_mem hka)
      have xb := right_ok (by first | exact hB | exact hA) a[k] (List.getElem_mem hlt)
      by_cases hsum : b[k] + a[k] ≤ 1152921504606846976
      · have Hn := Lib.hid (addN_sum xa xb hsum)
        have Hsum := Lib.hid hsum
        clear xa xb hsum
        go_wp2_with (go_at_call 22; refine (add_c_to _ _ _ _ Hn.out _).mono ?_; rintro e w' ⟨rfl, rfl⟩)
        go_roundw
        case rel =>
          refine ⟨k + 1, true, by omega, by go_num, rfl, rfl, ?_, ?_, hb1.set hg _⟩
          · rw [addP_step hlt (by omega)]; exact Own.set ho k _
          · intro i hi
            by_cases hik : i < k
            · exact hs i hik
            · obtain rfl : i = k := by omega
              rw [getD_of hka, getD_of hlt]
              exact Hsum.out
        case measure => simp [intOf]; omega
      · have Hn := Lib.hid (addN_over hsum)
        have Hr := Lib.hid (addB_no (a := b) (b := a) (i := k) (by rw [getD_of hka, getD_of hlt]; unfold far; omega))
        clear xa xb hsum
        go_wp2_with (go_at_call 22; refine (add_c_to _ _ _ _ Hn.out _).mono ?_; rintro e w' ⟨rfl, rfl⟩)
        go_ret2
        have hr2 : addB a b = ([], false) := by first | exact Hr.out | exact (addB_comm a b).trans Hr.out
        rw [hr2]
        exact ⟨_, rfl, Own.nil _ _ _ _ _, hb1.set hg _⟩
    · go_wp2
      go_ret2
      have hr2 : addB a b = (addP b a, true) := by
        have := addB_yes (a := b) (b := a) (by first | exact hA | exact hB) (by first | exact hB | exact hA) (by omega) (fun i hi => hs i (by omega))
        first | exact this | exact (addB_comm a b).trans this
      rw [hr2]
      rw [List.take_of_length_le (by omega)] at ho
      exact ⟨_, rfl, ho, hb1⟩
theorem bagAdd_c (S : Nat → Prop) (A B : Option Addr) (ca cb : Nat) (a b : List Int) (w : World) (ha : Rd intT w S A ca a) (hb : Rd intT w S B cb b) (n m : Nat) (hn : n = a.length) (hm : m = b.length) :
    Calls Tryz.prog 9 #[.slice A n ca, .slice B m cb] w fun e w' => ∃ v, e = .returned (.tuple #[v, .bool (addB a b).2]) ∧ Own intT 3 w' w.heap.size (Ge w.heap.size) v (addB a b).1 ∧ Bel w w' := by
  subst hn hm
  by_cases hR : rightB a = true ∧ rightB b = true
  · by_cases hL : a.length < b.length
    · exact bagAdd_y S A B ca cb a b w ha hb hR.1 hR.2 hL
    · exact bagAdd_x S A B ca cb a b w ha hb hR.1 hR.2 hL
  · refine (bagAdd_bad S A B ca cb a b w ha hb ?_).mono ?_
    · cases h1 : rightB a with
      | false => exact .inl rfl
      | true =>
        cases h2 : rightB b with
        | false => exact .inr rfl
        | true => exact absurd ⟨h1, h2⟩ hR
    · rintro e w' ⟨rfl, hr, rfl⟩
      rw [hr]
      exact ⟨_, rfl, Own.nil _ _ _ _ _, Bel.refl _⟩
end Go.Proofs.YtmdcgekiiopohaaGreat

/- Walks: order and totals of words. -/
namespace Go.Proofs.YtmdcgekiiopohaaGreat
open Go.RowKit Go.Cb

set_option maxHeartbeats 1000000 in
theorem isNaN_c (a : Int) (w : World) : Calls Tryz.prog 93 #[.int .i64 a] w fun e w' => e = .returned (.bool false) ∧ w = w' := by
  go_enter Tryz.func93, Tryz.ntmps93
  go_wp2
  go_ret
  exact ⟨by simp, rfl⟩
set_option maxHeartbeats 1000000 in
theorem cmpCompare_c (a b : Int) (w : World) : Calls Tryz.prog 76 #[.int .i64 a, .int .i64 b] w fun e w' => e = .returned (.int .i64 (cmpI a b)) ∧ w = w' := by
  by_cases h1 : a < b
  · have Hn := Lib.hid (cmpI_lt h1)
    go_enter Tryz.func76, Tryz.ntmps76
    go_wp2_with (go_at_call 93; refine (isNaN_c _ _).mono ?_; rintro e w' ⟨rfl, rfl⟩)
    go_ret
    exact ⟨by rw [Hn.out]; rfl, rfl⟩
  · by_cases h2 : b < a
    · have Hn := Lib.hid (cmpI_gt h2)
      go_enter Tryz.func76, Tryz.ntmps76
      go_wp2_with (go_at_call 93; refine (isNaN_c _ _).mono ?_; rintro e w' ⟨rfl, rfl⟩)
      go_ret
      exact ⟨by rw [Hn.out]; rfl, rfl⟩
    · have Hn := Lib.hid (show cmpI a b = 0 from cmpI_zero.2 (by omega))
      go_enter Tryz.func76, Tryz.ntmps76
      go_wp2_with (go_at_call 93; refine (isNaN_c _ _).mono ?_; rintro e w' ⟨rfl, rfl⟩)
      go_ret
      exact ⟨by rw [Hn.out]; rfl, rfl⟩

set_option maxHeartbeats 2000000 in
theorem slicesCompare_c (S S' : Nat → Prop) (A B : Option Addr) (ca cb : Nat) (a b : List Int) (w : World) (ha : Rd intT w S A ca a) (hb : Rd intT w S' B cb b) (n m : Nat) (hn : n = a.length) (hm : m = b.length) :
    Calls Tryz.prog 92 #[.slice A n ca, .slice B m cb] w fun e w' => e = .returned (.int .i64 (cmpL a b)) ∧ w = w' := by
  subst hn hm
  have la := ha.lenMax
  have lb := hb.lenMax
  go_enter Tryz.func92, Tryz.ntmps92
  go_wp2
  go_loop [11] (fun v => ∃ k : Nat, k ≤ a.length ∧ k ≤ b.length ∧ v = .int .i64 k ∧ Hid (∀ i, i < k → a.getD i 0 = b.getD i 0)) (fun v => a.length - (intOf v).toNat)
  case atStart => exact ⟨0, Nat.zero_le _, Nat.zero_le _, rfl, fun i hi => absurd hi (by omega)⟩
  case round =>
    obtain ⟨k, hka, hkb, rfl, hp⟩ := hrel
    by_cases h1 : k < a.length
    · obtain ⟨ad, rfl, hca⟩ := ha.int h1
      by_cases h2 : k < b.length
      · obtain ⟨bd, rfl, hcb⟩ := hb.int h2
        by_cases he : a[k] = b[k]
        · have Hz := Lib.hid (cmpI_zero.2 he)
          have Hs := Lib.hid (agree_snoc h1 h2 hp he)
          clear he
          go_wp2_with (go_at_call 76; refine (cmpCompare_c _ _ _).mono ?_; rintro e w' ⟨rfl, rfl⟩; rw [Hz.out])
          go_round
          case rel => exact ⟨k + 1, by omega, by omega, by go_num, Hs.out⟩
          case measure => simp [intOf]; omega
        · have Hr := Lib.hid (cmpL_at h1 h2 hp he)
          have hz : (cmpI a[k] b[k] == 0) = false := by rw [beq_eq_false_iff_ne]; exact fun e => he (cmpI_zero.1 e)
          clear he
          go_wp2_with (go_at_call 76; refine (cmpCompare_c _ _ _).mono ?_; rintro e w' ⟨rfl, rfl⟩)
          go_ret
          exact ⟨by rw [Hr.out]; rfl, rfl⟩
      · have Hr := Lib.hid (cmpL_long (a := a) (b := b) (by omega) (fun i hi => hp i (by omega)))
        go_wp2
        go_ret
        exact ⟨by rw [Hr.out]; rfl, rfl⟩
    · by_cases h2 : k < b.length
      · have Hr := Lib.hid (cmpL_short (a := a) (b := b) (by omega) (fun i hi => hp i (by omega)))
        go_wp2
        go_ret
        exact ⟨by rw [Hr.out]; rfl, rfl⟩
      · have Hr := Lib.hid (cmpL_same (a := a) (b := b) (by omega) (fun i hi => hp i (by omega)))
        go_wp2
        go_ret
        exact ⟨by rw [Hr.out]; rfl, rfl⟩

set_option maxHeartbeats 2000000 in
theorem bagCompare_c (S S' : Nat → Prop) (A B : Option Addr) (ca cb : Nat) (a b : List Int) (w : World) (ha : Rd intT w S A ca a) (hb : Rd intT w S' B cb b) (n m : Nat) (hn : n = a.length) (hm : m = b.length) :
    Calls Tryz.prog 74 #[.slice A n ca, .slice B m cb] w fun e w' => e = .returned (.int .i64 (cmpB a b)) ∧ w = w' := by
  subst hn hm
  have la := ha.lenMax
  have lb := hb.lenMax
  cases hA : rightB a with
  | false =>
    have Hn := Lib.hid (show cmpB a b = 0 from by unfold cmpB; rw [if_neg (by simp [hA])])
    go_enter Tryz.func74, Tryz.ntmps74
    go_wp2_with fail
    refine (right_c _ _ _ _ _ ha _ rfl).mono ?_
    rintro e w' ⟨rfl, rfl⟩
    go_wp2_with fail
    go_ret
    exact ⟨by rw [Hn.out]; rfl, rfl⟩
  | true =>
    cases hB : rightB b with
    | false =>
      have Hn := Lib.hid (show cmpB a b = 0 from by unfold cmpB; rw [if_neg (by simp [hB])])
      go_enter Tryz.func74, Tryz.ntmps74
      go_wp2_with fail
      refine (right_c _ _ _ _ _ ha _ rfl).mono ?_
      rintro e w' ⟨rfl, rfl⟩
      go_wp2_with fail
      refine (right_c _ _ _ _ _ hb _ rfl).mono ?_
      rintro e w' ⟨rfl, rfl⟩
      go_wp2_with fail
      go_ret
      exact ⟨by rw [Hn.out]; rfl, rfl⟩
    | true =>
      by_cases hl : a.length = b.length
      · have Hn := Lib.hid (show cmpB a b = cmpL a b from by unfold cmpB; rw [if_pos ⟨hA, hB⟩, if_pos hl])
        have d : (a.length == b.length) = true := by simpa using hl
        clear hl
        go_enter Tryz.func74, Tryz.ntmps74
        go_wp2_with fail
        refine (right_c _ _ _ _ _ ha _ rfl).mono ?_
        rintro e w' ⟨rfl, rfl⟩
        go_wp2_with fail
        refine (right_c _ _ _ _ _ hb _ rfl).mono ?_
        rintro e w' ⟨rfl, rfl⟩
        go_wp2_with fail
        refine (slicesCompare_c _ _ _ _ _ _ _ _ _ ha hb _ _ rfl rfl).mono ?_
        rintro e w' ⟨rfl, rfl⟩
        go_wp2_with fail
        go_ret
        exact ⟨by rw [Hn.out]; rfl, rfl⟩
      · have Hn := Lib.hid (show cmpB a b = cmpI a.length b.length from by unfold cmpB; rw [if_pos ⟨hA, hB⟩, if_neg hl])
        have d : (a.length == b.length) = false := by simpa using hl
        clear hl
        go_enter Tryz.func74, Tryz.ntmps74
        go_wp2_with fail
        refine (right_c _ _ _ _ _ ha _ rfl).mono ?_
        rintro e w' ⟨rfl, rfl⟩
        go_wp2_with fail
        refine (right_c _ _ _ _ _ hb _ rfl).mono ?_
        rintro e w' ⟨rfl, rfl⟩
        go_wp2_with fail
        refine (cmpCompare_c _ _ _).mono ?_
        rintro e w' ⟨rfl, rfl⟩
        go_wp2_with fail
        go_ret
        exact ⟨by rw [Hn.out]; rfl, rfl⟩
end Go.Proofs.YtmdcgekiiopohaaGreat

/- Walks: totals and differences; the document's words. -/
namespace Go.Proofs.YtmdcgekiiopohaaGreat
open Go.RowKit Go.Cb

theorem rightB_fast {l : List Int} (hl : l.length ≤ 12) (h : ∀ x ∈ l, okN x = true) : rightB l = (l.getLast? != some 0) := by
  unfold rightB
  rw [decide_eq_true hl, List.all_eq_true.2 h, Bool.true_and, Bool.and_true]
set_option maxHeartbeats 2000000 in
theorem refRight_c (S : Nat → Prop) (A : Option Addr) (c : Nat) (l : List Int) (w : World) (h : Rd intT w S A c l) (n : Nat) (hn : n = l.length) :
    Calls Tryz.prog 44 #[.slice A n c] w fun e w' => e = .returned (.bool (rightB l)) ∧ w = w' := by
  subst hn
  have hl := h.lenMax
  go_enter Tryz.func44, Tryz.ntmps44
  go_wp2
  go_loop [2, 7] (fun v2 v => v2 = .bool false ∧ ∃ k : Nat, k ≤ l.length ∧ v = .int .i64 k ∧ Hid (∀ x ∈ l.take k, okN x = true)) (fun _ v => l.length - (intOf v).toNat)
  case atStart => exact ⟨rfl, 0, Nat.zero_le _, rfl, by intro x hx; simp at hx⟩
  case round =>
    obtain ⟨rfl, k, hk, rfl, hp⟩ := hrel
    by_cases hlt : k < l.length
    · obtain ⟨ad, rfl, hc⟩ := h.int hlt
      cases hok : okN l[k] with
      | true =>
        have Hs := Lib.hid (all_snoc hlt hp hok)
        obtain ⟨x0, x1⟩ := okN_t hok
        clear hok
        go_wp2
        go_round
        case rel => exact ⟨rfl, k + 1, by omega, by go_num, Hs.out⟩
        case measure => simp [intOf]; omega
      | false =>
        have Hr := Lib.hid (rightB_bad hlt hok)
        rcases okN_f hok with x0 | x0
        · clear hok
          go_wp2
          go_ret
          exact ⟨by rw [Hr.out]; rfl, rfl⟩
        · have x1 : ¬ l[k] < 0 := by omega
          clear hok
          go_wp2
          go_ret
          exact ⟨by rw [Hr.out]; rfl, rfl⟩
    · have hall : ∀ x ∈ l, okN x = true := by have := hp.out; rwa [List.take_of_length_le (by omega)] at this
      by_cases h12 : l.length ≤ 12
      · have Hr := Lib.hid (rightB_fast h12 hall)
        clear hall
        by_cases hz : 0 < l.length
        · obtain ⟨ad, rfl, hc⟩ := h.int (k := l.length - 1) (by omega)
          have hlast : l.getLast? = some l[l.length - 1] := by rw [List.getLast?_eq_getElem?, List.getElem?_eq_getElem (by omega)]
          have hne : ¬ l = [] := by intro e; rw [e] at hz; simp at hz
          have hz1 : ((l.length : Int) == 0) = false := by rw [beq_eq_false_iff_ne]; omega
          have hem : l.isEmpty = false := by cases l <;> first | rfl | exact absurd rfl hne
          have Hr2 := Lib.hid (show rightB l = !(l[l.length - 1] == 0) from by rw [Hr.out, hlast]; rfl)
          clear hlast
          have h2 : (1 : Int) ≤ (l.length : Int) := by omega
          cases hb : (l[l.length - 1] == 0) with
          | true =>
            have hb2 : (l[l.length - 1] != 0) = false := by rw [bne, hb]; rfl
            go_wp2
            go_ret
            exact ⟨by rw [Hr2.out, hb]; rfl, rfl⟩
          | false =>
            have hb2 : (l[l.length - 1] != 0) = true := by rw [bne, hb]; rfl
            go_wp2
            go_ret
            exact ⟨by rw [Hr2.out, hb]; rfl, rfl⟩
        · have hn : l = [] := List.eq_nil_of_length_eq_zero (by omega)
          clear Hr
          subst hn
          go_wp2
          go_ret
          exact ⟨rfl, rfl⟩
      · have Hr := Lib.hid (show rightB l = false from by unfold rightB; rw [decide_eq_false h12]; rfl)
        go_wp2
        go_ret
        exact ⟨by rw [Hr.out]; rfl, rfl⟩

end Go.Proofs.YtmdcgekiiopohaaGreat

/- Walks: the document's words; helps. -/
namespace Go.Proofs.YtmdcgekiiopohaaGreat
open Go.RowKit Go.Cb

set_option maxHeartbeats 1000000 in
theorem refNorm_c (S : Nat → Prop) (A : Option Addr) (c : Nat) (l : List Int) (w : World) (h : Rd intT w S A c l) (n : Nat) (hn : n = l.length) (hl : l.length * 8 ≤ 140737488355328) :
    Calls Tryz.prog 19 #[.slice A n c] w fun e w' => ∃ v, e = .returned v ∧ Own intT 3 w' w.heap.size (Ge w.heap.size) v (normB l) ∧ Bel w w' := by
  subst hn
  have hm := h.lenMax
  have hcap := h.cap
  have goal : ∀ k : Nat, k ≤ l.length → cutB l = l.take k → ∀ w1 : World, True := fun _ _ _ _ => trivial
  clear goal
  go_enter Tryz.func19, Tryz.ntmps19
  go_wp2
  go_loop [3] (fun v => ∃ k : Nat, k ≤ l.length ∧ v = .int .i64 k ∧ Hid (∀ x ∈ l.drop k, x = 0)) (fun v => (intOf v).toNat)
  case atStart => exact ⟨l.length, Nat.le_refl _, rfl, by intro x hx; simp at hx⟩
  case round =>
    obtain ⟨k, hk, rfl, hp⟩ := hrel
    by_cases hk0 : 0 < k
    · obtain ⟨ad, rfl, hc⟩ := h.int (k := k - 1) (by omega)
      have h2 : (1 : Int) ≤ (k : Int) := by omega
      by_cases hz : (l[k - 1] == 0) = true
      · go_wp2
        go_round
        case rel => exact ⟨k - 1, by omega, by go_num, cut_snoc hk0 hk (beq_iff_eq.1 hz) hp⟩
        case measure => simp [intOf]; omega
      · have hz : (l[k - 1] == 0) = false := by simpa using hz
        have Hcut := Lib.hid (cutB_eq hk hp (.inr ⟨hk0, by simpa using hz⟩))
        go_wp2_with (at_builtin; refine wp_append intT (w0 := w) 27 3 (.int .i64 0) 8 rfl _ _ rfl Tryz.underlying27 info_int rfl (Ge w.heap.size) S _ [] (l.take k) (some ad) _ c rfl rfl (by simp; omega) (Own.nil _ _ _ _ _) (h.take k) (fun _ _ h => h) (Bel.refl _) (by simp [maxLen]; omega) (by simp; omega) ?_; rintro v1 w1 ho hb1 _ _)
        rw [List.nil_append] at ho
        obtain ⟨A1, c1, rfl, hr⟩ := ho.rd
        have hlen : (l.take k).length = k := by simp; omega
        cases hR : rightB (l.take k) with
        | true =>
          have Hn := Lib.hid (show normB l = l.take k from by unfold normB; rw [Hcut.out, if_pos hR])
          rw [hlen] at ho
          go_wp2_with (go_at_call 44; refine (refRight_c _ _ _ _ _ hr _ rfl).mono ?_; rintro e w' ⟨rfl, rfl⟩)
          go_ret
          exact ⟨_, rfl, by rw [Hn.out]; exact ho, hb1⟩
        | false =>
          have Hn := Lib.hid (show normB l = [] from by unfold normB; rw [Hcut.out, hR]; rfl)
          go_wp2_with (go_at_call 44; refine (refRight_c _ _ _ _ _ hr _ rfl).mono ?_; rintro e w' ⟨rfl, rfl⟩)
          go_ret
          exact ⟨_, rfl, by rw [Hn.out]; exact Own.nil _ _ _ _ _, hb1⟩
    · obtain rfl : k = 0 := by omega
      have Hcut := Lib.hid (cutB_eq (Nat.zero_le _) hp (.inl rfl))
      go_wp2_with (at_builtin; refine wp_append intT (w0 := w) 27 3 (.int .i64 0) 8 rfl _ _ rfl Tryz.underlying27 info_int rfl (Ge w.heap.size) S _ [] (l.take 0) A _ c rfl rfl (by simp) (Own.nil _ _ _ _ _) (h.take 0) (fun _ _ h => h) (Bel.refl _) (by simp [maxLen]) (by simp) ?_; rintro v1 w1 ho hb1 _ _)
      rw [List.nil_append] at ho
      obtain ⟨A1, c1, rfl, hr⟩ := ho.rd
      have Hn := Lib.hid (show normB l = l.take 0 from by unfold normB; rw [Hcut.out]; rfl)
      go_wp2_with (go_at_call 44; refine (refRight_c _ _ _ _ _ hr _ rfl).mono ?_; rintro e w' ⟨rfl, rfl⟩)
      go_ret
      exact ⟨_, rfl, by rw [Hn.out]; exact ho, hb1⟩

set_option maxHeartbeats 1000000 in
theorem copyInt_c (S : Nat → Prop) (A : Option Addr) (c : Nat) (l : List Int) (w : World) (h : Rd intT w S A c l) (n : Nat) (hn : n = l.length) (hl : l.length * 8 ≤ 140737488355328) :
    Calls Tryz.prog 16 #[.slice A n c] w fun e w' => ∃ v, e = .returned v ∧ Own intT 3 w' w.heap.size (Ge w.heap.size) v l ∧ Bel w w' := by
  subst hn
  go_enter Tryz.func16, Tryz.ntmps16
  go_wp2_with (at_builtin; refine wp_append intT (w0 := w) 22 3 (.int .i64 0) 8 rfl _ _ rfl Tryz.underlying22 info_int rfl (Ge w.heap.size) S _ [] l A _ c rfl rfl rfl (Own.nil _ _ _ _ _) h (fun _ _ h => h) (Bel.refl _) (by simp [maxLen]; omega) (by simpa using hl) ?_; rintro v1 w1 ho hb1 _ _)
  go_ret
  exact ⟨_, rfl, ho, hb1⟩

set_option maxHeartbeats 1000000 in
theorem cutInt_c (S : Nat → Prop) (A : Option Addr) (c : Nat) (l : List Int) (k : Nat) (w : World) (h : Rd intT w S A c l) (n : Nat) (hn : n = l.length) (hl : l.length * 8 ≤ 140737488355328) (K : Int) (hK : K = (k : Int)) :
    Calls Tryz.prog 5 #[.slice A n c, .int .i64 K] w fun e w' => ∃ v, e = .returned v ∧ Own intT 3 w' w.heap.size (Ge w.heap.size) v (l.take k) ∧ Bel w w' := by
  subst hn hK
  have hm := h.lenMax
  have hcap := h.cap
  by_cases hk : l.length < k
  · have Ht := Lib.hid (show l.take k = l from List.take_of_length_le (by omega))
    have hk2 : (l.length : Int) ≤ (k : Int) := by omega
    go_enter Tryz.func5, Tryz.ntmps5
    go_wp2_with (go_at_call 16; refine (copyInt_c S _ c l _ h _ rfl hl).mono ?_; rintro e w' ⟨v, rfl, ho, hb⟩)
    go_ret
    exact ⟨_, rfl, by rw [Ht.out]; exact ho, hb⟩
  · have hk2 : (k : Int) ≤ (l.length : Int) := by omega
    go_enter Tryz.func5, Tryz.ntmps5
    go_wp2_with (go_at_call 16; refine (copyInt_c S _ c (l.take k) _ (h.take k) _ (by simp; omega) (by simp; omega)).mono ?_; rintro e w' ⟨v, rfl, ho, hb⟩)
    all_goals
      go_ret
      exact ⟨_, rfl, ho, hb⟩


set_option maxHeartbeats 1000000 in
theorem within_c (v n : Int) (w : World) (hn : n ≤ 9223372036854775807) :
    Calls Tryz.prog 7 #[.int .i64 v, .int .i64 n] w fun e w' => e = .returned (.int .i64 (withinI v n)) ∧ w = w' := by
  by_cases h1 : n < 1
  · have Hw := Lib.hid (show withinI v n = 0 from by unfold withinI; rw [if_pos h1])
    go_enter Tryz.func7, Tryz.ntmps7
    go_wp2
    go_ret
    exact ⟨by rw [Hw.out]; rfl, rfl⟩
  · have h1' : 1 ≤ n := by omega
    by_cases h0 : 0 ≤ v
    · have Hw := Lib.hid (show withinI v n = v % n from by unfold withinI; rw [if_neg h1])
      have q0 := Int.emod_nonneg v (b := n) (by omega)
      go_enter Tryz.func7, Tryz.ntmps7
      go_wp2
      go_ret
      exact ⟨by rw [Hw.out]; rfl, rfl⟩
    · obtain ⟨q0, q1, q2, q3⟩ := withinI_neg h1' (show v < 0 by omega)
      by_cases ht : v.tmod n < 0
      · have Hw := Lib.hid (q2 ht)
        clear q2 q3
        go_enter Tryz.func7, Tryz.ntmps7
        go_wp2
        go_ret
        exact ⟨by rw [← Hw.out]; rfl, rfl⟩
      · have Hw := Lib.hid (q3 ht)
        clear q2 q3
        go_enter Tryz.func7, Tryz.ntmps7
        go_wp2
        go_ret
        exact ⟨by rw [← Hw.out]; rfl, rfl⟩

set_option maxHeartbeats 1000000 in
theorem playAt_c (S : Nat → Prop) (A : Option Addr) (c : Nat) (l : List Int) (k : Nat) (w : World) (h : Rd intT w S A c l) (n : Nat) (hn : n = l.length) (K : Int) (hK : K = (k : Int)) :
    Calls Tryz.prog 18 #[.slice A n c, .int .i64 K] w fun e w' => e = .returned (.int .i64 (l.getD k 0)) ∧ w = w' := by
  subst hn hK
  have hl := h.lenMax
  by_cases hk : k < l.length
  · obtain ⟨ad, rfl, hc⟩ := h.int hk
    have Hg := Lib.hid (getD_of hk)
    go_enter Tryz.func18, Tryz.ntmps18
    go_wp2
    go_ret
    exact ⟨by rw [Hg.out]; rfl, rfl⟩
  · have Hg := Lib.hid (getD_out (l := l) (k := k) (by omega))
    go_enter Tryz.func18, Tryz.ntmps18
    go_wp2
    go_ret
    exact ⟨by rw [Hg.out]; rfl, rfl⟩
end Go.Proofs.YtmdcgekiiopohaaGreat

/- Walks: the words that the statements make; the document's sums, differences, order. -/
namespace Go.Proofs.YtmdcgekiiopohaaGreat
open Go.RowKit Go.Cb

set_option maxHeartbeats 4000000 in
theorem playBag_c (S : Nat → Prop) (A : Option Addr) (c : Nat) (l : List Int) (w : World) (h : Rd intT w S A c l) (hr : ∀ x ∈ l, -9223372036854775808 ≤ x ∧ x ≤ 9223372036854775807) (n : Nat) (hn : n = l.length) :
    Calls Tryz.prog 8 #[.slice A n c] w fun e w' => ∃ v, e = .returned v ∧ Own intT 3 w' w.heap.size (Ge w.heap.size) v (playBag l) ∧ Bel w w' := by
  subst hn
  have hl := h.lenMax
  go_enter Tryz.func8, Tryz.ntmps8
  go_wp2_with (at_make; refine wp_make (enc := Value.int .i64) (fun _ => rfl) (0 : Int) (w0 := w) 27 3 8 rfl _ _ rfl Tryz.underlying27 info_int rfl 4 _ _ rfl rfl rfl rfl (Bel.refl _) (by omega) (by simp [maxLen]) ?_; intro w1 ho hb hb2 hsz)
  rw [← playF_zero l] at ho
  clear hb2 hsz
  go_wp2
  go_loopw [9] (fun v9 wr => ∃ k : Nat, k ≤ 4 ∧ v9 = .int .i64 k ∧ Own (scalar (Value.int .i64) (fun _ => rfl)) 3 wr w.heap.size All (.slice (some ⟨w.heap.size, 0, none⟩) 4 4) (playF l k) ∧ Bel w wr) (fun v9 _ => 4 - (intOf v9).toNat)
  case atStart => exact ⟨0, Nat.zero_le _, rfl, ho, hb⟩
  case round =>
    clear ho hb
    obtain ⟨k, hk, rfl, ho, hb⟩ := hrel
    by_cases hlt : k < 4
    · obtain ⟨hc1, hf1⟩ := ho.cell (i := k) (by rw [playF_len]; exact hlt)
      have hx : -9223372036854775808 ≤ l.getD k 0 ∧ l.getD k 0 ≤ 9223372036854775807 := by
        by_cases hkl : k < l.length
        · rw [getD_of hkl]; exact hr _ (List.getElem_mem hkl)
        · rw [getD_out (by omega)]; omega
      have Hst := Lib.hid (playF_step l hlt)
      obtain ⟨x, hxe⟩ : ∃ x, l.getD k 0 = x := ⟨_, rfl⟩
      rw [hxe] at hx Hst
      have Hxe := Lib.hid hxe
      clear hxe
      obtain ⟨hx0, hx1⟩ := hx
      go_wp2_with (go_at_call 18; refine (playAt_c S A c l k _ (h.to hb) _ rfl _ rfl).mono ?_; rw [Hxe.out]; rintro e w' ⟨rfl, rfl⟩)
      by_cases hpos : 0 ≤ x ∧ x % 11 = 10
      · have Hp := Lib.hid (show playN x = withinI x 40 from by unfold playN; rw [if_pos hpos])
        obtain ⟨p0, p1⟩ := hpos
        have p2 : (x % 11 == 10) = true := by rw [beq_iff_eq]; exact p1
        clear p1
        go_wp2_with fail
        refine (within_c x 4 _ (by omega)).mono ?_
        rintro e w' ⟨rfl, rfl⟩
        have ho2 := Own.set ho k (withinI x 4)
        obtain ⟨hc2, hf2⟩ := ho2.cell (i := k) (by rw [List.length_set, playF_len]; exact hlt)
        go_wp2_with fail
        refine (within_c x 40 _ (by omega)).mono ?_
        rintro e w' ⟨rfl, rfl⟩
        have ho3 := Own.set ho2 k (withinI x 40)
        rw [List.set_set, ← Hp.out, Hst.out] at ho3
        go_wp2
        go_roundw
        case rel => exact ⟨k + 1, by omega, by go_num, by rw [← Hp.out]; exact ho3, (hb.set (Nat.le_refl _) _).set (Nat.le_refl _) _⟩
        case measure => simp [intOf]; omega
      · have Hp := Lib.hid (show playN x = withinI x 4 from by unfold playN; rw [if_neg hpos])
        have ho2 := Own.set ho k (withinI x 4)
        rw [← Hp.out, Hst.out] at ho2
        by_cases p0 : 0 ≤ x
        · have p2 : (x % 11 == 10) = false := by rw [beq_eq_false_iff_ne]; exact fun e => hpos ⟨p0, e⟩
          clear hpos
          go_wp2_with (go_at_call 7; refine (within_c x 4 _ (by omega)).mono ?_; rintro e w' ⟨rfl, rfl⟩)
          go_roundw
          case rel => exact ⟨k + 1, by omega, by go_num, by rw [← Hp.out]; exact ho2, hb.set (Nat.le_refl _) _⟩
          case measure => simp [intOf]; omega
        · have p1 : x.tmod 11 ≤ 0 := (withinI_neg (v := x) (n := 11) (by omega) (by omega)).1
          have p2 : (x.tmod 11 == 10) = false := by rw [beq_eq_false_iff_ne]; omega
          clear hpos p1
          go_wp2_with (go_at_call 7; refine (within_c x 4 _ (by omega)).mono ?_; rintro e w' ⟨rfl, rfl⟩)
          go_roundw
          case rel => exact ⟨k + 1, by omega, by go_num, by rw [← Hp.out]; exact ho2, hb.set (Nat.le_refl _) _⟩
          case measure => simp [intOf]; omega
    · obtain rfl : k = 4 := by omega
      obtain ⟨A2, c2, he, hr2⟩ := ho.rd
      rw [playF_len] at he
      have h1 : A2 = some ⟨w.heap.size, 0, none⟩ := by injection he with he; exact he.symm
      have h2 : c2 = 4 := by injection he with _ _ he; exact he.symm
      subst h1 h2
      clear he
      have Hp := Lib.hid (playF_four l)
      go_wp2_with (go_at_call 19; refine (refNorm_c _ _ _ _ _ hr2 _ (playF_len l 4).symm (by rw [playF_len]; omega)).mono ?_; rintro e w' ⟨v, rfl, hv, hbv⟩)
      go_ret
      refine ⟨_, rfl, ?_, hb.trans hbv⟩
      unfold playBag
      rw [← Hp.out]
      exact (hv.lower hb.size).any

set_option maxHeartbeats 2000000 in
theorem refCompareQ_c (S S' : Nat → Prop) (A B : Option Addr) (ca cb : Nat) (a b : List Int) (w : World) (ha : Rd intT w S A ca a) (hb : Rd intT w S' B cb b) (n m : Nat) (hn : n = a.length) (hm : m = b.length) :
    Calls Tryz.prog 110 #[.slice A n ca, .slice B m cb] w fun e w' => e = .returned (.int .i64 (cmpB a b)) ∧ Dr w w' := by
  subst hn hm
  have la := ha.lenMax
  have lb := hb.lenMax
  cases hA : rightB a with
  | false =>
    have Hn := Lib.hid (show cmpB a b = 0 from by unfold cmpB; rw [if_neg (by simp [hA])])
    go_enter Tryz.func110, Tryz.ntmps110
    go_wp2_with fail
    refine (refRight_c _ _ _ _ _ ha _ rfl).mono ?_
    rintro e w' ⟨rfl, rfl⟩
    go_wp2_with fail
    go_ret
    exact ⟨by rw [Hn.out]; rfl, Dr.refl _⟩
  | true =>
    cases hB : rightB b with
    | false =>
      have Hn := Lib.hid (show cmpB a b = 0 from by unfold cmpB; rw [if_neg (by simp [hB])])
      go_enter Tryz.func110, Tryz.ntmps110
      go_wp2_with fail
      refine (refRight_c _ _ _ _ _ ha _ rfl).mono ?_
      rintro e w' ⟨rfl, rfl⟩
      go_wp2_with fail
      refine (refRight_c _ _ _ _ _ hb _ rfl).mono ?_
      rintro e w' ⟨rfl, rfl⟩
      go_wp2_with fail
      go_ret
      exact ⟨by rw [Hn.out]; rfl, Dr.refl _⟩
    | true =>
      by_cases hl : a.length = b.length
      · have Hn := Lib.hid (show cmpB a b = cmpL a b from by unfold cmpB; rw [if_pos ⟨hA, hB⟩, if_pos hl])
        have d : (a.length == b.length) = true := by simpa using hl
        have d2 : ((a.length : Int) != (b.length : Int)) = false := by simp; omega
        have Hl := Lib.hid hl
        clear hl
        go_enter Tryz.func110, Tryz.ntmps110
        go_wp2_with fail
        refine (refRight_c _ _ _ _ _ ha _ rfl).mono ?_
        rintro e w' ⟨rfl, rfl⟩
        go_wp2_with fail
        refine (refRight_c _ _ _ _ _ hb _ rfl).mono ?_
        rintro e w' ⟨rfl, rfl⟩
        go_wp2_with fail
        clear hA hB
        go_loopw [26] (fun v wr => ∃ k : Nat, k ≤ a.length ∧ v = .int .i64 k ∧ Hid (∀ i, i < k → a.getD i 0 = b.getD i 0) ∧ Dr w wr) (fun v _ => a.length - (intOf v).toNat)
        case atStart => exact ⟨0, Nat.zero_le _, rfl, fun i hi => absurd hi (by omega), Dr.refl _⟩
        case round =>
          obtain ⟨k, hk, rfl, hp, hbl⟩ := hrel
          by_cases hlt : k < a.length
          · have hltb : k < b.length := by rw [← Hl.out]; exact hlt
            obtain ⟨ad, rfl, hca⟩ := (ha.to hbl.bel).int hlt
            obtain ⟨bd, rfl, hcb⟩ := (hb.to hbl.bel).int hltb
            by_cases h1 : a[k] < b[k]
            · have Hr := Lib.hid ((cmpL_at hlt hltb hp (by omega)).trans (cmpI_lt h1))
              go_wp2
              go_quiet (fail)
              go_wp2
              go_ret
              exact ⟨by rw [Hn.out, Hr.out]; rfl, hbl.drewN _⟩
            · by_cases h2 : b[k] < a[k]
              · have Hr := Lib.hid ((cmpL_at hlt hltb hp (by omega)).trans (cmpI_gt h2))
                go_wp2
                go_quiet (fail)
                go_wp2
                go_quiet (fail)
                go_wp2
                go_ret
                exact ⟨by rw [Hn.out, Hr.out]; rfl, (hbl.drewN _).drewN _⟩
              · have Hs := Lib.hid (agree_snoc hlt hltb hp (by omega))
                go_wp2
                go_quiet (fail)
                go_wp2
                go_quiet (fail)
                go_wp2
                go_roundw
                case rel => exact ⟨k + 1, by omega, by go_num, Hs.out, hbl.drewN _⟩
                case measure => simp [intOf]; omega
          · have Hr := Lib.hid (cmpL_same Hl.out (fun i hi => hp i (by omega)))
            go_wp2
            go_ret
            exact ⟨by rw [Hn.out, Hr.out]; rfl, hbl⟩
      · have d : (a.length == b.length) = false := by simpa using hl
        by_cases h1 : a.length < b.length
        · have Hn := Lib.hid (show cmpB a b = -1 from by unfold cmpB; rw [if_pos ⟨hA, hB⟩, if_neg hl, cmpI_lt (by omega)])
          clear hl
          go_enter Tryz.func110, Tryz.ntmps110
          go_wp2_with fail
          refine (refRight_c _ _ _ _ _ ha _ rfl).mono ?_
          rintro e w' ⟨rfl, rfl⟩
          go_wp2_with fail
          refine (refRight_c _ _ _ _ _ hb _ rfl).mono ?_
          rintro e w' ⟨rfl, rfl⟩
          go_wp2_with fail
          go_ret
          exact ⟨by rw [Hn.out]; rfl, Dr.refl _⟩
        · have Hn := Lib.hid (show cmpB a b = 1 from by unfold cmpB; rw [if_pos ⟨hA, hB⟩, if_neg hl, cmpI_gt (by omega)])
          clear hl
          go_enter Tryz.func110, Tryz.ntmps110
          go_wp2_with fail
          refine (refRight_c _ _ _ _ _ ha _ rfl).mono ?_
          rintro e w' ⟨rfl, rfl⟩
          go_wp2_with fail
          refine (refRight_c _ _ _ _ _ hb _ rfl).mono ?_
          rintro e w' ⟨rfl, rfl⟩
          go_wp2_with fail
          go_ret
          exact ⟨by rw [Hn.out]; rfl, Dr.refl _⟩
theorem refCompare_c (S S' : Nat → Prop) (A B : Option Addr) (ca cb : Nat) (a b : List Int) (w : World) (ha : Rd intT w S A ca a) (hb : Rd intT w S' B cb b) (n m : Nat) (hn : n = a.length) (hm : m = b.length) :
    Calls Tryz.prog 110 #[.slice A n ca, .slice B m cb] w fun e w' => e = .returned (.int .i64 (cmpB a b)) ∧ Bel w w' :=
  (refCompareQ_c S S' A B ca cb a b w ha hb n m hn hm).mono fun _ _ ⟨h1, h2⟩ => ⟨h1, h2.bel⟩

set_option maxHeartbeats 2000000 in
theorem bagSub_bad (S S' : Nat → Prop) (A B : Option Addr) (ca cb : Nat) (a b : List Int) (w : World) (ha : Rd intT w S A ca a) (hb : Rd intT w S' B cb b) (hR : rightB a = false ∨ rightB b = false ∨ a.length < b.length) :
    Calls Tryz.prog 51 #[.slice A a.length ca, .slice B b.length cb] w fun e w' => e = .returned (.tuple #[.slice none 0 0, .bool false]) ∧ subB a b = ([], false) ∧ w = w' := by
  have Hn := Lib.hid (show subB a b = ([], false) from by
    unfold subB
    rw [if_neg]
    rintro ⟨h1, h2, h3⟩
    have := ((leP_iff a b).1 h3).1
    rcases hR with h | h | h
    · rw [h1] at h; cases h
    · rw [h2] at h; cases h
    · omega)
  cases hA : rightB a with
  | false =>
    go_enter Tryz.func51, Tryz.ntmps51
    go_wp2_with fail
    refine (right_c _ _ _ _ _ ha _ rfl).mono ?_
    rintro e w' ⟨rfl, rfl⟩
    go_wp2_with fail
    go_ret2
    exact ⟨rfl, Hn.out, rfl⟩
  | true =>
    cases hB : rightB b with
    | false =>
      go_enter Tryz.func51, Tryz.ntmps51
      go_wp2_with fail
      refine (right_c _ _ _ _ _ ha _ rfl).mono ?_
      rintro e w' ⟨rfl, rfl⟩
      go_wp2_with fail
      refine (right_c _ _ _ _ _ hb _ rfl).mono ?_
      rintro e w' ⟨rfl, rfl⟩
      go_wp2_with fail
      go_ret2
      exact ⟨rfl, Hn.out, rfl⟩
    | true =>
      have hl : a.length < b.length := by
        rcases hR with h | h | h
        · rw [hA] at h; cases h
        · rw [hB] at h; cases h
        · exact h
      go_enter Tryz.func51, Tryz.ntmps51
      go_wp2_with fail
      refine (right_c _ _ _ _ _ ha _ rfl).mono ?_
      rintro e w' ⟨rfl, rfl⟩
      go_wp2_with fail
      refine (right_c _ _ _ _ _ hb _ rfl).mono ?_
      rintro e w' ⟨rfl, rfl⟩
      go_wp2_with fail
      go_ret2
      exact ⟨rfl, Hn.out, rfl⟩
set_option maxHeartbeats 2000000 in
theorem bagSub_good (S S' : Nat → Prop) (A B : Option Addr) (ca cb : Nat) (a b : List Int) (w : World) (ha : Rd intT w S A ca a) (hb : Rd intT w S' B cb b) (hA : rightB a = true) (hB : rightB b = true) (hL : b.length ≤ a.length) :
    Calls Tryz.prog 51 #[.slice A a.length ca, .slice B b.length cb] w fun e w' => ∃ v, e = .returned (.tuple #[v, .bool (subB a b).2]) ∧ Own intT 3 w' w.heap.size (Ge w.heap.size) v (subB a b).1 ∧ Bel w w' := by
  have la := right_len hA
  have lb := right_len hB
  go_enter Tryz.func51, Tryz.ntmps51
  go_wp2_with fail
  refine (right_c _ _ _ _ _ ha _ rfl).mono ?_
  rintro e w' ⟨rfl, rfl⟩
  go_wp2_with fail
  refine (right_c _ _ _ _ _ hb _ rfl).mono ?_
  rintro e w' ⟨rfl, rfl⟩
  go_wp2_with fail
  refine (clone_c S _ _ _ _ ha _ rfl (by omega)).mono ?_
  rintro e w1 ⟨v, rfl, ho, hb1⟩
  obtain ⟨A1, c1, rfl⟩ := ho.form
  go_wp2_with fail
  go_loopw [4, 5, 27] (fun vs v5 vk wr => ∃ (k : Nat), k ≤ b.length ∧ vk = .int .i64 k ∧ vs = .slice A1 a.length c1 ∧ Own intT 3 wr w.heap.size (Ge w.heap.size) (.slice A1 a.length c1) (subP a (b.take k)) ∧ Hid (∀ i, i < k → b.getD i 0 ≤ a.getD i 0) ∧ Bel w wr) (fun _ _ vk _ => b.length - (intOf vk).toNat)
  case atStart => exact ⟨0, Nat.zero_le _, rfl, rfl, by rw [List.take_zero, subP_nil]; exact ho, fun i hi => absurd hi (by omega), hb1⟩
  case round =>
    clear ho hb1
    obtain ⟨k, hk, rfl, rfl, ho, hs, hb1⟩ := hrel
    by_cases hlt : k < b.length
    · have hka : k < a.length := by omega
      have hol : k < (subP a (b.take k)).length := by rw [subP_length _ _ (by rw [List.length_take]; omega)]; omega
      obtain ⟨g, rfl, hg, _⟩ := ho.addr (by omega)
      obtain ⟨hc1, hf1⟩ := ho.cell hol
      rw [subP_at hka hlt hL hol] at hc1
      obtain ⟨ad, hA1, hca⟩ := (ha.to hb1).int hka
      obtain ⟨bd, hB1, hcb⟩ := (hb.to hb1).int hlt
      subst hA1 hB1
      obtain ⟨xa, xa2⟩ := right_ok hA a[k] (List.getElem_mem hka)
      obtain ⟨xb, xb2⟩ := right_ok hB b[k] (List.getElem_mem hlt)
      by_cases hle : b[k] ≤ a[k]
      · have Hle := Lib.hid hle
        have ho2 := Own.set ho k (a[k] - b[k])
        rw [← subP_step hlt hL] at ho2
        have hxx : a[k] ≤ 1152921504606846976 := xa2
        go_wp2
        go_roundw
        case rel =>
          refine ⟨k + 1, by omega, by go_num, rfl, ho2, ?_, hb1.set hg _⟩
          intro i hi
          by_cases hik : i < k
          · exact hs i hik
          · obtain rfl : i = k := by omega
            rw [getD_of hka, getD_of hlt]
            exact Hle.out
        case measure => simp [intOf]; omega
      · have Hr := Lib.hid (subB_no (a := a) (b := b) (by
          rw [← Bool.not_eq_true, leP_iff]
          rintro ⟨_, h3⟩
          have := h3 k hlt
          rw [getD_of hka, getD_of hlt] at this
          exact hle this))
        go_wp2
        go_ret2
        rw [Hr.out]
        exact ⟨_, rfl, Own.nil _ _ _ _ _, hb1⟩
    · have Hr := Lib.hid (subB_yes hA hB ((leP_iff a b).2 ⟨hL, fun i hi => hs i (by omega)⟩))
      rw [List.take_of_length_le (by omega)] at ho
      have hlen : (subP a b).length = a.length := subP_length a b hL
      obtain ⟨A2, c2, he, hr⟩ := ho.rd
      rw [hlen] at he
      have h1 : A1 = A2 := by injection he
      have h2 : c1 = c2 := by injection he
      subst h1 h2
      clear he
      have Hlen := Lib.hid hlen
      clear hlen
      go_wp2_with (go_at_call 78; refine (cut_c _ _ _ _ _ hr _ Hlen.out.symm (by rw [Hlen.out]; omega)).mono ?_; rintro e w3 ⟨v3, rfl, ho3, hb3⟩)
      go_ret2
      rw [Hr.out]
      exact ⟨_, rfl, (ho3.lower hb1.size).any, hb1.trans hb3⟩
theorem bagSub_c (S S' : Nat → Prop) (A B : Option Addr) (ca cb : Nat) (a b : List Int) (w : World) (ha : Rd intT w S A ca a) (hb : Rd intT w S' B cb b) (n m : Nat) (hn : n = a.length) (hm : m = b.length) :
    Calls Tryz.prog 51 #[.slice A n ca, .slice B m cb] w fun e w' => ∃ v, e = .returned (.tuple #[v, .bool (subB a b).2]) ∧ Own intT 3 w' w.heap.size (Ge w.heap.size) v (subB a b).1 ∧ Bel w w' := by
  subst hn hm
  by_cases hR : rightB a = true ∧ rightB b = true ∧ b.length ≤ a.length
  · exact bagSub_good S S' A B ca cb a b w ha hb hR.1 hR.2.1 hR.2.2
  · refine (bagSub_bad S S' A B ca cb a b w ha hb ?_).mono ?_
    · cases h1 : rightB a with
      | false => exact .inl rfl
      | true =>
        cases h2 : rightB b with
        | false => exact .inr (.inl rfl)
        | true => exact .inr (.inr (by rw [h1, h2] at hR; simp at hR; exact hR))
    · rintro e w' ⟨rfl, hr, rfl⟩
      rw [hr]
      exact ⟨_, rfl, Own.nil _ _ _ _ _, Bel.refl _⟩
end Go.Proofs.YtmdcgekiiopohaaGreat

/- Walks: the document's sums of words. -/
namespace Go.Proofs.YtmdcgekiiopohaaGreat
open Go.RowKit Go.Cb

set_option maxHeartbeats 2000000 in
theorem refAdd_bad (S S' : Nat → Prop) (A B : Option Addr) (ca cb : Nat) (a b : List Int) (w : World) (ha : Rd intT w S A ca a) (hb : Rd intT w S' B cb b) (hR : rightB a = false ∨ rightB b = false) :
    Calls Tryz.prog 89 #[.slice A a.length ca, .slice B b.length cb] w fun e w' => e = .returned (.tuple #[.slice none 0 0, .bool false]) ∧ addB a b = ([], false) ∧ w = w' := by
  have Hn := Lib.hid (show addB a b = ([], false) from by unfold addB; rw [if_neg (by rcases hR with h | h <;> simp [h])])
  cases hA : rightB a with
  | false =>
    go_enter Tryz.func89, Tryz.ntmps89
    go_wp2_with fail
    refine (refRight_c _ _ _ _ _ ha _ rfl).mono ?_
    rintro e w' ⟨rfl, rfl⟩
    go_wp2_with fail
    go_ret2
    exact ⟨rfl, Hn.out, rfl⟩
  | true =>
    have hB : rightB b = false := by
      rcases hR with h | h
      · rw [hA] at h; cases h
      · exact h
    go_enter Tryz.func89, Tryz.ntmps89
    go_wp2_with fail
    refine (refRight_c _ _ _ _ _ ha _ rfl).mono ?_
    rintro e w' ⟨rfl, rfl⟩
    go_wp2_with fail
    refine (refRight_c _ _ _ _ _ hb _ rfl).mono ?_
    rintro e w' ⟨rfl, rfl⟩
    go_wp2_with fail
    go_ret2
    exact ⟨rfl, Hn.out, rfl⟩

set_option maxHeartbeats 4000000 in
theorem refAdd_x (S S' : Nat → Prop) (A B : Option Addr) (ca cb : Nat) (a b : List Int) (w : World) (ha : Rd intT w S A ca a) (hb : Rd intT w S' B cb b) (hA : rightB a = true) (hB : rightB b = true) (hL : b.length ≤ a.length) :
    Calls Tryz.prog 89 #[.slice A a.length ca, .slice B b.length cb] w fun e w' => ∃ v, e = .returned (.tuple #[v, .bool (addB a b).2]) ∧ Own intT 3 w' w.heap.size (Ge w.heap.size) v (addB a b).1 ∧ Bel w w' := by
  have la := right_len hA
  have lb := right_len hB
  have hmx : a.length = max a.length b.length := by omega
  have Hmx := Lib.hid hmx
  clear hmx
  go_enter Tryz.func89, Tryz.ntmps89
  go_wp2_with fail
  refine (refRight_c _ _ _ _ _ ha _ rfl).mono ?_
  rintro e w' ⟨rfl, rfl⟩
  go_wp2_with fail
  refine (refRight_c _ _ _ _ _ hb _ rfl).mono ?_
  rintro e w' ⟨rfl, rfl⟩
  go_wp2_with (at_make; refine wp_make (enc := Value.int .i64) (fun _ => rfl) (0 : Int) (w0 := w) 27 3 8 rfl _ _ rfl Tryz.underlying27 info_int rfl a.length _ _ rfl rfl rfl rfl (Bel.refl _) (by omega) (by unfold maxLen; omega) ?_; intro w1 ho hb1 hb2 hsz)
  clear hb2 hsz
  rw [← addF_zero a.length a b] at ho
  go_loopw [4, 5, 28] (fun v4 v5 v28 wr => ∃ k : Nat, k ≤ a.length ∧ v28 = .int .i64 k ∧ Own (scalar (Value.int .i64) (fun _ => rfl)) 3 wr w.heap.size All (.slice (some ⟨w.heap.size, 0, none⟩) a.length a.length) (addF a.length a b k) ∧ Hid (∀ i, i < k → a.getD i 0 + b.getD i 0 ≤ far) ∧ Bel w wr) (fun _ _ v28 _ => a.length - (intOf v28).toNat)
  case atStart => exact ⟨0, Nat.zero_le _, rfl, ho, fun i hi => absurd hi (by omega), hb1⟩
  case round =>
    clear ho hb1
    obtain ⟨k, hk, rfl, ho, hs, hb1⟩ := hrel
    by_cases hlt : k < a.length
    · obtain ⟨hc1, hf1⟩ := ho.cell (i := k) (by rw [addF_len]; exact hlt)
      have Hst := Lib.hid (addF_step a b hlt)
      obtain ⟨x, hx⟩ : ∃ x, a.getD k 0 = x := ⟨_, rfl⟩
      obtain ⟨y, hy⟩ : ∃ y, b.getD k 0 = y := ⟨_, rfl⟩
      have xr := right_getD hA k
      have yr := right_getD hB k
      rw [hx] at xr Hst
      rw [hy] at yr Hst
      have Hx := Lib.hid hx
      have Hy := Lib.hid hy
      have xr1 : x ≤ 1152921504606846976 := xr.2
      have yr1 : y ≤ 1152921504606846976 := yr.2
      have Xa := Lib.hid xr
      have Xb := Lib.hid yr
      clear hx hy xr yr
      have main : (∃ n ok, addN x y = (n, ok) ∧ ((ok = true ∧ n = x + y ∧ x + y ≤ far) ∨ (ok = false ∧ addB a b = ([], false)))) := by
        by_cases hsum : x + y ≤ 1152921504606846976
        · exact ⟨x + y, true, addN_sum Xa.out Xb.out hsum, .inl ⟨rfl, rfl, hsum⟩⟩
        · exact ⟨0, false, addN_over hsum, .inr ⟨rfl, addB_no (i := k) (by rw [Hx.out, Hy.out]; unfold far; omega)⟩⟩
      obtain ⟨n, ok, hn, hcase⟩ := main
      have Hn := Lib.hid hn
      clear hn
      have hcell : (k < a.length → ∃ ad, A = some ad ∧ wr.cell? (ad.add k) = some (.int .i64 x)) ∧ (k < b.length → ∃ bd, B = some bd ∧ wr.cell? (bd.add k) = some (.int .i64 y)) ∧ (¬ k < a.length → x = 0) ∧ (¬ k < b.length → y = 0) := by
        refine ⟨fun h => ?_, fun h => ?_, fun h => ?_, fun h => ?_⟩
        · obtain ⟨ad, h1, h2⟩ := (ha.to hb1).int h
          exact ⟨ad, h1, by rw [h2, ← Hx.out, getD_of h]⟩
        · obtain ⟨ad, h1, h2⟩ := (hb.to hb1).int h
          exact ⟨ad, h1, by rw [h2, ← Hy.out, getD_of h]⟩
        · rw [← Hx.out, getD_out (by omega)]
        · rw [← Hy.out, getD_out (by omega)]
      obtain ⟨q1, q2, q3, q4⟩ := hcell
      have ho2 := Own.set ho k n
      have hfin : ok = true → Own (scalar (Value.int .i64) (fun _ => rfl)) 3 (wr.setCell ⟨w.heap.size, k, none⟩ (.int .i64 n)) w.heap.size All (.slice (some ⟨w.heap.size, 0, none⟩) a.length a.length) (addF a.length a b (k + 1)) ∧ Hid (∀ i, i < k + 1 → a.getD i 0 + b.getD i 0 ≤ far) := by
        intro he
        rcases hcase with ⟨_, h1, h2⟩ | ⟨h1, _⟩
        · rw [h1] at ho2 ⊢
          rw [Hst.out] at ho2
          refine ⟨ho2, fun i hi => ?_⟩
          by_cases hik : i < k
          · exact hs i hik
          · obtain rfl : i = k := by omega
            rw [Hx.out, Hy.out]; exact h2
        · rw [h1] at he; cases he
      have hbad : ok = false → addB a b = ([], false) := by
        intro he
        rcases hcase with ⟨h1, _⟩ | ⟨_, h1⟩
        · rw [h1] at he; cases he
        · exact h1
      clear hcase ho2
      cases ok with
      | true =>
        obtain ⟨h1, h2⟩ := hfin rfl
        have H1 := Lib.hid h1
        clear hfin hbad h1
        by_cases ka : k < a.length
        · obtain ⟨ad, rfl, hca⟩ := q1 ka
          by_cases kb : k < b.length
          · obtain ⟨bd, rfl, hcb⟩ := q2 kb
            clear q1 q2 q3 q4
            go_wp2_with (go_at_call 111; refine (refAdd_c_to _ _ _ _ Hn.out _).mono ?_; rintro e w' ⟨rfl, rfl⟩)
            go_roundw
            case rel => exact ⟨k + 1, by omega, by go_num, H1.out, h2, hb1.set (Nat.le_refl _) _⟩
            case measure => simp [intOf]; omega
          · have Hy0 := q4 kb
            clear q1 q2 q3 q4
            subst Hy0
            go_wp2_with (go_at_call 111; refine (refAdd_c_to _ _ _ _ Hn.out _).mono ?_; rintro e w' ⟨rfl, rfl⟩)
            go_roundw
            case rel => exact ⟨k + 1, by omega, by go_num, H1.out, h2, hb1.set (Nat.le_refl _) _⟩
            case measure => simp [intOf]; omega
        · exact absurd hlt ka
      | false =>
        have Hb := Lib.hid (hbad rfl)
        clear hfin hbad
        by_cases ka : k < a.length
        · obtain ⟨ad, rfl, hca⟩ := q1 ka
          by_cases kb : k < b.length
          · obtain ⟨bd, rfl, hcb⟩ := q2 kb
            clear q1 q2 q3 q4
            go_wp2_with (go_at_call 111; refine (refAdd_c_to _ _ _ _ Hn.out _).mono ?_; rintro e w' ⟨rfl, rfl⟩)
            go_ret2
            rw [Hb.out]
            exact ⟨_, rfl, Own.nil _ _ _ _ _, hb1⟩
          · have Hy0 := q4 kb
            clear q1 q2 q3 q4
            subst Hy0
            go_wp2_with (go_at_call 111; refine (refAdd_c_to _ _ _ _ Hn.out _).mono ?_; rintro e w' ⟨rfl, rfl⟩)
            go_ret2
            rw [Hb.out]
            exact ⟨_, rfl, Own.nil _ _ _ _ _, hb1⟩
        · exact absurd hlt ka
    · have Hr := Lib.hid (addB_all hA hB (fun i hi => hs i (by have := Hmx.out; omega)))
      have he : k = a.length := by omega
      rw [he, addF_full a b Hmx.out] at ho
      go_wp2
      go_ret2
      rw [Hr.out]
      exact ⟨_, rfl, ho.any, hb1⟩
set_option maxHeartbeats 4000000 in
theorem refAdd_y (S S' : Nat → Prop) (A B : Option Addr) (ca cb : Nat) (a b : List Int) (w : World) (ha : Rd intT w S A ca a) (hb : Rd intT w S' B cb b) (hA : rightB a = true) (hB : rightB b = true) (hL : a.length < b.length) :
    Calls Tryz.prog 89 #[.slice A a.length ca, .slice B b.length cb] w fun e w' => ∃ v, e = .returned (.tuple #[v, .bool (addB a b).2]) ∧ Own intT 3 w' w.heap.size (Ge w.heap.size) v (addB a b).1 ∧ Bel w w' := by
  have la := right_len hA
  have lb := right_len hB
  have hmx : b.length = max a.length b.length := by omega
  have Hmx := Lib.hid hmx
  clear hmx
  go_enter Tryz.func89, Tryz.ntmps89
  go_wp2_with fail
  refine (refRight_c _ _ _ _ _ ha _ rfl).mono ?_
  rintro e w' ⟨rfl, rfl⟩
  go_wp2_with fail
  refine (refRight_c _ _ _ _ _ hb _ rfl).mono ?_
  rintro e w' ⟨rfl, rfl⟩
  go_wp2_with (at_make; refine wp_make (enc := Value.int .i64) (fun _ => rfl) (0 : Int) (w0 := w) 27 3 8 rfl _ _ rfl Tryz.underlying27 info_int rfl b.length _ _ rfl rfl rfl rfl (Bel.refl _) (by omega) (by unfold maxLen; omega) ?_; intro w1 ho hb1 hb2 hsz)
  clear hb2 hsz
  rw [← addF_zero b.length a b] at ho
  go_loopw [4, 5, 28] (fun v4 v5 v28 wr => ∃ k : Nat, k ≤ b.length ∧ v28 = .int .i64 k ∧ Own (scalar (Value.int .i64) (fun _ => rfl)) 3 wr w.heap.size All (.slice (some ⟨w.heap.size, 0, none⟩) b.length b.length) (addF b.length a b k) ∧ Hid (∀ i, i < k → a.getD i 0 + b.getD i 0 ≤ far) ∧ Bel w wr) (fun _ _ v28 _ => b.length - (intOf v28).toNat)
  case atStart => exact ⟨0, Nat.zero_le _, rfl, ho, fun i hi => absurd hi (by omega), hb1⟩
  case round =>
    clear ho hb1
    obtain ⟨k, hk, rfl, ho, hs, hb1⟩ := hrel
    by_cases hlt : k < b.length
    · obtain ⟨hc1, hf1⟩ := ho.cell (i := k) (by rw [addF_len]; exact hlt)
      have Hst := Lib.hid (addF_step a b hlt)
      obtain ⟨x, hx⟩ : ∃ x, a.getD k 0 = x := ⟨_, rfl⟩
      obtain ⟨y, hy⟩ : ∃ y, b.getD k 0 = y := ⟨_, rfl⟩
      have xr := right_getD hA k
      have yr := right_getD hB k
      rw [hx] at xr Hst
      rw [hy] at yr Hst
      have Hx := Lib.hid hx
      have Hy := Lib.hid hy
      have xr1 : x ≤ 1152921504606846976 := xr.2
      have yr1 : y ≤ 1152921504606846976 := yr.2
      have Xa := Lib.hid xr
      have Xb := Lib.hid yr
      clear hx hy xr yr
      have main : (∃ n ok, addN x y = (n, ok) ∧ ((ok = true ∧ n = x + y ∧ x + y ≤ far) ∨ (ok = false ∧ addB a b = ([], false)))) := by
        by_cases hsum : x + y ≤ 1152921504606846976
        · exact ⟨x + y, true, addN_sum Xa.out Xb.out hsum, .inl ⟨rfl, rfl, hsum⟩⟩
        · exact ⟨0, false, addN_over hsum, .inr ⟨rfl, addB_no (i := k) (by rw [Hx.out, Hy.out]; unfold far; omega)⟩⟩
      obtain ⟨n, ok, hn, hcase⟩ := main
      have Hn := Lib.hid hn
      clear hn
      have hcell : (k < a.length → ∃ ad, A = some ad ∧ wr.cell? (ad.add k) = some (.int .i64 x)) ∧ (k < b.length → ∃ bd, B = some bd ∧ wr.cell? (bd.add k) = some (.int .i64 y)) ∧ (¬ k < a.length → x = 0) ∧ (¬ k < b.length → y = 0) := by
        refine ⟨fun h => ?_, fun h => ?_, fun h => ?_, fun h => ?_⟩
        · obtain ⟨ad, h1, h2⟩ := (ha.to hb1).int h
          exact ⟨ad, h1, by rw [h2, ← Hx.out, getD_of h]⟩
        · obtain ⟨ad, h1, h2⟩ := (hb.to hb1).int h
          exact ⟨ad, h1, by rw [h2, ← Hy.out, getD_of h]⟩
        · rw [← Hx.out, getD_out (by omega)]
        · rw [← Hy.out, getD_out (by omega)]
      obtain ⟨q1, q2, q3, q4⟩ := hcell
      have ho2 := Own.set ho k n
      have hfin : ok = true → Own (scalar (Value.int .i64) (fun _ => rfl)) 3 (wr.setCell ⟨w.heap.size, k, none⟩ (.int .i64 n)) w.heap.size All (.slice (some ⟨w.heap.size, 0, none⟩) b.length b.length) (addF b.length a b (k + 1)) ∧ Hid (∀ i, i < k + 1 → a.getD i 0 + b.getD i 0 ≤ far) := by
        intro he
        rcases hcase with ⟨_, h1, h2⟩ | ⟨h1, _⟩
        · rw [h1] at ho2 ⊢
          rw [Hst.out] at ho2
          refine ⟨ho2, fun i hi => ?_⟩
          by_cases hik : i < k
          · exact hs i hik
          · obtain rfl : i = k := by omega
            rw [Hx.out, Hy.out]; exact h2
        · rw [h1] at he; cases he
      have hbad : ok = false → addB a b = ([], false) := by
        intro he
        rcases hcase with ⟨h1, _⟩ | ⟨_, h1⟩
        · rw [h1] at he; cases he
        · exact h1
      clear hcase ho2
      cases ok with
      | true =>
        obtain ⟨h1, h2⟩ := hfin rfl
        have H1 := Lib.hid h1
        clear hfin hbad h1
        by_cases ka : k < a.length
        · obtain ⟨ad, rfl, hca⟩ := q1 ka
          by_cases kb : k < b.length
          · obtain ⟨bd, rfl, hcb⟩ := q2 kb
            clear q1 q2 q3 q4
            go_wp2_with (go_at_call 111; refine (refAdd_c_to _ _ _ _ Hn.out _).mono ?_; rintro e w' ⟨rfl, rfl⟩)
            go_roundw
            case rel => exact ⟨k + 1, by omega, by go_num, H1.out, h2, hb1.set (Nat.le_refl _) _⟩
            case measure => simp [intOf]; omega
          · exact absurd hlt kb
        · have Hx0 := q3 ka
          have kb : k < b.length := by have := Hmx.out; omega
          obtain ⟨bd, rfl, hcb⟩ := q2 kb
          clear q1 q2 q3 q4
          subst Hx0
          go_wp2_with (go_at_call 111; refine (refAdd_c_to _ _ _ _ Hn.out _).mono ?_; rintro e w' ⟨rfl, rfl⟩)
          go_roundw
          case rel => exact ⟨k + 1, by omega, by go_num, H1.out, h2, hb1.set (Nat.le_refl _) _⟩
          case measure => simp [intOf]; omega
      | false =>
        have Hb := Lib.hid (hbad rfl)
        clear hfin hbad
        by_cases ka : k < a.length
        · obtain ⟨ad, rfl, hca⟩ := q1 ka
          by_cases kb : k < b.length
          · obtain ⟨bd, rfl, hcb⟩ := q2 kb
            clear q1 q2 q3 q4
            go_wp2_with (go_at_call 111; refine (refAdd_c_to _ _ _ _ Hn.out _).mono ?_; rintro e w' ⟨rfl, rfl⟩)
            go_ret2
            rw [Hb.out]
            exact ⟨_, rfl, Own.nil _ _ _ _ _, hb1⟩
          · exact absurd hlt kb
        · have Hx0 := q3 ka
          have kb : k < b.length := by have := Hmx.out; omega
          obtain ⟨bd, rfl, hcb⟩ := q2 kb
          clear q1 q2 q3 q4
          subst Hx0
          go_wp2_with (go_at_call 111; refine (refAdd_c_to _ _ _ _ Hn.out _).mono ?_; rintro e w' ⟨rfl, rfl⟩)
          go_ret2
          rw [Hb.out]
          exact ⟨_, rfl, Own.nil _ _ _ _ _, hb1⟩
    · have Hr := Lib.hid (addB_all hA hB (fun i hi => hs i (by have := Hmx.out; omega)))
      have he : k = b.length := by omega
      rw [he, addF_full a b Hmx.out] at ho
      go_wp2
      go_ret2
      rw [Hr.out]
      exact ⟨_, rfl, ho.any, hb1⟩
theorem refAddBag_c (S S' : Nat → Prop) (A B : Option Addr) (ca cb : Nat) (a b : List Int) (w : World) (ha : Rd intT w S A ca a) (hb : Rd intT w S' B cb b) (n m : Nat) (hn : n = a.length) (hm : m = b.length) :
    Calls Tryz.prog 89 #[.slice A n ca, .slice B m cb] w fun e w' => ∃ v, e = .returned (.tuple #[v, .bool (addB a b).2]) ∧ Own intT 3 w' w.heap.size (Ge w.heap.size) v (addB a b).1 ∧ Bel w w' := by
  subst hn hm
  by_cases hR : rightB a = true ∧ rightB b = true
  · by_cases hL : a.length < b.length
    · exact refAdd_y S S' A B ca cb a b w ha hb hR.1 hR.2 hL
    · exact refAdd_x S S' A B ca cb a b w ha hb hR.1 hR.2 (by omega)
  · refine (refAdd_bad S S' A B ca cb a b w ha hb ?_).mono ?_
    · cases h1 : rightB a with
      | false => exact .inl rfl
      | true =>
        cases h2 : rightB b with
        | false => exact .inr rfl
        | true => exact absurd ⟨h1, h2⟩ hR
    · rintro e w' ⟨rfl, hr, rfl⟩
      rw [hr]
      exact ⟨_, rfl, Own.nil _ _ _ _ _, Bel.refl _⟩
end Go.Proofs.YtmdcgekiiopohaaGreat

/- Walks: what the statements of chapter 3 use. -/
namespace Go.Proofs.YtmdcgekiiopohaaGreat
open Go.RowKit Go.Cb

end Go.Proofs.YtmdcgekiiopohaaGreat

/- What the rows' proofs use: arguments that are read, opened. -/
namespace Go.Cb
open Go.ChangeShapes Go.WideShapes Go.RowKit

def inI64 (x : Int) : Prop := -9223372036854775808 ≤ x ∧ x ≤ 9223372036854775807
def inU64 (x : Int) : Prop := 0 ≤ x ∧ x ≤ 18446744073709551615
theorem inI64_wf {x : Int} (h : (Lit.int .i64 x).wf = true) : inI64 x := by
  simp [Lit.wf, IntKind.min, IntKind.max, IntKind.signed, IntKind.bits] at h
  exact h
theorem inU64_wf {x : Int} (h : (Lit.int .u64 x).wf = true) : inU64 x := by
  simp [Lit.wf, IntKind.min, IntKind.max, IntKind.signed, IntKind.bits] at h
  exact h

theorem open_rd {H : Type} {enc : TypeId × Value → H} {P : Program} {W : World} {base : Nat} {spare : Nat → Bool} {held : Bool} {t e : TypeId} {k : IntKind} {a : Option Addr} {len cap : Nat} {d : DataW H} {ps : List MemPlace} {ts : List TypeId} {ds : List (DataW H)} {j : Nat}
    (hsz : (DataW.weightsEach P ts ds).all (· ≤ reachBytes) = true) (ht : ts[j]? = some t) (hd : ds[j]? = some d) (hu : P.underlying t = some (.slice e)) (he : P.underlying e = some (.int k)) (hc : P.cellsOf e = 1) (hB : P.bytesOf e = 8)
    (h : DataW.Trod enc P W base spare held t (.slice a len cap) d ps) :
    ∃ l : List Int, len = l.length ∧ Rd (scalar (Value.int k) (fun _ => rfl)) W All a cap l ∧ (∀ x ∈ l, (Lit.int k x).wf = true) ∧ l.length * 8 ≤ 140737488351232 := by
  obtain ⟨fuel, hf⟩ := h
  rcases open_ints hu he hc hf with ⟨hcs, _⟩ | ⟨x, n, c, zs, hcs, _, hl, hm, hz, hx, hcell, hwf⟩
  · simp [Value.cells] at hcs
    obtain ⟨rfl, rfl, rfl⟩ := hcs
    exact ⟨[], rfl, Rd.nil _ _ _ _ _ (by simp [maxLen]), by simp, by simp⟩
  · simp [Value.cells] at hcs
    obtain ⟨rfl, rfl, rfl⟩ := hcs
    obtain ⟨hx, _⟩ := Prod.mk.inj hx
    subst hx
    have hl2 : len ≤ zs.length := by
      rw [hz]
      split
      · exact hl
      · exact Nat.le_refl _
    have hlen : (zs.take len).length = len := by simp; omega
    refine ⟨zs.take len, hlen.symm, ⟨by omega, hm, fun i y hy => ?_⟩, fun y hy => hwf y (List.mem_of_mem_take hy), ?_⟩
    · have hi : i < len := by have := (List.getElem?_eq_some_iff.1 hy).1; omega
      rw [List.getElem?_take, if_pos hi] at hy
      refine ⟨x, [.int k y], rfl, trivial, rfl, fun i' u hu' => ?_⟩
      cases i' with
      | succ i' => simp at hu'
      | zero =>
        have hu2 : u = .int k y := by simpa using hu'.symm
        subst hu2
        have := hcell i (by omega)
        rw [List.getD_eq_getElem?_getD, hy] at this
        simpa [scalar] using this
    · have z := sized_slice hsz ht hd hu
      rw [hB] at z
      have h1 : (lits (H := H) k (zs.take len)).length + (lits (H := H) k (zs.drop len)).length = zs.length := by
        simp [lits]
        omega
      rw [h1] at z
      rw [hlen]
      exact Nat.le_trans (Nat.mul_le_mul_right _ hl2) z
end Go.Cb

/- What the rows' proofs use: arguments of whatever shape, opened. -/
namespace Go.Cb
open Go.ChangeShapes Go.WideShapes Go.RowKit
/-- What is read as data of type t reads as a value of kind d, its numbers as they should be. -/
def Opens (P : Program) {α : Type} (d : Ty α) (ok : α → Prop) (t : TypeId) : Prop :=
  ∀ (H : Type) (enc : TypeId × Value → H) (W : World) (base : Nat) (spare : Nat → Bool) (held : Bool) (fuel : Nat) (cs : List Value) (x : DataW H × List MemPlace),
    DataW.trod enc P W base spare held fuel t cs = some x → ∃ v, d.rd W All v cs ∧ ok v
theorem opens_int {P : Program} {t : TypeId} (hu : P.underlying t = some (.int .i64)) : Opens P intT inI64 t := fun H enc W base spare held fuel cs x h => by
  obtain ⟨n, rfl, _, hw⟩ := DataW.trod_int hu h
  exact ⟨n, rfl, inI64_wf hw⟩
theorem opens_slice {P : Program} {α : Type} {d : Ty α} {ok : α → Prop} {t e : TypeId} (hu : P.underlying t = some (.slice e)) (hc : P.cellsOf e = d.sz) (h : Opens P d ok e) : Opens P (sl d) (fun l => ∀ x ∈ l, ok x) t := fun H enc W base spare held fuel cs x hx => by
  rcases DataW.trod_slice hu hx with ⟨rfl, _⟩ | ⟨a, len, cap, elems, rest, n, _, rfl, _, _, hl, hm, hel, he, _⟩
  · exact ⟨[], ⟨none, 0, rfl, Rd.nil _ _ _ _ _ (by decide)⟩, fun x hx => by simp at hx⟩
  · have key : ∀ i : Fin len, ∃ v, ok v ∧ ∃ cs, d.rd W All v cs ∧ ∀ j u, cs[j]? = some u → W.cell? (a.add (i.1 * d.sz + j)) = some u := fun i => by
      have h1 := he i.1 i.2
      rw [List.getElem?_eq_getElem (by omega), Option.bind_eq_some_iff] at h1
      obtain ⟨cs, h2, h3⟩ := h1
      obtain ⟨_, h4, h5⟩ := World.cells?_some h2
      obtain ⟨v, hv, hok⟩ := h H enc W base spare held n cs _ h3
      refine ⟨v, hok, cs, hv, fun j u hu => ?_⟩
      have hj := (List.getElem?_eq_some_iff.1 hu).1
      have h6 := h5 j (by omega)
      rw [add_add, hc] at h6
      rw [h6, hu]
    obtain ⟨f, hf⟩ := Classical.axiomOfChoice key
    have hlen : (List.ofFn f).length = len := List.length_ofFn
    refine ⟨List.ofFn f, ⟨some a, cap, by rw [hlen], by rw [hlen]; exact hl, hm, fun j x hj => ?_⟩, fun x hx => ?_⟩
    · obtain ⟨hj1, hj2⟩ := List.getElem?_eq_some_iff.1 hj
      rw [hlen] at hj1
      rw [List.getElem_ofFn] at hj2
      obtain ⟨_, cs, h1, h2⟩ := hf ⟨j, hj1⟩
      rw [hj2] at h1
      exact ⟨a, cs, rfl, trivial, h1, h2⟩
    · obtain ⟨i, rfl⟩ := List.mem_ofFn.1 hx
      exact (hf i).1
theorem opens_struct2 {P : Program} {α β : Type} {d : Ty α} {b : Ty β} {ok : α → Prop} {okb : β → Prop} {t : TypeId} {f0 f1 : Field} (hu : P.underlying t = some (.struct #[f0, f1])) (h0 : P.cellsOf f0.type = d.sz) (h1 : P.cellsOf f1.type = b.sz) (ho0 : f0.offset = 0) (ho1 : f1.offset = d.sz) (hc : P.cellsOf t = d.sz + b.sz)
    (hd : Opens P d ok f0.type) (hb : Opens P b okb f1.type) : Opens P (two d b) (fun x => ok x.1 ∧ okb x.2) t := fun H enc W base spare held fuel cs x hx => by
  obtain ⟨xs, n, _, _, hl, hlen, hf⟩ := DataW.trod_struct hu hx
  have e0 := hf 0 f0 rfl
  have e1 := hf 1 f1 rfl
  have hl0 : 0 < xs.length := by rw [hlen]; simp
  have hl1 : 1 < xs.length := by rw [hlen]; simp
  rw [List.getElem?_eq_getElem hl0] at e0
  rw [List.getElem?_eq_getElem hl1] at e1
  obtain ⟨v0, r0, k0⟩ := hd H enc W base spare held n _ _ e0
  obtain ⟨v1, r1, k1⟩ := hb H enc W base spare held n _ _ e1
  rw [ho0, h0, List.drop_zero] at r0
  rw [ho1, h1, List.take_of_length_le (by rw [List.length_drop]; omega)] at r1
  exact ⟨(v0, v1), ⟨_, _, (List.take_append_drop d.sz cs).symm, r0, r1⟩, k0, k1⟩
end Go.Cb
