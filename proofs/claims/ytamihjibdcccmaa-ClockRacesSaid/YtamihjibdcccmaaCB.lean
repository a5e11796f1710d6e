/- Walks: numbers and words. -/
import Derived.Test.YtamihjibdcccmaaRows
import Derived.Test.YtamihjibdcccmaaCA
import Derived.ProofKit
import Derived.OpenShut
import Derived.ChangeOld
import Derived.SizedLaws
import Derived.ChangeSlices
set_option linter.unusedVariables false
set_option linter.unusedSimpArgs false
set_option linter.all false
namespace Go.Proofs.Ytamihjibdcccmaa
open Go.RowKit Go.Cb


end Go.Proofs.Ytamihjibdcccmaa

/- Walks: sums and products, the program's and the document's. -/
namespace Go.Proofs.Ytamihjibdcccmaa
open Go.RowKit Go.Cb

theorem okN_t {n : Int} (h : okN n = true) : 0 ≤ n ∧ n ≤ 1152921504606846976 := (okN_iff n).1 h
theorem okN_f {n : Int} (h : okN n = false) : n < 0 ∨ 1152921504606846976 < n := by
  have h2 : ¬ (0 ≤ n ∧ n ≤ 1152921504606846976) := fun h3 => by rw [(okN_iff n).2 h3] at h; cases h
  omega




theorem addN_comm (a b : Int) : addN a b = addN b a := by
  unfold addN
  by_cases h : okN a = true ∧ okN b = true ∧ a + b ≤ far
  · rw [if_pos h, if_pos ⟨h.2.1, h.1, by rw [Int.add_comm]; exact h.2.2⟩, Int.add_comm]
  · rw [if_neg h, if_neg (fun h2 => h ⟨h2.2.1, h2.1, by rw [Int.add_comm]; exact h2.2.2⟩)]
theorem mulN_comm (a b : Int) : mulN a b = mulN b a := by
  unfold mulN
  by_cases h : okN a = true ∧ okN b = true ∧ a * b ≤ far
  · rw [if_pos h, if_pos ⟨h.2.1, h.1, by rw [Int.mul_comm]; exact h.2.2⟩, Int.mul_comm]
  · rw [if_neg h, if_neg (fun h2 => h ⟨h2.2.1, h2.1, by rw [Int.mul_comm]; exact h2.2.2⟩)]
theorem addN_ok {a b n : Int} (h : addN a b = (n, true)) : n = a + b ∧ 0 ≤ a ∧ 0 ≤ b ∧ n ≤ 1152921504606846976 := by
  unfold addN at h
  split at h
  · rename_i hc
    injection h with h _
    obtain ⟨h1, h2, h3⟩ := hc
    have := okN_t h1
    have := okN_t h2
    unfold far at h3
    omega
  · injection h with _ h; cases h
theorem mulN_ok {a b n : Int} (h : mulN a b = (n, true)) : n = a * b ∧ n ≤ 1152921504606846976 := by
  unfold mulN at h
  split at h
  · rename_i hc
    injection h with h _
    obtain ⟨h1, h2, h3⟩ := hc
    unfold far at h3
    omega
  · injection h with _ h; cases h
end Go.Proofs.Ytamihjibdcccmaa

/- Walks: words, more. -/
namespace Go.Proofs.Ytamihjibdcccmaa
open Go.RowKit Go.Cb

theorem info_int : (Try.prog.info? 3).map (fun i => (i.zero, i.size, i.bytes)) = some (some (.int .i64 0), 1, 8) := by kernel_rfl

theorem own_lit0 {α : Type} (d : Ty α) (e : TypeId) (W : World) (base : Nat) (S : Nat → Prop) (hb : base ≤ W.heap.size) : Own d e (W.alloc (.cells #[] e)) base S (.slice (some ⟨W.heap.size, 0, none⟩) 0 0) [] :=
  ⟨[], World.ownsRow_lit W #[] 0 hb (by simp [maxLen]) (by simp), fun j x hj => by simp at hj⟩




end Go.Proofs.Ytamihjibdcccmaa

/- Walks: sums of words. -/
namespace Go.Proofs.Ytamihjibdcccmaa
open Go.RowKit Go.Cb

theorem addN_sum {x y : Int} (hx : 0 ≤ x ∧ x ≤ far) (hy : 0 ≤ y ∧ y ≤ far) (h : x + y ≤ 1152921504606846976) : addN x y = (x + y, true) := by
  unfold addN
  rw [if_pos ⟨(okN_iff x).2 hx, (okN_iff y).2 hy, h⟩]
theorem addN_over {x y : Int} (h : ¬ x + y ≤ 1152921504606846976) : addN x y = (0, false) := by
  unfold addN
  rw [if_neg (fun h2 => h h2.2.2)]

end Go.Proofs.Ytamihjibdcccmaa

/- Walks: order and totals of words. -/
namespace Go.Proofs.Ytamihjibdcccmaa
open Go.RowKit Go.Cb

set_option maxHeartbeats 1000000 in
theorem isNaN_c (a : Int) (w : World) : Calls Try.prog 41 #[.int .i64 a] w fun e w' => e = .returned (.bool false) ∧ w = w' := by
  go_enter Try.func41, Try.ntmps41
  go_wp2
  go_ret
  exact ⟨by simp, rfl⟩
set_option maxHeartbeats 1000000 in
theorem cmpCompare_c (a b : Int) (w : World) : Calls Try.prog 38 #[.int .i64 a, .int .i64 b] w fun e w' => e = .returned (.int .i64 (cmpI a b)) ∧ w = w' := by
  by_cases h1 : a < b
  · have Hn := Lib.hid (cmpI_lt h1)
    go_enter Try.func38, Try.ntmps38
    go_wp2_with (go_at_call 41; refine (isNaN_c _ _).mono ?_; rintro e w' ⟨rfl, rfl⟩)
    go_ret
    exact ⟨by rw [Hn.out]; rfl, rfl⟩
  · by_cases h2 : b < a
    · have Hn := Lib.hid (cmpI_gt h2)
      go_enter Try.func38, Try.ntmps38
      go_wp2_with (go_at_call 41; refine (isNaN_c _ _).mono ?_; rintro e w' ⟨rfl, rfl⟩)
      go_ret
      exact ⟨by rw [Hn.out]; rfl, rfl⟩
    · have Hn := Lib.hid (show cmpI a b = 0 from cmpI_zero.2 (by omega))
      go_enter Try.func38, Try.ntmps38
      go_wp2_with (go_at_call 41; refine (isNaN_c _ _).mono ?_; rintro e w' ⟨rfl, rfl⟩)
      go_ret
      exact ⟨by rw [Hn.out]; rfl, rfl⟩


end Go.Proofs.Ytamihjibdcccmaa

/- Walks: totals and differences; the document's words. -/
namespace Go.Proofs.Ytamihjibdcccmaa
open Go.RowKit Go.Cb


end Go.Proofs.Ytamihjibdcccmaa

/- Walks: the document's words; helps. -/
namespace Go.Proofs.Ytamihjibdcccmaa
open Go.RowKit Go.Cb


set_option maxHeartbeats 1000000 in
theorem copyInt_c (S : Nat → Prop) (A : Option Addr) (c : Nat) (l : List Int) (w : World) (h : Rd intT w S A c l) (n : Nat) (hn : n = l.length) (hl : l.length * 8 ≤ 140737488355328) :
    Calls Try.prog 27 #[.slice A n c] w fun e w' => ∃ v, e = .returned v ∧ Own intT 3 w' w.heap.size (Ge w.heap.size) v l ∧ Bel w w' := by
  subst hn
  go_enter Try.func27, Try.ntmps27
  go_wp2_with (at_builtin; refine wp_append intT (w0 := w) 43 3 (.int .i64 0) 8 rfl _ _ rfl Try.underlying43 info_int rfl (Ge w.heap.size) S _ [] l A _ c rfl rfl rfl (Own.nil _ _ _ _ _) h (fun _ _ h => h) (Bel.refl _) (by simp [maxLen]; omega) (by simpa using hl) ?_; rintro v1 w1 ho hb1 _ _)
  go_ret
  exact ⟨_, rfl, ho, hb1⟩

set_option maxHeartbeats 1000000 in
theorem cutInt_c (S : Nat → Prop) (A : Option Addr) (c : Nat) (l : List Int) (k : Nat) (w : World) (h : Rd intT w S A c l) (n : Nat) (hn : n = l.length) (hl : l.length * 8 ≤ 140737488355328) (K : Int) (hK : K = (k : Int)) :
    Calls Try.prog 17 #[.slice A n c, .int .i64 K] w fun e w' => ∃ v, e = .returned v ∧ Own intT 3 w' w.heap.size (Ge w.heap.size) v (l.take k) ∧ Bel w w' := by
  subst hn hK
  have hm := h.lenMax
  have hcap := h.cap
  by_cases hk : l.length < k
  · have Ht := Lib.hid (show l.take k = l from List.take_of_length_le (by omega))
    have hk2 : (l.length : Int) ≤ (k : Int) := by omega
    go_enter Try.func17, Try.ntmps17
    go_wp2_with (go_at_call 27; refine (copyInt_c S _ c l _ h _ rfl hl).mono ?_; rintro e w' ⟨v, rfl, ho, hb⟩)
    go_ret
    exact ⟨_, rfl, by rw [Ht.out]; exact ho, hb⟩
  · have hk2 : (k : Int) ≤ (l.length : Int) := by omega
    go_enter Try.func17, Try.ntmps17
    go_wp2_with (go_at_call 27; refine (copyInt_c S _ c (l.take k) _ (h.take k) _ (by simp; omega) (by simp; omega)).mono ?_; rintro e w' ⟨v, rfl, ho, hb⟩)
    all_goals
      go_ret
      exact ⟨_, rfl, ho, hb⟩


set_option maxHeartbeats 1000000 in
theorem within_c (v n : Int) (w : World) (hn : n ≤ 9223372036854775807) :
    Calls Try.prog 10 #[.int .i64 v, .int .i64 n] w fun e w' => e = .returned (.int .i64 (withinI v n)) ∧ w = w' := by
  by_cases h1 : n < 1
  · have Hw := Lib.hid (show withinI v n = 0 from by unfold withinI; rw [if_pos h1])
    go_enter Try.func10, Try.ntmps10
    go_wp2
    go_ret
    exact ⟨by rw [Hw.out]; rfl, rfl⟩
  · have h1' : 1 ≤ n := by omega
    by_cases h0 : 0 ≤ v
    · have Hw := Lib.hid (show withinI v n = v % n from by unfold withinI; rw [if_neg h1])
      have q0 := Int.emod_nonneg v (b := n) (by omega)
      go_enter Try.func10, Try.ntmps10
      go_wp2
      go_ret
      exact ⟨by rw [Hw.out]; rfl, rfl⟩
    · obtain ⟨q0, q1, q2, q3⟩ := withinI_neg h1' (show v < 0 by omega)
      by_cases ht : v.tmod n < 0
      · have Hw := Lib.hid (q2 ht)
        clear q2 q3
        go_enter Try.func10, Try.ntmps10
        go_wp2
        go_ret
        exact ⟨by rw [← Hw.out]; rfl, rfl⟩
      · have Hw := Lib.hid (q3 ht)
        clear q2 q3
        go_enter Try.func10, Try.ntmps10
        go_wp2
        go_ret
        exact ⟨by rw [← Hw.out]; rfl, rfl⟩

end Go.Proofs.Ytamihjibdcccmaa

/- Walks: the words that the statements make; the document's sums, differences, order. -/
namespace Go.Proofs.Ytamihjibdcccmaa
open Go.RowKit Go.Cb



end Go.Proofs.Ytamihjibdcccmaa

/- What the rows' proofs use: arguments that are read, opened. -/
namespace Go.Cb
open Go.ChangeShapes Go.WideShapes Go.RowKit

def inI64 (x : Int) : Prop := -9223372036854775808 ≤ x ∧ x ≤ 9223372036854775807
def inU64 (x : Int) : Prop := 0 ≤ x ∧ x ≤ 18446744073709551615
theorem inI64_wf {x : Int} (h : (Lit.int .i64 x).wf = true) : inI64 x := by
  simp [Lit.wf, IntKind.min, IntKind.max, IntKind.signed, IntKind.bits] at h
  exact h
theorem inU64_wf {x : Int} (h : (Lit.int .u64 x).wf = true) : inU64 x := by
  simp [Lit.wf, IntKind.min, IntKind.max, IntKind.signed, IntKind.bits] at h
  exact h

theorem open_rd {H : Type} {enc : TypeId × Value → H} {P : Program} {W : World} {base : Nat} {spare : Nat → Bool} {held : Bool} {t e : TypeId} {k : IntKind} {a : Option Addr} {len cap : Nat} {d : DataW H} {ps : List MemPlace} {ts : List TypeId} {ds : List (DataW H)} {j : Nat}
    (hsz : (DataW.weightsEach P ts ds).all (· ≤ reachBytes) = true) (ht : ts[j]? = some t) (hd : ds[j]? = some d) (hu : P.underlying t = some (.slice e)) (he : P.underlying e = some (.int k)) (hc : P.cellsOf e = 1) (hB : P.bytesOf e = 8)
    (h : DataW.Trod enc P W base spare held t (.slice a len cap) d ps) :
    ∃ l : List Int, len = l.length ∧ Rd (scalar (Value.int k) (fun _ => rfl)) W All a cap l ∧ (∀ x ∈ l, (Lit.int k x).wf = true) ∧ l.length * 8 ≤ 140737488351232 := by
  obtain ⟨fuel, hf⟩ := h
  rcases open_ints hu he hc hf with ⟨hcs, _⟩ | ⟨x, n, c, zs, hcs, _, hl, hm, hz, hx, hcell, hwf⟩
  · simp [Value.cells] at hcs
    obtain ⟨rfl, rfl, rfl⟩ := hcs
    exact ⟨[], rfl, Rd.nil _ _ _ _ _ (by simp [maxLen]), by simp, by simp⟩
  · simp [Value.cells] at hcs
    obtain ⟨rfl, rfl, rfl⟩ := hcs
    obtain ⟨hx, _⟩ := Prod.mk.inj hx
    subst hx
    have hl2 : len ≤ zs.length := by
      rw [hz]
      split
      · exact hl
      · exact Nat.le_refl _
    have hlen : (zs.take len).length = len := by simp; omega
    refine ⟨zs.take len, hlen.symm, ⟨by omega, hm, fun i y hy => ?_⟩, fun y hy => hwf y (List.mem_of_mem_take hy), ?_⟩
    · have hi : i < len := by have := (List.getElem?_eq_some_iff.1 hy).1; omega
      rw [List.getElem?_take, if_pos hi] at hy
      refine ⟨x, [.int k y], rfl, trivial, rfl, fun i' u hu' => ?_⟩
      cases i' with
      | succ i' => simp at hu'
      | zero =>
        have hu2 : u = .int k y := by simpa using hu'.symm
        subst hu2
        have := hcell i (by omega)
        rw [List.getD_eq_getElem?_getD, hy] at this
        simpa [scalar] using this
    · have z := sized_slice hsz ht hd hu
      rw [hB] at z
      have h1 : (lits (H := H) k (zs.take len)).length + (lits (H := H) k (zs.drop len)).length = zs.length := by
        simp [lits]
        omega
      rw [h1] at z
      rw [hlen]
      exact Nat.le_trans (Nat.mul_le_mul_right _ hl2) z
end Go.Cb

/- What the rows' proofs use: arguments of whatever shape, opened. -/
namespace Go.Cb
open Go.ChangeShapes Go.WideShapes Go.RowKit
/-- What is read as data of type t reads as a value of kind d, its numbers as they should be. -/
def Opens (P : Program) {α : Type} (d : Ty α) (ok : α → Prop) (t : TypeId) : Prop :=
  ∀ (H : Type) (enc : TypeId × Value → H) (W : World) (base : Nat) (spare : Nat → Bool) (held : Bool) (fuel : Nat) (cs : List Value) (x : DataW H × List MemPlace),
    DataW.trod enc P W base spare held fuel t cs = some x → ∃ v, d.rd W All v cs ∧ ok v
theorem opens_int {P : Program} {t : TypeId} (hu : P.underlying t = some (.int .i64)) : Opens P intT inI64 t := fun H enc W base spare held fuel cs x h => by
  obtain ⟨n, rfl, _, hw⟩ := DataW.trod_int hu h
  exact ⟨n, rfl, inI64_wf hw⟩
theorem opens_slice {P : Program} {α : Type} {d : Ty α} {ok : α → Prop} {t e : TypeId} (hu : P.underlying t = some (.slice e)) (hc : P.cellsOf e = d.sz) (h : Opens P d ok e) : Opens P (sl d) (fun l => ∀ x ∈ l, ok x) t := fun H enc W base spare held fuel cs x hx => by
  rcases DataW.trod_slice hu hx with ⟨rfl, _⟩ | ⟨a, len, cap, elems, rest, n, _, rfl, _, _, hl, hm, hel, he, _⟩
  · exact ⟨[], ⟨none, 0, rfl, Rd.nil _ _ _ _ _ (by decide)⟩, fun x hx => by simp at hx⟩
  · have key : ∀ i : Fin len, ∃ v, ok v ∧ ∃ cs, d.rd W All v cs ∧ ∀ j u, cs[j]? = some u → W.cell? (a.add (i.1 * d.sz + j)) = some u := fun i => by
      have h1 := he i.1 i.2
      rw [List.getElem?_eq_getElem (by omega), Option.bind_eq_some_iff] at h1
      obtain ⟨cs, h2, h3⟩ := h1
      obtain ⟨_, h4, h5⟩ := World.cells?_some h2
      obtain ⟨v, hv, hok⟩ := h H enc W base spare held n cs _ h3
      refine ⟨v, hok, cs, hv, fun j u hu => ?_⟩
      have hj := (List.getElem?_eq_some_iff.1 hu).1
      have h6 := h5 j (by omega)
      rw [add_add, hc] at h6
      rw [h6, hu]
    obtain ⟨f, hf⟩ := Classical.axiomOfChoice key
    have hlen : (List.ofFn f).length = len := List.length_ofFn
    refine ⟨List.ofFn f, ⟨some a, cap, by rw [hlen], by rw [hlen]; exact hl, hm, fun j x hj => ?_⟩, fun x hx => ?_⟩
    · obtain ⟨hj1, hj2⟩ := List.getElem?_eq_some_iff.1 hj
      rw [hlen] at hj1
      rw [List.getElem_ofFn] at hj2
      obtain ⟨_, cs, h1, h2⟩ := hf ⟨j, hj1⟩
      rw [hj2] at h1
      exact ⟨a, cs, rfl, trivial, h1, h2⟩
    · obtain ⟨i, rfl⟩ := List.mem_ofFn.1 hx
      exact (hf i).1
theorem opens_struct2 {P : Program} {α β : Type} {d : Ty α} {b : Ty β} {ok : α → Prop} {okb : β → Prop} {t : TypeId} {f0 f1 : Field} (hu : P.underlying t = some (.struct #[f0, f1])) (h0 : P.cellsOf f0.type = d.sz) (h1 : P.cellsOf f1.type = b.sz) (ho0 : f0.offset = 0) (ho1 : f1.offset = d.sz) (hc : P.cellsOf t = d.sz + b.sz)
    (hd : Opens P d ok f0.type) (hb : Opens P b okb f1.type) : Opens P (two d b) (fun x => ok x.1 ∧ okb x.2) t := fun H enc W base spare held fuel cs x hx => by
  obtain ⟨xs, n, _, _, hl, hlen, hf⟩ := DataW.trod_struct hu hx
  have e0 := hf 0 f0 rfl
  have e1 := hf 1 f1 rfl
  have hl0 : 0 < xs.length := by rw [hlen]; simp
  have hl1 : 1 < xs.length := by rw [hlen]; simp
  rw [List.getElem?_eq_getElem hl0] at e0
  rw [List.getElem?_eq_getElem hl1] at e1
  obtain ⟨v0, r0, k0⟩ := hd H enc W base spare held n _ _ e0
  obtain ⟨v1, r1, k1⟩ := hb H enc W base spare held n _ _ e1
  rw [ho0, h0, List.drop_zero] at r0
  rw [ho1, h1, List.take_of_length_le (by rw [List.length_drop]; omega)] at r1
  exact ⟨(v0, v1), ⟨_, _, (List.take_append_drop d.sz cs).symm, r0, r1⟩, k0, k1⟩
end Go.Cb

/- Walks: copies and cuts of rows of whatever elements. -/
namespace Go.Proofs.Ytamihjibdcccmaa
open Go.RowKit Go.Cb
set_option maxHeartbeats 1000000 in
theorem cutIntS_c (S : Nat → Prop) (A : Option Addr) (c : Nat) (l : List Int) (k : Nat) (w : World) (h : Rd intT w S A c l) (n : Nat) (hn : n = l.length) (hl : (l.take k).length * 8 ≤ 140737488355328) (K : Int) (hK : K = (k : Int)) :
    Calls Try.prog 17 #[.slice A n c, .int .i64 K] w fun e w' => ∃ v, e = .returned v ∧ Own intT 3 w' w.heap.size (Ge w.heap.size) v (l.take k) ∧ Bel w w' := by
  subst hn hK
  have hm := h.lenMax
  have hcap := h.cap
  by_cases hk : l.length < k
  · have Ht := Lib.hid (show l.take k = l from List.take_of_length_le (by omega))
    have hk2 : (l.length : Int) ≤ (k : Int) := by omega
    go_enter Try.func17, Try.ntmps17
    go_wp2_with (go_at_call 27; refine (copyInt_c S _ c l _ h _ rfl (Ht.out ▸ hl)).mono ?_; rintro e w' ⟨v, rfl, ho, hb⟩)
    go_ret
    exact ⟨_, rfl, by rw [Ht.out]; exact ho, hb⟩
  · have hk2 : (k : Int) ≤ (l.length : Int) := by omega
    go_enter Try.func17, Try.ntmps17
    go_wp2_with (go_at_call 27; refine (copyInt_c S _ c (l.take k) _ (h.take k) _ (by simp; omega) hl).mono ?_; rintro e w' ⟨v, rfl, ho, hb⟩)
    all_goals
      go_ret
      exact ⟨_, rfl, ho, hb⟩
end Go.Proofs.Ytamihjibdcccmaa

/- Walks: copies and cuts of rows, those of chapter 29. -/
namespace Go.Proofs.Ytamihjibdcccmaa
open Go.RowKit Go.Cb
theorem infoKRaws29 : (Try.prog.info? 45).map (fun i => (i.zero, i.size, i.bytes)) = some (some (.agg #[.int .i64 0, .int .i64 0, .int .i64 0, .slice none 0 0]), 4, 48) := by kernel_rfl
set_option maxHeartbeats 1000000 in
theorem copyRaws29_c {α : Type} (d : Ty α) (hd : d.sz = 4) (e0 : TypeId) (he0 : e0 = 45) (S : Nat → Prop) (A : Option Addr) (c : Nat) (l : List α) (w : World) (h : Rd d w S A c l) (n : Nat) (hn : n = l.length) (hl : l.length * 48 ≤ 140737488355328) :
    Calls Try.prog 26 #[.slice A n c] w fun e w' => ∃ v, e = .returned v ∧ Own d e0 w' w.heap.size S v l ∧ Bel w w' := by
  subst hn he0
  go_enter Try.func26, Try.ntmps26
  go_wp2_with (at_builtin; refine wp_append d (w0 := w) 22 45 (.agg #[.int .i64 0, .int .i64 0, .int .i64 0, .slice none 0 0]) 48 rfl _ _ rfl Try.underlying22 (by rw [hd]; exact infoKRaws29) (by rw [hd]; rfl) S S _ [] l A _ c rfl rfl rfl (Own.nil _ _ _ _ _) h (d.rdNil (fun _ h _ => h)) (Bel.refl _) (by simp [maxLen]; omega) (by simp; omega) ?_; rintro v1 w1 ho hb1 _ _)
  go_ret
  exact ⟨_, rfl, ho, hb1⟩
set_option maxHeartbeats 1000000 in
theorem cutRaws29_c {α : Type} (d : Ty α) (hd : d.sz = 4) (S : Nat → Prop) (A : Option Addr) (c : Nat) (l : List α) (k : Nat) (w : World) (h : Rd d w S A c l) (n : Nat) (hn : n = l.length) (hl : (l.take k).length * 48 ≤ 140737488355328) (K : Int) (hK : K = (k : Int)) :
    Calls Try.prog 16 #[.slice A n c, .int .i64 K] w fun e w' => ∃ v, e = .returned v ∧ Own d 45 w' w.heap.size S v (l.take k) ∧ Bel w w' := by
  subst hn hK
  have hm := h.lenMax
  have hcap := h.cap
  by_cases hk : l.length < k
  · have Ht := Lib.hid (show l.take k = l from List.take_of_length_le (by omega))
    have hk2 : (l.length : Int) ≤ (k : Int) := by omega
    go_enter Try.func16, Try.ntmps16
    go_wp2_with (go_at_call 26; go_loud (refine (copyRaws29_c d hd _ rfl S _ c l _ h _ rfl (Ht.out ▸ hl)).mono ?_); rintro e w' ⟨v, rfl, ho, hb⟩)
    go_ret
    exact ⟨_, rfl, by rw [Ht.out]; exact ho, hb⟩
  · have hk2 : (k : Int) ≤ (l.length : Int) := by omega
    go_enter Try.func16, Try.ntmps16
    go_wp2_with (go_at_call 26; refine (copyRaws29_c d hd _ rfl S _ c (l.take k) _ (h.take k) _ (by simp; omega) hl).mono ?_; rintro e w' ⟨v, rfl, ho, hb⟩)
    all_goals
      go_ret
      exact ⟨_, rfl, ho, hb⟩
theorem infoKEvs : (Try.prog.info? 27).map (fun i => (i.zero, i.size, i.bytes)) = some (some (.agg #[.int .i64 0, .int .i64 0, .int .i64 0, .slice none 0 0]), 4, 48) := by kernel_rfl
set_option maxHeartbeats 1000000 in
theorem copyEvs_c {α : Type} (d : Ty α) (hd : d.sz = 4) (e0 : TypeId) (he0 : e0 = 27) (S : Nat → Prop) (A : Option Addr) (c : Nat) (l : List α) (w : World) (h : Rd d w S A c l) (n : Nat) (hn : n = l.length) (hl : l.length * 48 ≤ 140737488355328) :
    Calls Try.prog 15 #[.slice A n c] w fun e w' => ∃ v, e = .returned v ∧ Own d e0 w' w.heap.size S v l ∧ Bel w w' := by
  subst hn he0
  go_enter Try.func15, Try.ntmps15
  go_wp2_with (at_builtin; refine wp_append d (w0 := w) 23 27 (.agg #[.int .i64 0, .int .i64 0, .int .i64 0, .slice none 0 0]) 48 rfl _ _ rfl Try.underlying23 (by rw [hd]; exact infoKEvs) (by rw [hd]; rfl) S S _ [] l A _ c rfl rfl rfl (Own.nil _ _ _ _ _) h (d.rdNil (fun _ h _ => h)) (Bel.refl _) (by simp [maxLen]; omega) (by simp; omega) ?_; rintro v1 w1 ho hb1 _ _)
  go_ret
  exact ⟨_, rfl, ho, hb1⟩
set_option maxHeartbeats 1000000 in
theorem cutEvs_c {α : Type} (d : Ty α) (hd : d.sz = 4) (S : Nat → Prop) (A : Option Addr) (c : Nat) (l : List α) (k : Nat) (w : World) (h : Rd d w S A c l) (n : Nat) (hn : n = l.length) (hl : (l.take k).length * 48 ≤ 140737488355328) (K : Int) (hK : K = (k : Int)) :
    Calls Try.prog 5 #[.slice A n c, .int .i64 K] w fun e w' => ∃ v, e = .returned v ∧ Own d 27 w' w.heap.size S v (l.take k) ∧ Bel w w' := by
  subst hn hK
  have hm := h.lenMax
  have hcap := h.cap
  by_cases hk : l.length < k
  · have Ht := Lib.hid (show l.take k = l from List.take_of_length_le (by omega))
    have hk2 : (l.length : Int) ≤ (k : Int) := by omega
    go_enter Try.func5, Try.ntmps5
    go_wp2_with (go_at_call 15; go_loud (refine (copyEvs_c d hd _ rfl S _ c l _ h _ rfl (Ht.out ▸ hl)).mono ?_); rintro e w' ⟨v, rfl, ho, hb⟩)
    go_ret
    exact ⟨_, rfl, by rw [Ht.out]; exact ho, hb⟩
  · have hk2 : (k : Int) ≤ (l.length : Int) := by omega
    go_enter Try.func5, Try.ntmps5
    go_wp2_with (go_at_call 15; refine (copyEvs_c d hd _ rfl S _ c (l.take k) _ (h.take k) _ (by simp; omega) hl).mono ?_; rintro e w' ⟨v, rfl, ho, hb⟩)
    all_goals
      go_ret
      exact ⟨_, rfl, ho, hb⟩
end Go.Proofs.Ytamihjibdcccmaa
