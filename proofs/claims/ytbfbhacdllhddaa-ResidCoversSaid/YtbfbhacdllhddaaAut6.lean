/- Walks: a carry with some of the periods, the document's; what is odd in a word, and half of it. -/
import Derived.Test.YtbfbhacdllhddaaAut5
import Derived.Test.YtbfbhacdllhddaaMB
set_option linter.unusedVariables false
set_option linter.unusedSimpArgs false
set_option linter.all false
namespace Go.Cb
theorem bit_one {k i : Nat} (h : (k / 2 ^ i) % 2 = 1) : (bits .and .i64 ((k : Int) / 2 ^ i) 1 == 1) = true := by
  rw [and1_i64]
  have : ((k : Int) / 2 ^ i) = ((k / 2 ^ i : Nat) : Int) := by push_cast; rfl
  rw [this]
  exact beq_iff_eq.2 (by omega)
theorem bit_nought {k i : Nat} (h : ¬ (k / 2 ^ i) % 2 = 1) : (bits .and .i64 ((k : Int) / 2 ^ i) 1 == 1) = false := by
  rw [and1_i64]
  have : ((k : Int) / 2 ^ i) = ((k / 2 ^ i : Nat) : Int) := by push_cast; rfl
  rw [this]
  exact beq_eq_false_iff_ne.2 (by omega)
def halfZ (b : List Int) (k : Nat) : List Int := (b.take k).map (· / 2) ++ List.replicate (b.length - k) 0
theorem halfZ_len {b : List Int} {k : Nat} (h : k ≤ b.length) : (halfZ b k).length = b.length := by simp [halfZ]; omega
theorem halfZ_zero (b : List Int) : halfZ b 0 = List.replicate b.length 0 := by simp [halfZ]
theorem halfZ_all (b : List Int) : halfZ b b.length = b.map (· / 2) := by simp [halfZ]
theorem halfZ_set {b : List Int} {k : Nat} (h : k < b.length) : (halfZ b k).set k (b[k] / 2) = halfZ b (k + 1) := by
  unfold halfZ
  rw [List.set_append_right _ _ (by simp; omega), List.length_map, List.length_take, Nat.min_eq_left (by omega), Nat.sub_self, show b.length - k = (b.length - (k + 1)) + 1 by omega, List.replicate_succ, List.set_cons_zero, List.take_add_one, List.getElem?_eq_getElem h]
  simp only [Option.toList_some, List.map_append, List.map_cons, List.map_nil, List.append_assoc, List.singleton_append]
theorem let_next0 {b : List Int} {k : Nat} {x : Int} (hk : k < b.length) (hx : b[k] = x) (lm : b.length ≤ 12) :
    bits .or .u64 (letS b 0 k) (IntKind.u64.wrap (IntKind.u64.wrap (bits .and .i64 x 1) * 2 ^ k)) = letS b 0 (k + 1) := by
  have := let_next (m := 0) hk hx lm
  rwa [Int.pow_zero, Int.ediv_one] at this
end Go.Cb
namespace Go.Proofs.Ytbfbhacdllhddaa
open Go.RowKit Go.Cb Go.Sort
set_option maxRecDepth 100000 in
set_option maxHeartbeats 8000000 in
theorem chosen_c (S S' : Nat → Prop) (A B : Option Addr) (c d : Nat) (b : List Int) (ps : List (List Int)) (k : Nat) (w : World) (h : Rd intT w S A c b) (h2 : Rd bagT w S' B d ps) (n m : Nat) (hn : n = b.length) (hm : m = ps.length) (hb : rightB b = true) (hk : k < 1048576) (hl : ps.length ≤ 20) :
    Calls Try.prog 45 #[.slice A n c, .slice B m d, .int .i64 k] w fun e w' => ∃ v, e = .returned (.tuple #[v, .bool (pickF k ps 0 b).isSome]) ∧ DBag w.heap.size w' v ((pickF k ps 0 b).elim [] id) ∧ Bel w w' := by
  subst hn hm
  have lb := right_len hb
  have H := Lib.hid h
  have H2 := Lib.hid h2
  have HB := Lib.hid hb
  clear h h2 hb
  go_enter Try.func45, Try.ntmps45
  go_wp2_with (at_builtin; refine wp_append intT (w0 := w) 40 3 (.int .i64 0) 8 rfl _ _ rfl Try.underlying40 info_int rfl (Ge w.heap.size) S (.slice none 0 0) [] b A b.length c rfl rfl rfl (Own.nil _ _ _ _ _) H.out (fun _ _ h => h) (Bel.refl _) (by simp [maxLen]; omega) (by simp; omega) ?_; rintro v0 w0 ho0 hb0 _ _; simp only [List.nil_append] at ho0; obtain ⟨A0, c0, hv0, hr0⟩ := ho0.rdGe; subst hv0)
  have HR0 := Lib.hid hr0
  clear ho0 hr0
  go_loopw [8, 17] (fun v8 v17 wr => ∃ (i : Nat) (W : World) (AC : Option Addr) (cC : Nat) (x : List Int), W = wr ∧ i ≤ ps.length ∧ v17 = .int .i64 i ∧ v8 = .slice AC x.length cC ∧ Rd intT W (Ge w.heap.size) AC cC x ∧ Hid (rightB x = true) ∧ Hid (pickF k ps 0 b = pickF k (ps.drop i) i x) ∧ Bel w W) (fun _ v17 _ => ps.length - (intOf v17).toNat)
  case atStart => exact ⟨0, _, A0, c0, b, rfl, Nat.zero_le _, rfl, rfl, HR0.out, HB.out, rfl, hb0⟩
  case round =>
    clear HR0 hb0
    obtain ⟨i, W, AC, cC, x, rfl, hi, rfl, rfl, hx, HX, HF, hbW⟩ := hrel
    by_cases hlt : i < ps.length
    · obtain ⟨ad, Pp, cp, rfl, hpc, hpr⟩ := (H2.out.to hbW).row hlt
      obtain ⟨p, hpe⟩ : ∃ p, ps[i] = p := ⟨_, rfl⟩
      rw [hpe] at hpc hpr
      have hp? : ps[i]? = some p := by rw [List.getElem?_eq_getElem hlt, hpe]
      have HPA := Lib.hid (pickF_at (k := k) (x := x) hp?)
      clear hpe hp?
      by_cases hpar : (k / 2 ^ i) % 2 = 1
      · have hbit := bit_one hpar
        have HPB := Lib.hid hpar
        clear hpar
        have HQ := Lib.hid (refAddBag_c _ _ _ _ _ _ x p W hx hpr _ _ rfl rfl)
        cases ha : (addB x p).2 with
        | true =>
          have HN := Lib.hid (show pickF k ps 0 b = pickF k (ps.drop (i + 1)) (i + 1) (addB x p).1 by rw [HF.out, HPA.out, if_pos HPB.out, if_pos ha])
          have HXR := Lib.hid (addB_right ha)
          rw [ha] at HQ
          obtain ⟨y, hy⟩ : ∃ y, (addB x p).1 = y := ⟨_, rfl⟩
          rw [hy] at HQ HN HXR
          clear hy ha
          go_wp2_with fail
          refine HQ.out.mono ?_
          rintro e w2 ⟨v2, rfl, ho2, hb2⟩
          obtain ⟨A2, c2, rfl, hr2⟩ := ho2.rdGe
          have hsW := hbW.size
          have HR2 := Lib.hid (hr2.mono (S' := Ge w.heap.size) (fun k hk => by unfold Ge at *; omega))
          clear ho2 hr2
          go_wp2
          go_roundw
          case rel => exact ⟨i + 1, _, A2, c2, y, rfl, by omega, by go_num, rfl, HR2.out, HXR.out, HN.out, hbW.trans hb2⟩
          case measure => simp [intOf]; omega
        | false =>
          have HN := Lib.hid (show pickF k ps 0 b = none by rw [HF.out, HPA.out, if_pos HPB.out, if_neg (by rw [ha]; decide)])
          rw [ha] at HQ
          clear ha
          go_wp2_with fail
          refine HQ.out.mono ?_
          rintro e w2 ⟨v2, rfl, ho2, hb2⟩
          go_wp2
          go_ret2
          rw [HN.out]
          exact ⟨_, rfl, ⟨none, 0, rfl, Rd.nil _ _ _ _ _ (by decide)⟩, hbW.trans hb2⟩
      · have hbit := bit_nought hpar
        have HN := Lib.hid (show pickF k ps 0 b = pickF k (ps.drop (i + 1)) (i + 1) x by rw [HF.out, HPA.out, if_neg hpar])
        clear hpar
        go_wp2
        go_roundw
        case rel => exact ⟨i + 1, _, AC, cC, x, rfl, by omega, by go_num, rfl, hx, HX.out, HN.out, hbW⟩
        case measure => simp [intOf]; omega
    · obtain rfl : i = ps.length := by omega
      have HZ := Lib.hid (show pickF k ps 0 b = some x by rw [HF.out, List.drop_length]; rfl)
      go_wp2
      go_ret2
      rw [HZ.out]
      exact ⟨_, rfl, ⟨AC, cC, rfl, hx⟩, hbW⟩
set_option maxRecDepth 100000 in
set_option maxHeartbeats 8000000 in
theorem halved_c (S : Nat → Prop) (A : Option Addr) (c : Nat) (b : List Int) (w : World) (h : Rd intT w S A c b) (n : Nat) (hn : n = b.length) (hb : rightB b = true) :
    Calls Try.prog 46 #[.slice A n c] w fun e w' => ∃ v, e = .returned (.tuple #[.int .u64 (lettI b 0), v]) ∧ DBag w.heap.size w' v (halfB b) ∧ Bel w w' := by
  subst hn
  have lb := right_len hb
  have H := Lib.hid h
  have HLE := Lib.hid (show lettI b 0 = letS b 0 b.length by unfold lettI; rw [if_pos ⟨hb, by decide, by decide⟩]; rfl)
  have HNN := Lib.hid (fun i (h : i < b.length) => (right_ok hb b[i] (List.getElem_mem h)))
  clear h hb
  go_enter Try.func46, Try.ntmps46
  go_wp2_with (at_make; refine wp_make (enc := Value.int .i64) (fun _ => rfl) (0 : Int) (w0 := w) 40 3 8 rfl _ _ rfl Try.underlying40 info_int rfl b.length _ _ rfl rfl rfl rfl (Bel.refl _) (by omega) (by unfold maxLen; omega) ?_; intro w1 ho hb hb2 hsz)
  rw [← halfZ_zero b] at ho
  clear hb2 hsz
  go_wp2
  go_loopw [4, 13] (fun v4 v13 wr => ∃ (k : Nat) (W : World), W = wr ∧ k ≤ b.length ∧ v13 = .int .i64 k ∧ v4 = .int .u64 (letS b 0 k) ∧ Own (scalar (Value.int .i64) (fun _ => rfl)) 3 W w.heap.size All (.slice (some ⟨w.heap.size, 0, none⟩) b.length b.length) (halfZ b k) ∧ Bel w W) (fun _ v13 _ => b.length - (intOf v13).toNat)
  case atStart => exact ⟨0, _, rfl, Nat.zero_le _, rfl, rfl, ho, hb⟩
  case round =>
    clear ho hb
    obtain ⟨k, W, rfl, hk, rfl, rfl, hO, hbW⟩ := hrel
    by_cases hlt : k < b.length
    · obtain ⟨hc1, hf1⟩ := hO.cell (i := k) (by rw [halfZ_len hk]; exact hlt)
      obtain ⟨ad, rfl, hc⟩ := (H.out.to hbW).int hlt
      obtain ⟨x, hx⟩ : ∃ x, b[k] = x := ⟨_, rfl⟩
      have hxr := HNN.out k hlt
      have HST := Lib.hid (halfZ_set hlt)
      have HLN := Lib.hid (let_next0 hlt hx lb)
      rw [hx] at hc hxr HST
      have hx0 := hxr.1
      have hx1 : x ≤ 1152921504606846976 := hxr.2
      have hdiv : x.tdiv 2 = x / 2 := Int.tdiv_eq_ediv_of_nonneg hx0
      have HO := Lib.hid hO
      have hk12 : k < 12 := by omega
      clear hx hxr hO
      go_wp2
      go_roundw
      case rel => exact ⟨k + 1, _, rfl, by omega, by go_num, by rw [HLN.out], by rw [← HST.out]; exact HO.out.set k _, hbW.set (Nat.le_refl _) _⟩
      case measure => simp [intOf]; omega
    · obtain rfl : k = b.length := by omega
      rw [halfZ_all] at hO
      obtain ⟨AZ, cZ, eZ, rZ⟩ := hO.rdAll
      injection eZ with z1 z2 z3
      clear z2
      subst z1 z3
      have HNO := Lib.hid (refNorm_c _ _ _ (b.map (· / 2)) W rZ b.length (List.length_map _).symm (by rw [List.length_map]; omega))
      have HH := Lib.hid (show halfB b = normB (b.map (· / 2)) from rfl)
      have hsw := hbW.size
      clear rZ hO
      go_wp2_with fail
      refine HNO.out.mono ?_
      rintro e w9 ⟨v9, rfl, ho9, hb9⟩
      obtain ⟨A9, c9, rfl, hr9⟩ := ho9.rdGe
      go_wp2
      go_ret2
      rw [HLE.out]
      exact ⟨_, rfl, ⟨A9, c9, rfl, hr9.mono (fun k hk => by unfold Ge at *; omega)⟩, hbW.trans hb9⟩
end Go.Proofs.Ytbfbhacdllhddaa
