/- Walks: a carry with some of the periods. -/
import Derived.Test.YtmdcgekiiopohaaGreatAut4
import Derived.Test.YtmdcgekiiopohaaGreatMB
set_option linter.unusedVariables false
set_option linter.unusedSimpArgs false
set_option linter.all false
namespace Go.Cb
open Go.RowKit
/-- A word, read alone, in blocks from b on. -/
def DBag (b : Nat) (w : World) (v : Value) (l : List Int) : Prop := ∃ A c, v = .slice A l.length c ∧ Rd intT w (Ge b) A c l
def halfTo (x : List Int) (k : Nat) : List Int := (x.take k).map (· / 2) ++ x.drop k
theorem halfTo_len (x : List Int) (k : Nat) : (halfTo x k).length = x.length := by simp [halfTo]; omega
theorem halfTo_get {x : List Int} {k : Nat} (h : k < x.length) : (halfTo x k)[k]? = some x[k] := by
  unfold halfTo
  rw [List.getElem?_append_right (by simp; omega), List.length_map, List.length_take, Nat.min_eq_left (by omega), Nat.sub_self, List.getElem?_drop]
  simp [h]
theorem halfTo_set {x : List Int} {k : Nat} (h : k < x.length) : (halfTo x k).set k (x[k] / 2) = halfTo x (k + 1) := by
  unfold halfTo
  rw [List.set_append_right _ _ (by simp; omega), List.length_map, List.length_take, Nat.min_eq_left (by omega), Nat.sub_self, List.drop_eq_getElem_cons h, List.set_cons_zero, List.take_add_one, List.getElem?_eq_getElem h]
  simp only [Option.toList_some, List.map_append, List.map_cons, List.map_nil, List.append_assoc, List.singleton_append]
theorem halfTo_all (x : List Int) : halfTo x x.length = x.map (· / 2) := by simp [halfTo]
theorem pickF_at {k i : Nat} {ps : List (List Int)} {p x : List Int} (h : ps[i]? = some p) : pickF k (ps.drop i) i x = if (k / 2 ^ i) % 2 = 1 then (if (addB x p).2 = true then pickF k (ps.drop (i + 1)) (i + 1) (addB x p).1 else none) else pickF k (ps.drop (i + 1)) (i + 1) x := by
  have hlt := (List.getElem?_eq_some_iff.1 h).1
  rw [List.drop_eq_getElem_cons hlt, (List.getElem?_eq_some_iff.1 h).2]; rfl
theorem bit_even {k i : Nat} (h : ¬ (k / 2 ^ i) % 2 = 1) : (bits .and .i64 ((k : Int) / 2 ^ i) 1 == 0) = true := by
  rw [and1_i64]
  have : ((k : Int) / 2 ^ i) = ((k / 2 ^ i : Nat) : Int) := by push_cast; rfl
  rw [this]
  exact beq_iff_eq.2 (by omega)
theorem bit_odd {k i : Nat} (h : (k / 2 ^ i) % 2 = 1) : (bits .and .i64 ((k : Int) / 2 ^ i) 1 == 0) = false := by
  rw [and1_i64]
  have : ((k : Int) / 2 ^ i) = ((k / 2 ^ i : Nat) : Int) := by push_cast; rfl
  rw [this]
  exact beq_eq_false_iff_ne.2 (by omega)
end Go.Cb
namespace Go.Proofs.YtmdcgekiiopohaaGreat
open Go.RowKit Go.Cb Go.Sort
set_option maxRecDepth 100000 in
set_option maxHeartbeats 8000000 in
theorem choice_c (S S' : Nat → Prop) (A B : Option Addr) (c d : Nat) (b : List Int) (ps : List (List Int)) (k : Nat) (w : World) (h : Rd intT w S A c b) (h2 : Rd bagT w S' B d ps) (n m : Nat) (hn : n = b.length) (hm : m = ps.length) (hb : rightB b = true) (hp : ∀ p ∈ ps, rightB p = true) (hk : k < 1048576) (hl : ps.length ≤ 20) :
    Calls Tryz.prog 59 #[.slice A n c, .slice B m d, .int .i64 k] w fun e w' => ∃ v, e = .returned (.tuple #[.int .u64 ((pickF k ps 0 b).elim 0 (fun b => lettI b 0)), v, .bool (pickF k ps 0 b).isSome]) ∧ DBag w.heap.size w' v ((pickF k ps 0 b).elim [] halfB) ∧ Bel w w' := by
  subst hn hm
  have H := Lib.hid h
  have H2 := Lib.hid h2
  have HB := Lib.hid hb
  have HP := Lib.hid hp
  clear h h2 hb hp
  go_enter Tryz.func59, Tryz.ntmps59
  go_wp2
  go_loopw [0, 8, 14] (fun v0 v8 v14 wr => ∃ (i : Nat) (W : World) (AC : Option Addr) (cC : Nat) (x : List Int) (t : Bool), W = wr ∧ i ≤ ps.length ∧ v14 = .int .i64 i ∧ v0 = .slice AC x.length cC ∧ v8 = .bool t ∧ Rd intT W (fun _ => True) AC cC x ∧ Hid (rightB x = true) ∧ Hid (pickF k ps 0 b = pickF k (ps.drop i) i x) ∧ Bel w W) (fun _ _ v14 _ => ps.length - (intOf v14).toNat)
  case atStart => exact ⟨0, _, A, c, b, false, rfl, Nat.zero_le _, rfl, rfl, rfl, H.out.all, HB.out, rfl, Bel.refl _⟩
  case round =>
    obtain ⟨i, W, AC, cC, x, t, rfl, hi, rfl, rfl, rfl, hx, HX, HF, hbW⟩ := hrel
    by_cases hlt : i < ps.length
    · obtain ⟨ad, Pp, cp, rfl, hpc, hpr⟩ := (H2.out.to hbW).row hlt
      obtain ⟨p, hpe⟩ : ∃ p, ps[i] = p := ⟨_, rfl⟩
      rw [hpe] at hpc hpr
      have hp? : ps[i]? = some p := by rw [List.getElem?_eq_getElem hlt, hpe]
      have HPA := Lib.hid (pickF_at (k := k) (x := x) hp?)
      have HPR := Lib.hid (HP.out p (List.mem_of_getElem? hp?))
      clear hpe hp?
      by_cases hpar : (k / 2 ^ i) % 2 = 1
      · have hbit := bit_odd hpar
        have HPB := Lib.hid hpar
        clear hpar
        have HQ := Lib.hid (bagAdd_c (fun _ => True) _ _ _ _ x p W hx (hpr.mono (fun _ _ => trivial)) _ _ rfl rfl)
        cases ha : (addB x p).2 with
        | true =>
          have HN := Lib.hid (show pickF k ps 0 b = pickF k (ps.drop (i + 1)) (i + 1) (addB x p).1 by rw [HF.out, HPA.out, if_pos HPB.out, if_pos ha])
          have HXR := Lib.hid (addB_right ha)
          rw [ha] at HQ
          obtain ⟨y, hy⟩ : ∃ y, (addB x p).1 = y := ⟨_, rfl⟩
          rw [hy] at HQ HN HXR
          clear hy ha
          go_wp2_with fail
          refine HQ.out.mono ?_
          rintro e w2 ⟨v2, rfl, ho2, hb2⟩
          obtain ⟨A2, c2, rfl, hr2⟩ := ho2.rdAll
          clear ho2
          go_wp2
          go_roundw
          case rel => exact ⟨i + 1, _, A2, c2, y, true, rfl, by omega, by go_num, rfl, rfl, hr2, HXR.out, HN.out, hbW.trans hb2⟩
          case measure => simp [intOf]; omega
        | false =>
          have HN := Lib.hid (show pickF k ps 0 b = none by rw [HF.out, HPA.out, if_pos HPB.out, if_neg (by rw [ha]; decide)])
          rw [ha] at HQ
          clear ha
          go_wp2_with fail
          refine HQ.out.mono ?_
          rintro e w2 ⟨v2, rfl, ho2, hb2⟩
          go_wp2
          go_ret3
          rw [HN.out]
          exact ⟨_, rfl, ⟨none, 0, rfl, Rd.nil _ _ _ _ _ (by decide)⟩, hbW.trans hb2⟩
      · have hbit := bit_even hpar
        have HN := Lib.hid (show pickF k ps 0 b = pickF k (ps.drop (i + 1)) (i + 1) x by rw [HF.out, HPA.out, if_neg hpar])
        clear hpar
        go_wp2
        go_roundw
        case rel => exact ⟨i + 1, _, AC, cC, x, t, rfl, by omega, by go_num, rfl, rfl, hx, HX.out, HN.out, hbW⟩
        case measure => simp [intOf]; omega
    · obtain rfl : i = ps.length := by omega
      have HZ := Lib.hid (show pickF k ps 0 b = some x by rw [HF.out, List.drop_length]; rfl)
      have HLE := Lib.hid (show lettI x 0 = letS x 0 x.length by unfold lettI; rw [if_pos ⟨HX.out, by decide, by decide⟩]; rfl)
      have lx : x.length ≤ 12 := right_len HX.out
      have HOD := Lib.hid (odd_c _ _ _ x W hx HX.out 0 (by decide) 0 rfl _ rfl)
      have HCL := Lib.hid (clone_c _ _ _ x W hx _ rfl (by omega))
      have HNN := Lib.hid (fun i (h : i < x.length) => (right_ok HX.out x[i] (List.getElem_mem h)))
      clear hx
      go_wp2_with fail
      refine HOD.out.mono ?_
      rintro e w2 ⟨rfl, rfl⟩
      go_wp2_with fail
      refine HCL.out.mono ?_
      rintro e w3 ⟨v3, rfl, ho3, hb3⟩
      obtain ⟨A3, c3, rfl⟩ := ho3.form
      have HO3 := Lib.hid ho3
      clear ho3 HOD HCL
      go_wp2
      go_loopw [39] (fun v39 wr => ∃ (q : Nat) (W3 : World), W3 = wr ∧ q ≤ x.length ∧ v39 = .int .i64 q ∧ Own intT 3 W3 W.heap.size (Ge W.heap.size) (.slice A3 x.length c3) (halfTo x q) ∧ Bel W W3) (fun v39 _ => x.length - (intOf v39).toNat)
      case atStart => exact ⟨0, _, rfl, Nat.zero_le _, rfl, HO3.out, hb3⟩
      case round =>
        obtain ⟨q, W3, rfl, hq, rfl, hO, hbq⟩ := hrel
        by_cases hlt2 : q < x.length
        · obtain ⟨g, rfl, hg0, _⟩ := hO.addr (by rw [halfTo_len]; omega)
          obtain ⟨hc1, hf1⟩ := hO.cell (i := q) (by rw [halfTo_len]; exact hlt2)
          obtain ⟨y, hy⟩ : ∃ y, x[q] = y := ⟨_, rfl⟩
          have hgx : (halfTo x q)[q]'(by rw [halfTo_len]; exact hlt2) = y := by
            have := halfTo_get hlt2
            rw [List.getElem?_eq_getElem (by rw [halfTo_len]; exact hlt2), hy] at this
            exact Option.some.inj this
          have hyr := HNN.out q hlt2
          rw [hy] at hyr
          rw [hgx] at hc1
          have HST := Lib.hid (show (halfTo x q).set q (y / 2) = halfTo x (q + 1) by rw [← hy]; exact halfTo_set hlt2)
          have hfar : y ≤ 1152921504606846976 := hyr.2
          have hy0 := hyr.1
          have hdiv : y.tdiv 2 = y / 2 := Int.tdiv_eq_ediv_of_nonneg hy0
          have HO := Lib.hid hO
          clear hy hgx hyr hO
          go_wp2
          go_roundw
          case rel => exact ⟨q + 1, _, rfl, by omega, by go_num, by rw [← HST.out]; exact HO.out.set q _, hbq.set hg0 _⟩
          case measure => simp [intOf]; omega
        · obtain rfl : q = x.length := by omega
          rw [halfTo_all] at hO
          obtain ⟨AZ, cZ, eZ, rZ⟩ := hO.rdGe
          injection eZ with z1 z2 z3
          clear z2
          subst z1 z3
          have HNO := Lib.hid (norm_c _ _ _ (x.map (· / 2)) W3 rZ x.length (List.length_map _).symm (by rw [List.length_map]; omega))
          have HH := Lib.hid (show halfB x = normB (x.map (· / 2)) from rfl)
          have hsq := hbq.size
          have hsw := hbW.size
          clear rZ hO
          go_wp2_with fail
          refine HNO.out.mono ?_
          rintro e w9 ⟨v9, rfl, ho9, hb9⟩
          obtain ⟨A9, c9, rfl, hr9⟩ := ho9.rdGe
          go_wp2
          go_ret3
          rw [HZ.out]
          exact ⟨_, by rw [show (some x).elim 0 (fun b => lettI b 0) = lettI x 0 from rfl, HLE.out]; rfl, ⟨A9, c9, rfl, hr9.mono (fun k hk => by unfold Ge at *; omega)⟩, (hbW.trans hbq).trans hb9⟩
end Go.Proofs.YtmdcgekiiopohaaGreat
