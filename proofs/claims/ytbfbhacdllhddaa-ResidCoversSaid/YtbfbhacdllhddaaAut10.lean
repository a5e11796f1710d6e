/- Walks: an item into rising ones, the document's. -/
import Derived.Test.YtbfbhacdllhddaaAut9
import Derived.Shelf.Spec.SlicesInsert
import Derived.Deep.RegionLaw
set_option linter.unusedVariables false
set_option linter.unusedSimpArgs false
set_option linter.all false
namespace Go.Cb
open Go.RowKit
section
variable {α : Type} {d : Ty α} {e : TypeId} {w : World} {base g n cap : Nat} {S : Nat → Prop} {xs : List α}
/-- A row's end, copied one further. -/
theorem Own.shift (h : Own d e w base S (.slice (some ⟨g, 0, none⟩) n cap) xs) (hn : n = xs.length) {p : Nat} (hp : p < n) :
    ∃ cs, cs.length = (n - 1 - p) * d.sz ∧ (∀ j v, cs[j]? = some v → w.cell? ⟨g, p * d.sz + j, none⟩ = some v) ∧ (∀ j, j < cs.length → (w.cell? ⟨g, (p + 1) * d.sz + j, none⟩).isSome = true) ∧ (∀ j, w.frozen? ⟨g, j, none⟩ = false) ∧ (∀ v ∈ cs, v.oneCell' = true) ∧
      Own d e (w.setCells g ((p + 1) * d.sz) cs) base S (.slice (some ⟨g, 0, none⟩) n cap) (xs.take (p + 1) ++ (xs.drop p).take (n - 1 - p)) ∧ w.grownBy (w.setCells g ((p + 1) * d.sz) cs) (some g) := by
  subst hn
  obtain ⟨inner, ho, hr⟩ := h
  have hil : inner.length = xs.length * d.sz := ho.1
  have h1 : (p + 1) * d.sz ≤ xs.length * d.sz := Nat.mul_le_mul_right _ hp
  have h2 : (xs.length - 1 - p) * d.sz + (p + 1) * d.sz = xs.length * d.sz := by rw [← Nat.add_mul]; congr 1; omega
  have h3 : (p + 1) * d.sz = p * d.sz + d.sz := Nat.succ_mul _ _
  obtain ⟨cs, hcs⟩ : ∃ cs, cs = (inner.drop (p * d.sz)).take ((xs.length - 1 - p) * d.sz) := ⟨_, rfl⟩
  have hcl : cs.length = (xs.length - 1 - p) * d.sz := by rw [hcs, List.length_take, List.length_drop]; omega
  have hcg : ∀ j, j < cs.length → cs[j]? = inner[p * d.sz + j]? := fun j hj => by rw [hcs, List.getElem?_take, if_pos (by omega), List.getElem?_drop]
  have hcell : ∀ i v, inner[i]? = some v → w.cell? ⟨g, i, none⟩ = some v := fun i v hi => by
    have := ho.cells (g := g) rfl i v hi
    rwa [add_plain] at this
  obtain ⟨ho2, hg, _⟩ := ownsRow_setCells cs ((p + 1) * d.sz) w inner ho
  have hget := fun t => setL_get (cs := cs) (xs := inner) (o := (p + 1) * d.sz) (by omega) t
  have keep : ∀ y us, d.rd w (fun k => S k ∧ some k ≠ (Value.slice (some ⟨g, 0, none⟩) xs.length cap).ownBlock) y us → d.rd (w.setCells g ((p + 1) * d.sz) cs) (fun k => S k ∧ some k ≠ (Value.slice (some ⟨g, 0, none⟩) xs.length cap).ownBlock) y us := fun y us hy =>
    d.rd_step hy (fun q hq hlt => hg.block q hlt hq.2)
  have hnl : (xs.take (p + 1) ++ (xs.drop p).take (xs.length - 1 - p)).length = xs.length := by rw [List.length_append, List.length_take, List.length_take, List.length_drop]; omega
  refine ⟨cs, hcl, fun j v hj => ?_, fun j hj => ?_, fun j => World.ownsRow.frozenAt ho j, fun v hv => ?_, ⟨_, by rw [hnl]; exact ho2, fun j y hj => ?_⟩, hg⟩
  · have hjl := (List.getElem?_eq_some_iff.1 hj).1
    rw [hcg j hjl] at hj
    exact hcell _ _ hj
  · obtain ⟨v, hv⟩ : ∃ v, inner[(p + 1) * d.sz + j]? = some v := ⟨_, List.getElem?_eq_getElem (by omega)⟩
    rw [hcell _ _ hv]; rfl
  · obtain ⟨j, hj, rfl⟩ := List.mem_iff_getElem.1 hv
    have hv2 : inner[p * d.sz + j]? = some cs[j] := by rw [← hcg j hj, List.getElem?_eq_getElem hj]
    have hsp := d.pos
    obtain ⟨i, hi⟩ : ∃ i, i = p * d.sz + j := ⟨_, rfl⟩
    rw [← hi] at hv2
    have hil2 := (List.getElem?_eq_some_iff.1 hv2).1
    have hk : i / d.sz < xs.length := (Nat.div_lt_iff_lt_mul hsp).2 (by omega)
    have hm := Nat.mod_lt i hsp
    have hdm := Nat.div_add_mod' i d.sz
    refine d.one (hr (i / d.sz) _ (List.getElem?_eq_getElem hk)) _ (List.mem_iff_getElem?.2 ⟨i % d.sz, ?_⟩)
    rw [List.getElem?_take, if_pos hm, List.getElem?_drop, hdm]
    exact hv2
  · by_cases hjp : j < p + 1
    · have h5 : (j + 1) * d.sz ≤ (p + 1) * d.sz := Nat.mul_le_mul_right _ hjp
      rw [Nat.succ_mul] at h5
      rw [List.getElem?_append_left (by rw [List.length_take]; omega), List.getElem?_take, if_pos hjp] at hj
      have : ((setL inner ((p + 1) * d.sz) cs).drop (j * d.sz)).take d.sz = (inner.drop (j * d.sz)).take d.sz := by
        apply List.ext_getElem?
        intro t
        rw [List.getElem?_take, List.getElem?_take]
        by_cases ht : t < d.sz
        · rw [if_pos ht, if_pos ht, List.getElem?_drop, List.getElem?_drop, hget, if_pos (by omega)]
        · rw [if_neg ht, if_neg ht]
      rw [this]
      exact keep _ _ (hr j y hj)
    · obtain ⟨i, rfl⟩ : ∃ i, j = i + 1 := ⟨j - 1, by omega⟩
      have hjl := (List.getElem?_eq_some_iff.1 hj).1
      rw [hnl] at hjl
      rw [List.getElem?_append_right (by rw [List.length_take]; omega), List.length_take, Nat.min_eq_left (by omega), List.getElem?_take, if_pos (by omega), List.getElem?_drop, show p + (i + 1 - (p + 1)) = i by omega] at hj
      have h5 : p * d.sz ≤ i * d.sz := Nat.mul_le_mul_right _ (by omega)
      have h6 : (i + 1 + 1) * d.sz ≤ xs.length * d.sz := Nat.mul_le_mul_right _ hjl
      rw [Nat.succ_mul, Nat.succ_mul] at h6
      have h7 : (i + 1) * d.sz = i * d.sz + d.sz := Nat.succ_mul _ _
      have : ((setL inner ((p + 1) * d.sz) cs).drop ((i + 1) * d.sz)).take d.sz = (inner.drop (i * d.sz)).take d.sz := by
        apply List.ext_getElem?
        intro t
        rw [List.getElem?_take, List.getElem?_take]
        by_cases ht : t < d.sz
        · rw [if_pos ht, if_pos ht, List.getElem?_drop, List.getElem?_drop, hget, if_neg (by omega), if_pos (by omega), hcg _ (by omega)]
          congr 1; omega
        · rw [if_neg ht, if_neg ht]
      rw [this]
      exact keep _ _ (hr i y hj)
end
theorem Own.drew' {α : Type} {d : Ty α} {e : TypeId} {w : World} {base : Nat} {S : Nat → Prop} {v : Value} {xs : List α} (h : Own d e w base S v xs) : Own d e w.drew base S v xs := h.to ((Bel.refl w).drewN 1)
theorem grown_trans0 {a b : World} {row : Option Nat} (h : a.grownBy b row) (c : World) (hc : c = b.drewN 1) : a.grownBy c row := by
  subst hc
  exact ⟨h.os, h.tape, h.output, h.size, h.block⟩
theorem grown_put {a b c d' e' : World} {own : Option Nat} {g5 n c5 : Nat} (h : a.grownBy b own) (h2 : b.grownBy c own) (h3 : c.grownBy d' (some g5)) (h4 : d'.grownBy e' (some g5)) (hn : (Value.slice (some ⟨g5, 0, none⟩) n c5).ownBlock = own ∨ ∃ x, (Value.slice (some ⟨g5, 0, none⟩) n c5).ownBlock = some x ∧ b.heap.size ≤ x) (hs : a.heap.size ≤ b.heap.size) : a.grownBy e' own := by
  have h12 := grown_trans h h2
  have h34 := grown_trans h3 h4
  refine ⟨h34.os.trans h12.os, h34.tape.trans h12.tape, h34.output.trans h12.output, Nat.le_trans h12.size h34.size, fun k hk hne => (h34.block k (Nat.lt_of_lt_of_le hk h12.size) (fun e => ?_)).trans (h12.block k hk hne)⟩
  injection e with e
  rcases hn with e2 | ⟨x, e2, hx⟩
  · exact hne (by rw [e]; exact e2)
  · have e3 : g5 = x := Option.some.inj e2
    omega
theorem put_list {α : Type} {l : List α} {x z : α} {p : Nat} (hp : p ≤ l.length) : ((l ++ [z]).take (p + 1) ++ ((l ++ [z]).drop p).take (l.length - p)).set p x = l.take p ++ [x] ++ l.drop p := by
  have h2 : ((l ++ [z]).drop p).take (l.length - p) = l.drop p := by
    rw [List.drop_append_of_le_length hp, show l.length - p = (l.drop p).length by rw [List.length_drop]]
    exact List.take_left
  rw [h2]
  obtain ⟨y, hy⟩ : ∃ y, (l ++ [z]).take (p + 1) = l.take p ++ [y] := by
    rcases Nat.lt_or_eq_of_le hp with h | h
    · exact ⟨l[p], by rw [List.take_append_of_le_length (by omega), List.take_add_one, List.getElem?_eq_getElem h]; rfl⟩
    · exact ⟨z, by rw [h, List.take_of_length_le (by simp), List.take_length]⟩
  rw [hy, List.set_append_left _ _ (by rw [List.length_append, List.length_take]; simp; omega), List.set_append_right _ _ (by rw [List.length_take]; omega), List.length_take, Nat.min_eq_left hp, Nat.sub_self]
  rfl
theorem below_lo {l : List Itm} {x : Itm} (hl : GoodO cmpItem (fun x => rightB x.2 = true) l) (hx : rightB x.2 = true) {k : Nat} (hk : k < l.length) (h : cmpItem l[k] x < 0) : belowO cmpItem l x (k + 1) := fun i hi hil => by
  rcases Nat.lt_or_eq_of_le (Nat.le_of_lt_succ hi) with h1 | h1
  · have h2 : cmpItem l[i] l[k] < 0 := List.pairwise_iff_getElem.1 hl.up i k hil hk h1
    exact itemO.ltt (hl.each _ (List.getElem_mem hil)) (hl.each _ (List.getElem_mem hk)) hx h2 h
  · subst h1; exact h
theorem above_hi {l : List Itm} {x : Itm} (hl : GoodO cmpItem (fun x => rightB x.2 = true) l) (hx : rightB x.2 = true) {k : Nat} (hk : k < l.length) (h : ¬ cmpItem l[k] x < 0) : ∀ i, k ≤ i → ∀ hi : i < l.length, 0 ≤ cmpItem l[i] x := fun i hi hil => Int.not_lt.1 fun h2 => by
  rcases Nat.lt_or_eq_of_le hi with h1 | h1
  · have h3 : cmpItem l[k] l[i] < 0 := List.pairwise_iff_getElem.1 hl.up k i hk hil h1
    exact h (itemO.ltt (hl.each _ (List.getElem_mem hk)) (hl.each _ (List.getElem_mem hil)) hx h3 h2)
  · subst h1; exact h h2
end Go.Cb
namespace Go.Proofs.Ytbfbhacdllhddaa
open Go.RowKit Go.Cb Go.Sort
set_option maxRecDepth 100000 in
set_option maxHeartbeats 16000000 in
theorem putItem_c (base n c cx : Nat) (A Ax : Option Addr) (l : List Itm) (x : Itm) (w : World) (hO : Own itemT 76 w base (Ge base) (.slice A n c) l) (hn : n = l.length) (hb : base ≤ w.heap.size) (m : Nat) (hm : m = x.2.length)
    (hx : Rd intT w (fun k => Ge base k ∧ some k ≠ (Value.slice A n c).ownBlock) Ax cx x.2) (hl : GoodO cmpItem (fun x => rightB x.2 = true) l) (hxr : rightB x.2 = true) (hlen : l.length ≤ 4398046511102) :
    Calls Try.prog 47 #[.slice A n c, .agg #[.int .i64 x.1, .slice Ax m cx]] w fun e w' => ∃ v, e = .returned v ∧ Own itemT 76 w' base (Ge base) v (putO cmpItem l x) ∧ w.grownBy w' (Value.slice A n c).ownBlock ∧ (v.ownBlock = (Value.slice A n c).ownBlock ∨ ∃ b, v.ownBlock = some b ∧ w.heap.size ≤ b) := by
  subst hn hm
  obtain ⟨j, b⟩ := x
  dsimp only at *
  have HGL := Lib.hid hl
  have HXR := Lib.hid (show rightB ((j, b) : Itm).2 = true from hxr)
  have hal : Bel w (w.alloc (.cells #[.int .i64 j, .slice Ax b.length cx] 76)) := (Bel.refl _).alloc _
  have X := Box.new w 76 (.int .i64 j) (.slice Ax b.length cx)
  have HO := Lib.hid (hO.to hal)
  have HX := Lib.hid (hx.to hal)
  have HAL := Lib.hid hal
  have HOL := Lib.hid (fun k hk => hO.lt (k := k) hk)
  have hs1 := hal.size
  clear hl hxr hO hx hal
  go_enter Try.func47, Try.ntmps47
  go_wp2_with fail
  generalize w.alloc (.cells #[.int .i64 j, .slice Ax b.length cx] 76) = W1 at *
  have hXl := X.lt
  obtain ⟨TG, hTG⟩ : ∃ TG, w.heap.size = TG := ⟨_, rfl⟩
  rw [hTG] at X HOL hXl ⊢
  go_loopw [5, 6] (fun v5 v6 wr => ∃ (lo hi : Nat) (W : World), W = wr ∧ lo ≤ hi ∧ hi ≤ l.length ∧ v5 = .int .i64 lo ∧ v6 = .int .i64 hi ∧ Hid (belowO cmpItem l (j, b) lo) ∧ Hid (∀ i, hi ≤ i → ∀ h : i < l.length, 0 ≤ cmpItem l[i] (j, b)) ∧ Bel W1 W) (fun v5 v6 _ => (intOf v6).toNat - (intOf v5).toNat)
  case atStart => exact ⟨0, l.length, _, rfl, Nat.zero_le _, Nat.le_refl _, rfl, rfl, belowO_zero _ _, (fun i h1 h2 => absurd h2 (by omega) : ∀ i, l.length ≤ i → ∀ h : i < l.length, 0 ≤ cmpItem l[i] (j, b)), Bel.refl _⟩
  case round =>
    obtain ⟨lo, hi, W, rfl, hlh, hhi, rfl, rfl, HB, HA, hbW⟩ := hrel
    by_cases hlt : lo < hi
    · obtain ⟨k, hk⟩ : ∃ k, (lo + hi) / 2 = k := ⟨_, rfl⟩
      have hkl : lo ≤ k := by omega
      have hkh : k < hi := by omega
      have hq : ((lo : Int) + (hi : Int)).tdiv 2 = (k : Int) := by rw [Int.tdiv_eq_ediv_of_nonneg (by omega)]; omega
      clear hk
      obtain ⟨g, A1, c1, rfl, hg1, hg2, x0, x1, r1, _⟩ := own_irow (HO.out.to hbW) (k := k) (by omega)
      obtain ⟨y, hy⟩ : ∃ y, l[k] = y := ⟨_, rfl⟩
      have HY := Lib.hid hy
      rw [hy] at x0 x1 r1
      obtain ⟨z0, z1, _, _⟩ := (X.to hbW).cells
      have X0 := cellReg x0
      have X1 := cellReg x1
      have Z0 := cellReg z0
      have Z1 := cellReg z1
      have HR := Lib.hid (HX.out.to hbW)
      obtain ⟨z, hz⟩ : ∃ z, lessI y (j, b) = z := ⟨_, rfl⟩
      have K1 := Lib.hid (show ∀ W', Bel W W' → Calls Try.prog 56 #[.agg #[.int .i64 y.1, .slice A1 y.2.length c1], .agg #[.int .i64 j, .slice Ax b.length cx]] W' fun e w' => e = .returned (.bool z) ∧ Bel W' w' from fun W' h => by
        have := lessItem_c _ _ _ _ _ _ y (j, b) W' (r1.to h) (HR.out.to h) _ _ rfl rfl
        rwa [hz] at this)
      clear hy x0 x1 z0 z1 r1
      go_wp2_with fail
      refine wp_region_quiet_below (by kernel_rfl) (by kernel_rfl) ?_
      repeat (go_big_quiet_step (first | with_reducible exact callsReg K1.out))
      refine wpQuiet_nil ?_
      intro _ hw'
      obtain ⟨⟨dq, oq⟩, hw''⟩ := hw'
      subst hw''
      have hbW2 := hbW.trans (bel_regrown W dq oq)
      clear K1 X0 X1 Z0 Z1
      cases z with
      | true =>
        have HB2 := Lib.hid (below_lo HGL.out HXR.out (k := k) (by omega) (by rw [HY.out]; exact of_decide_eq_true hz))
        clear hz
        go_wp2
        go_roundw
        case rel => exact ⟨k + 1, hi, _, rfl, by omega, hhi, by go_num, rfl, HB2.out, HA.out, hbW2⟩
        case measure => simp [intOf]; omega
      | false =>
        have HA2 := Lib.hid (above_hi HGL.out HXR.out (k := k) (by omega) (by rw [HY.out]; exact of_decide_eq_false hz))
        clear hz
        go_wp2
        go_roundw
        case rel => exact ⟨lo, k, _, rfl, hkl, by omega, rfl, rfl, HB.out, HA2.out, hbW2⟩
        case measure => simp [intOf]; omega
    · obtain rfl : lo = hi := by omega
      have hsW := hbW.size
      by_cases hll : lo < l.length
      · obtain ⟨g, A1, c1, rfl, hg1, hg2, x0, x1, r1, _⟩ := own_irow (HO.out.to hbW) hll
        obtain ⟨y, hy⟩ : ∃ y, l[lo] = y := ⟨_, rfl⟩
        have HY := Lib.hid hy
        rw [hy] at x0 x1 r1
        obtain ⟨z0, z1, _, _⟩ := (X.to hbW).cells
        have X0 := cellReg x0
        have X1 := cellReg x1
        have Z0 := cellReg z0
        have Z1 := cellReg z1
        have HR := Lib.hid (HX.out.to hbW)
        obtain ⟨z, hz⟩ : ∃ z, lessI (j, b) y = z := ⟨_, rfl⟩
        have K1 := Lib.hid (show ∀ W', Bel W W' → Calls Try.prog 56 #[.agg #[.int .i64 j, .slice Ax b.length cx], .agg #[.int .i64 y.1, .slice A1 y.2.length c1]] W' fun e w' => e = .returned (.bool z) ∧ Bel W' w' from fun W' h => by
          have := lessItem_c _ _ _ _ _ _ (j, b) y W' (HR.out.to h) (r1.to h) _ _ rfl rfl
          rwa [hz] at this)
        clear hy x0 x1 z0 z1 r1
        go_wp2_with fail
        refine wp_region_quiet_below (by kernel_rfl) (by kernel_rfl) ?_
        repeat (go_big_quiet_step (first | with_reducible exact callsReg K1.out))
        refine wpQuiet_nil ?_
        intro _ hw'
        obtain ⟨⟨dq, oq⟩, hw''⟩ := hw'
        subst hw''
        have hbW2 := hbW.trans (bel_regrown W dq oq)
        clear K1 X0 X1 Z0 Z1
        cases z with
        | false =>
          have HE := Lib.hid (show putO cmpItem l (j, b) = l from putO_same hll HB.out (by
            have h1 := HA.out lo (Nat.le_refl _) hll
            have h2 : ¬ cmpItem (j, b) l[lo] < 0 := by rw [HY.out]; exact of_decide_eq_false hz
            have h3 := cmpItem_neg l[lo] (j, b)
            omega))
          have HO2 := Lib.hid (HO.out.to hbW2)
          have hs2 := hbW2.size
          have HBF := Lib.hid (HAL.out.trans hbW2)
          clear hz
          go_wp2
          go_ret
          rw [HE.out]
          exact ⟨_, rfl, HO2.out, bel_grown HBF.out, .inl rfl⟩
        | true =>
          have HE := Lib.hid (show putO cmpItem l (j, b) = l.take lo ++ [(j, b)] ++ l.drop lo from putO_in (by omega) HB.out (fun h => by
            have h2 : cmpItem (j, b) l[lo] < 0 := by rw [HY.out]; exact of_decide_eq_true hz
            have h3 := cmpItem_neg l[lo] (j, b)
            omega))
          clear hz HA HB HY
          generalize (grow (redrawn W dq) oq) = W2 at *
          have HO2 := Lib.hid (HO.out.to hbW2)
          have hs2 := hbW2.size
          go_wp2_with (at_builtin; refine wp_append1d itemT base 27 76 (.agg #[.int .i64 0, .slice none 0 0]) 32 rfl _ _ rfl Try.underlying27 info_item rfl (Ge base) (.slice (some ⟨g, 0, none⟩) l.length c) l ((0 : Int), []) [.int .i64 0, .slice none 0 0] _ rfl rfl rfl HO2.out (by omega) ⟨[_], [_], rfl, rfl, ⟨none, 0, rfl, Rd.nil _ _ _ _ _ (by decide)⟩⟩ (by unfold maxLen; omega) (by omega) ?_; rintro v5 w5 ho5 hg5 hn5; obtain ⟨A5, c5, hv5⟩ := ho5.form; rw [List.length_append, List.length_singleton] at hv5; subst hv5)
          have hll5 : (l ++ [((0 : Int), ([] : List Int))]).length = l.length + 1 := by rw [List.length_append]; rfl
          obtain ⟨g5, rfl, hg5b, hg5l⟩ := ho5.addr (by omega)
          have hTG5 : TG ≠ g5 := by
            intro e9
            subst e9
            rcases hn5 with e | ⟨b9, e, he9⟩
            · have := HOL.out TG e.symm; omega
            · exact absurd (show TG = b9 from Option.some.inj e) (by omega)
          have hX5 : Go.Cb.Box w5 76 TG (.int .i64 j) (.slice Ax b.length cx) := (hg5.block TG (by omega) (fun e => by have := HOL.out TG e.symm; omega)).trans (X.to hbW2)
          have hcap5 : l.length + 1 ≤ c5 ∧ c5 ≤ 9223372036854775807 := by
            obtain ⟨A', c', he, hr⟩ := ho5.rd
            injection he with e1 e2 e3
            have h1 := hr.cap
            have h2 := hr.capMax
            unfold maxLen at h2
            subst e3
            omega
          obtain ⟨hcap5a, hcap5b⟩ := hcap5
          obtain ⟨cs, hcl, hsrc, hdst, hfz, hone, hO6, hG6⟩ := Own.shift (ho5.drew') hll5.symm (p := lo) (by omega)
          have hcl2 : cs.length = (l.length - lo) * 2 := hcl.trans (by show (l.length + 1 - 1 - lo) * 2 = _; omega)
          have hcp : ∀ (W : World) (dc sc : Nat), W.heap = w5.heap → (Builtin.copy_ #[27, 27] 3 #[.slice (some ⟨g5, (lo + 1) * 2, none⟩) (l.length - lo) dc, .slice (some ⟨g5, lo * 2, none⟩) (l.length + 1 - lo) sc]).run Try.prog W = .ok (goInt (l.length - lo : Nat)) (W.setCells g5 ((lo + 1) * 2) cs) := fun W dc sc hW =>
            run_copy_k W _ _ _ 76 g5 ((lo + 1) * 2) (l.length - lo) dc ⟨g5, lo * 2, none⟩ (l.length + 1 - lo) sc (l.length - lo) 2 cs Try.underlying27 (by kernel_rfl) (by simp only [Nat.min_def]; split <;> omega) hcl2
              (fun i v hv => by
                have := hsrc i v hv
                rw [show ((⟨g5, lo * 2, none⟩ : Addr).add i) = ⟨g5, lo * 2 + i, none⟩ from by unfold Addr.add; split <;> simp_all]
                unfold World.cell? at this ⊢
                rw [hW]; exact this) (fun i hi => by
                have := hdst i hi
                unfold World.cell? at this ⊢
                rw [hW]; exact this) (fun i hi => by
                have := hfz ((lo + 1) * 2 + i)
                unfold World.frozen? at this ⊢
                rw [hW]; exact this) hone
          have hX6 : Go.Cb.Box (w5.drew.setCells g5 ((lo + 1) * 2) cs) 76 TG (.int .i64 j) (.slice Ax b.length cx) := (hG6.block TG (by show TG < w5.heap.size; exact hX5.lt) (fun e => hTG5 (by injection e))).trans hX5
          obtain ⟨b0, b1, _, _⟩ := hX6.cells
          have hRX := HX.out.to hbW2
          have hRX6 : Rd intT (w5.drew.setCells g5 ((lo + 1) * 2) cs) (fun k => Ge base k ∧ k ≠ g5) Ax cx b := ((hRX.bound.step' (fun k hk => (hG6.block k (by show k < w5.heap.size; have := hg5.size; omega) (fun e => by
              injection e with e
              rcases hn5 with e2 | ⟨b9, e2, he9⟩
              · exact hk.1.2 (by rw [e]; exact e2)
              · exact absurd (show g5 = b9 from Option.some.inj e2) (by omega))).trans (hg5.block k hk.2 hk.1.2))).mono (fun k hk => ⟨hk.1.1, fun e => by
              rcases hn5 with e2 | ⟨b9, e2, he9⟩
              · exact hk.1.2 (by rw [e]; exact e2)
              · exact absurd (show g5 = b9 from Option.some.inj e2) (by omega)⟩))
          have hlen6 : (((l ++ [((0 : Int), ([] : List Int))]).take (lo + 1)) ++ ((l ++ [((0 : Int), ([] : List Int))]).drop lo).take (l.length + 1 - 1 - lo)).length = l.length + 1 := by rw [List.length_append, List.length_take, List.length_take, List.length_drop, hll5]; omega
          replace hO6 : Own itemT 76 (w5.drew.setCells g5 ((lo + 1) * 2) cs) base (Ge base) _ _ := hO6
          replace hG6 : w5.drew.grownBy (w5.drew.setCells g5 ((lo + 1) * 2) cs) _ := hG6
          obtain ⟨g9, A9, c9, e9, _, _, y60, y61, _, hfz6⟩ := own_irow hO6 (k := lo) (by rw [hlen6]; omega)
          obtain rfl : g5 = g9 := by injection e9 with e9; injection e9
          obtain ⟨hO7, hG7⟩ := Own.setK hO6 hlen6.symm (i := lo) (by omega) (x := ((j, b) : Itm)) (us := [.int .i64 j, .slice Ax b.length cx]) rfl ⟨[_], [_], rfl, rfl, ⟨Ax, cx, rfl, hRX6⟩⟩
          rw [show l.length + 1 - 1 - lo = l.length - lo by omega, put_list (by omega), ← HE.out] at hO7
          have HO7 := Lib.hid hO7
          have HG7 := Lib.hid (show w.grownBy _ (Value.slice (some ⟨g, 0, none⟩) l.length c).ownBlock from grown_put (bel_grown (HAL.out.trans hbW2)) (grown_trans0 hg5 w5.drew rfl) hG6 hG7 hn5 (by omega))
          have HN5 := Lib.hid (show _ ∨ ∃ b, (Value.slice (some ⟨g5, 0, none⟩) (l.length + 1) c5).ownBlock = some b ∧ w.heap.size ≤ b from hn5.imp id (fun ⟨b9, e9, h9⟩ => ⟨b9, e9, by omega⟩))
          have HCP := Lib.hid hcp
          have mixed : Try.prog.follows .mixedOrders = true := by kernel_rfl
          have hw1 : IntKind.i64.wrap ((lo : Int) + 1) = (lo : Int) + 1 := by rw [IntKind.wrap_i64]; omega
          have htn : ((lo : Int) + 1).toNat = lo + 1 := by omega
          have hbb1 : (0 : Int) ≤ (lo : Int) + 1 := by omega
          have hbb2 : (lo : Int) + 1 ≤ (l.length : Int) + 1 := by omega
          have hbb3 : (lo : Int) ≤ (l.length : Int) + 1 := by omega
          have hbb4 : ¬ (c5 = lo) := by omega
          have hbb5 : ¬ (c5 = lo + 1) := by omega
          clear e9 hO6 hG6 hO7 hG7 hn5 hcp hsrc hdst hfz hone hcl hcl2 hRX hRX6 hX6 hX5 ho5 hg5
          go_wp2_with fail
          go_region_law (refine step_copy_runI rfl (.tmp 47) (.tmp 50) 27 27 rfl (.slice (some ⟨g5, (lo + 1) * 2, none⟩) (l.length - lo) (c5 - (lo + 1))) (.slice (some ⟨g5, lo * 2, none⟩) (l.length + 1 - lo) (c5 - lo)) (by simp [Act.eval, Act.put] <;> omega) (by simp [Act.eval, Act.put] <;> omega) (HCP.out _ _ _ rfl) ?_)
          generalize w5.drew.setCells g5 ((lo + 1) * 2) cs = W6 at *
          go_wp2
          go_ret
          exact ⟨_, rfl, HO7.out, HG7.out, HN5.out⟩
      · have hdl : decide ((lo : Int) < (l.length : Int)) = false := decide_eq_false (by omega)
        have HE := Lib.hid (show putO cmpItem l (j, b) = l.take lo ++ [(j, b)] ++ l.drop lo from putO_in (by omega) HB.out (fun h => absurd h (by omega)))
        go_wp2_with fail
        refine wp_region_quiet_below (by kernel_rfl) (by kernel_rfl) ?_
        repeat (go_big_quiet_step (fail))
        refine wpQuiet_nil ?_
        intro _ hw'
        obtain ⟨⟨dq, oq⟩, hw''⟩ := hw'
        subst hw''
        have hbW2 := hbW.trans (bel_regrown W dq oq)
        clear HA HB
        generalize (grow (redrawn W dq) oq) = W2 at *
        have HO2 := Lib.hid (HO.out.to hbW2)
        have hs2 := hbW2.size
        go_wp2_with (at_builtin; refine wp_append1d itemT base 27 76 (.agg #[.int .i64 0, .slice none 0 0]) 32 rfl _ _ rfl Try.underlying27 info_item rfl (Ge base) (.slice A l.length c) l ((0 : Int), []) [.int .i64 0, .slice none 0 0] _ rfl rfl rfl HO2.out (by omega) ⟨[_], [_], rfl, rfl, ⟨none, 0, rfl, Rd.nil _ _ _ _ _ (by decide)⟩⟩ (by unfold maxLen; omega) (by omega) ?_; rintro v5 w5 ho5 hg5 hn5; obtain ⟨A5, c5, hv5⟩ := ho5.form; rw [List.length_append, List.length_singleton] at hv5; subst hv5)
        have hll5 : (l ++ [((0 : Int), ([] : List Int))]).length = l.length + 1 := by rw [List.length_append]; rfl
        obtain ⟨g5, rfl, hg5b, hg5l⟩ := ho5.addr (by omega)
        have hTG5 : TG ≠ g5 := by
          intro e9
          subst e9
          rcases hn5 with e | ⟨b9, e, he9⟩
          · have := HOL.out TG e.symm; omega
          · exact absurd (show TG = b9 from Option.some.inj e) (by omega)
        have hX5 : Go.Cb.Box w5 76 TG (.int .i64 j) (.slice Ax b.length cx) := (hg5.block TG (by omega) (fun e => by have := HOL.out TG e.symm; omega)).trans (X.to hbW2)
        have hcap5 : l.length + 1 ≤ c5 ∧ c5 ≤ 9223372036854775807 := by
          obtain ⟨A', c', he, hr⟩ := ho5.rd
          injection he with e1 e2 e3
          have h1 := hr.cap
          have h2 := hr.capMax
          unfold maxLen at h2
          subst e3
          omega
        obtain ⟨hcap5a, hcap5b⟩ := hcap5
        obtain ⟨cs, hcl, hsrc, hdst, hfz, hone, hO6, hG6⟩ := Own.shift (ho5.drew') hll5.symm (p := lo) (by omega)
        have hcl2 : cs.length = (l.length - lo) * 2 := hcl.trans (by show (l.length + 1 - 1 - lo) * 2 = _; omega)
        have hcp : ∀ (W : World) (dc sc : Nat), W.heap = w5.heap → (Builtin.copy_ #[27, 27] 3 #[.slice (some ⟨g5, (lo + 1) * 2, none⟩) (l.length - lo) dc, .slice (some ⟨g5, lo * 2, none⟩) (l.length + 1 - lo) sc]).run Try.prog W = .ok (goInt (l.length - lo : Nat)) (W.setCells g5 ((lo + 1) * 2) cs) := fun W dc sc hW =>
          run_copy_k W _ _ _ 76 g5 ((lo + 1) * 2) (l.length - lo) dc ⟨g5, lo * 2, none⟩ (l.length + 1 - lo) sc (l.length - lo) 2 cs Try.underlying27 (by kernel_rfl) (by simp only [Nat.min_def]; split <;> omega) hcl2
            (fun i v hv => by
              have := hsrc i v hv
              rw [show ((⟨g5, lo * 2, none⟩ : Addr).add i) = ⟨g5, lo * 2 + i, none⟩ from by unfold Addr.add; split <;> simp_all]
              unfold World.cell? at this ⊢
              rw [hW]; exact this) (fun i hi => by
              have := hdst i hi
              unfold World.cell? at this ⊢
              rw [hW]; exact this) (fun i hi => by
              have := hfz ((lo + 1) * 2 + i)
              unfold World.frozen? at this ⊢
              rw [hW]; exact this) hone
        have hX6 : Go.Cb.Box (w5.drew.setCells g5 ((lo + 1) * 2) cs) 76 TG (.int .i64 j) (.slice Ax b.length cx) := (hG6.block TG (by show TG < w5.heap.size; exact hX5.lt) (fun e => hTG5 (by injection e))).trans hX5
        obtain ⟨b0, b1, _, _⟩ := hX6.cells
        have hRX := HX.out.to hbW2
        have hRX6 : Rd intT (w5.drew.setCells g5 ((lo + 1) * 2) cs) (fun k => Ge base k ∧ k ≠ g5) Ax cx b := ((hRX.bound.step' (fun k hk => (hG6.block k (by show k < w5.heap.size; have := hg5.size; omega) (fun e => by
            injection e with e
            rcases hn5 with e2 | ⟨b9, e2, he9⟩
            · exact hk.1.2 (by rw [e]; exact e2)
            · exact absurd (show g5 = b9 from Option.some.inj e2) (by omega))).trans (hg5.block k hk.2 hk.1.2))).mono (fun k hk => ⟨hk.1.1, fun e => by
            rcases hn5 with e2 | ⟨b9, e2, he9⟩
            · exact hk.1.2 (by rw [e]; exact e2)
            · exact absurd (show g5 = b9 from Option.some.inj e2) (by omega)⟩))
        have hlen6 : (((l ++ [((0 : Int), ([] : List Int))]).take (lo + 1)) ++ ((l ++ [((0 : Int), ([] : List Int))]).drop lo).take (l.length + 1 - 1 - lo)).length = l.length + 1 := by rw [List.length_append, List.length_take, List.length_take, List.length_drop, hll5]; omega
        replace hO6 : Own itemT 76 (w5.drew.setCells g5 ((lo + 1) * 2) cs) base (Ge base) _ _ := hO6
        replace hG6 : w5.drew.grownBy (w5.drew.setCells g5 ((lo + 1) * 2) cs) _ := hG6
        obtain ⟨g9, A9, c9, e9, _, _, y60, y61, _, hfz6⟩ := own_irow hO6 (k := lo) (by rw [hlen6]; omega)
        obtain rfl : g5 = g9 := by injection e9 with e9; injection e9
        obtain ⟨hO7, hG7⟩ := Own.setK hO6 hlen6.symm (i := lo) (by omega) (x := ((j, b) : Itm)) (us := [.int .i64 j, .slice Ax b.length cx]) rfl ⟨[_], [_], rfl, rfl, ⟨Ax, cx, rfl, hRX6⟩⟩
        rw [show l.length + 1 - 1 - lo = l.length - lo by omega, put_list (by omega), ← HE.out] at hO7
        have HO7 := Lib.hid hO7
        have HG7 := Lib.hid (show w.grownBy _ (Value.slice A l.length c).ownBlock from grown_put (bel_grown (HAL.out.trans hbW2)) (grown_trans0 hg5 w5.drew rfl) hG6 hG7 hn5 (by omega))
        have HN5 := Lib.hid (show _ ∨ ∃ b, (Value.slice (some ⟨g5, 0, none⟩) (l.length + 1) c5).ownBlock = some b ∧ w.heap.size ≤ b from hn5.imp id (fun ⟨b9, e9, h9⟩ => ⟨b9, e9, by omega⟩))
        have HCP := Lib.hid hcp
        have hBN : l.length - lo = 0 := by omega
        by_cases hc9 : c5 = lo + 1
        · subst hc9
          have mixed : Try.prog.follows .mixedOrders = true := by kernel_rfl
          have hw1 : IntKind.i64.wrap ((lo : Int) + 1) = (lo : Int) + 1 := by rw [IntKind.wrap_i64]; omega
          have htn : ((lo : Int) + 1).toNat = lo + 1 := by omega
          have hbb1 : (0 : Int) ≤ (lo : Int) + 1 := by omega
          have hbb2 : (lo : Int) + 1 ≤ (l.length : Int) + 1 := by omega
          have hbb3 : (lo : Int) ≤ (l.length : Int) + 1 := by omega
          have hbb4 : ¬ (lo + 1 = lo) := by omega
          have hcs : cs = [] := List.eq_nil_of_length_eq_zero (by omega)
          have HCP9 := Lib.hid (show ∀ (W : World) (dc sc : Nat), W.heap = w5.heap → (Builtin.copy_ #[27, 27] 3 #[.slice (some ⟨g5, 0, none⟩) (l.length - lo) dc, .slice (some ⟨g5, lo * 2, none⟩) (l.length + 1 - lo) sc]).run Try.prog W = .ok (goInt (l.length - lo : Nat)) (W.setCells g5 ((lo + 1) * 2) cs) from fun W dc sc hW => by
            have h9 := run_copy_k (P := Try.prog) W 27 27 3 76 g5 0 (l.length - lo) dc ⟨g5, lo * 2, none⟩ (l.length + 1 - lo) sc (l.length - lo) 2 [] Try.underlying27 (by kernel_rfl) (by simp only [Nat.min_def]; split <;> omega) (by simp; omega) (fun i v hv => by simp at hv) (fun i hi => by simp at hi) (fun i hi => by simp at hi) (fun v hv => by simp at hv)
            rw [hcs]; exact h9)
          clear hcs
          clear e9 hO6 hG6 hO7 hG7 hn5 hcp hsrc hdst hfz hone hcl hcl2 hRX hRX6 hX6 hX5 ho5 hg5
          go_wp2_with fail
          go_region_law (refine step_copy_runI rfl (.tmp 47) (.tmp 50) 27 27 rfl (.slice (some ⟨g5, 0, none⟩) (l.length - lo) (lo + 1 - (lo + 1))) (.slice (some ⟨g5, lo * 2, none⟩) (l.length + 1 - lo) (lo + 1 - lo)) (by simp [Act.eval, Act.put] <;> omega) (by simp [Act.eval, Act.put] <;> omega) (HCP9.out _ _ _ rfl) ?_)
          generalize w5.drew.setCells g5 ((lo + 1) * 2) cs = W6 at *
          go_wp2
          go_ret
          exact ⟨_, rfl, HO7.out, HG7.out, HN5.out⟩
        · have hq0 : True := trivial
          have mixed : Try.prog.follows .mixedOrders = true := by kernel_rfl
          have hw1 : IntKind.i64.wrap ((lo : Int) + 1) = (lo : Int) + 1 := by rw [IntKind.wrap_i64]; omega
          have htn : ((lo : Int) + 1).toNat = lo + 1 := by omega
          have hbb1 : (0 : Int) ≤ (lo : Int) + 1 := by omega
          have hbb2 : (lo : Int) + 1 ≤ (l.length : Int) + 1 := by omega
          have hbb3 : (lo : Int) ≤ (l.length : Int) + 1 := by omega
          have hbb4 : ¬ (c5 = lo) := by omega
          have hbb5 : ¬ (c5 = lo + 1) := hc9
          clear e9 hO6 hG6 hO7 hG7 hn5 hcp hsrc hdst hfz hone hcl hcl2 hRX hRX6 hX6 hX5 ho5 hg5
          go_wp2_with fail
          go_region_law (refine step_copy_runI rfl (.tmp 47) (.tmp 50) 27 27 rfl (.slice (some ⟨g5, (lo + 1) * 2, none⟩) (l.length - lo) (c5 - (lo + 1))) (.slice (some ⟨g5, lo * 2, none⟩) (l.length + 1 - lo) (c5 - lo)) (by simp [Act.eval, Act.put] <;> omega) (by simp [Act.eval, Act.put] <;> omega) (HCP.out _ _ _ rfl) ?_)
          generalize w5.drew.setCells g5 ((lo + 1) * 2) cs = W6 at *
          go_wp2
          go_ret
          exact ⟨_, rfl, HO7.out, HG7.out, HN5.out⟩
end Go.Proofs.Ytbfbhacdllhddaa
