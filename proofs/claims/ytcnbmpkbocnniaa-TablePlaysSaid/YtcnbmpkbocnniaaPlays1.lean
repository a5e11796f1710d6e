/- Walks for TablePlays: a plain list beside a table. -/
import Derived.Test.YtcnbmpkbocnniaaTab9
import Derived.Test.YtcnbmpkbocnniaaBag6
namespace Go.Cb
open Go.RowKit
def keptT : Ty (Int × Int) := two intT intT
theorem kept_rd {w : World} {S : Nat → Prop} {x : Int × Int} {cs : List Value} : keptT.rd w S x cs ↔ cs = [.int .i64 x.1, .int .i64 x.2] := by
  constructor
  · rintro ⟨c0, c1, rfl, h0, h1⟩
    have e0 : c0 = [Value.int .i64 x.1] := h0
    have e1 : c1 = [Value.int .i64 x.2] := h1
    rw [e0, e1]; rfl
  · rintro rfl
    exact ⟨[_], [_], rfl, rfl, rfl⟩
theorem flat2_of {inner : List Value} : ∀ {xs : List (Int × Int)}, inner.length = xs.length * 2 → (∀ j x, xs[j]? = some x → (inner.drop (j * 2)).take 2 = [.int .i64 x.1, .int .i64 x.2]) → inner = flat2 (Value.int .i64) (Value.int .i64) xs := by
  intro xs
  induction xs generalizing inner with
  | nil => intro hl _; exact List.eq_nil_of_length_eq_zero (by simpa using hl)
  | cons x xs ih =>
    intro hl hr
    rw [List.length_cons] at hl
    rcases inner with _ | ⟨a, _ | ⟨b, inner⟩⟩
    · simp at hl
    · simp at hl; omega
    · have h0 := hr 0 x rfl
      simp at h0
      rw [flat2_cons, ← ih (inner := inner) (by simp at hl; omega) (fun j y hy => by
        have := hr (j + 1) y (by simpa using hy)
        rw [show (j + 1) * 2 = j * 2 + 1 + 1 by omega] at this
        simpa using this), h0.1, h0.2]
theorem kept_row {e : TypeId} {w : World} {base : Nat} {S : Nat → Prop} {v : Value} {xs : List (Int × Int)} (h : Own keptT e w base S v xs) : RowP (Value.int .i64) (Value.int .i64) e w base v xs := by
  obtain ⟨inner, ho, hr⟩ := h
  have hl := ho.1
  have e1 := flat2_of hl (fun j x hj => kept_rd.1 (hr j x hj))
  unfold RowP
  rw [← e1]
  exact ho
theorem kept_own {e : TypeId} {w : World} {base : Nat} {S : Nat → Prop} {v : Value} {xs : List (Int × Int)} (h : RowP (Value.int .i64) (Value.int .i64) e w base v xs) : Own keptT e w base S v xs := by
  refine ⟨_, h, fun j x hj => kept_rd.2 ?_⟩
  show ((flat2 _ _ xs).drop (j * 2)).take 2 = _
  have hlt := (List.getElem?_eq_some_iff.1 hj).1
  rw [flat2_drop, List.drop_eq_getElem_cons hlt, flat2_cons, (List.getElem?_eq_some_iff.1 hj).2]
  rfl
theorem RowP.prefix_ {κ β : Type} {eK : κ → Value} {eV : β → Value} {e : TypeId} {w : World} {base g n c : Nat} {xs : List (κ × β)} (h : RowP eK eV e w base (.slice (some ⟨g, 0, none⟩) n c) xs) (hn : n = xs.length) {i : Nat} (hi : i ≤ n) : RowP eK eV e w base (.slice (some ⟨g, 0, none⟩) i c) (xs.take i) := by
  subst hn
  have h1 := ownsRow_prefix h hi
  unfold RowP
  rw [← flat2_take, List.length_take, Nat.min_eq_left hi]
  exact h1
theorem Tab.grown {κ β : Type} {eK : κ → Value} {eV : β → Value} {T e : TypeId} {w w' : World} {base g : Nat} {v : Value} {xs : List (κ × β)} {row : Option Nat} (h : Tab eK eV T e w base g v xs) (hg : w.grownBy w' row) (h1 : row ≠ some g) (h2 : ∀ q, v.ownBlock = some q → row ≠ some q) : Tab eK eV T e w' base g v xs :=
  ⟨(hg.block g h.lt (fun e => h1 e.symm)).trans h.box, h.low, h.row.step (fun k hk => hg.block k (World.ownsRow.lt h.row k hk).2 (fun e => h2 k hk e.symm)), h.ne⟩
theorem cmpI_ltd {a b : Int} : decide (a < b) = decide (cmpI a b < 0) := by
  have := cmpI_neg1 (a := a) (b := b)
  have := cmpI_range a b
  by_cases h : a < b
  · rw [decide_eq_true h, decide_eq_true]
    have := this; rw [cmpI_lt h]; omega
  · rw [decide_eq_false h, decide_eq_false]
    intro h2
    have e : cmpI a b = -1 := by omega
    exact h (cmpI_neg1.1 e)
end Go.Cb
namespace Go.Proofs.Ytcnbmpkbocnniaa
open Go.RowKit Go.Cb
set_option maxHeartbeats 2000000 in
theorem find02_c {w : World} {base c : Nat} {A : Option Addr} {xs : List (Int × Int)} (h : RowP (Value.int .i64) (Value.int .i64) 55 w base (.slice A xs.length c) xs) (hs : tabOk cmpI xs) (k : Int) :
    Calls Try.prog 33 #[.slice A xs.length c, .int .i64 k] w fun e w' => e = .returned (.int .i64 (posT cmpI xs k)) ∧ w = w' := by
  have hlm : xs.length ≤ 9223372036854775807 := by
    rcases h.form with ⟨_, h2⟩ | ⟨g, c', h1, h2, h3, h4, h5⟩
    · rw [h2]; simp
    · unfold maxLen at h5; omega
  have HS := Lib.hid hs
  clear hs
  go_enter Try.func33, Try.ntmps33
  go_wp2
  go_loop [5] (fun v5 => ∃ i : Nat, i ≤ xs.length ∧ v5 = .int .i64 i ∧ Hid (∀ j x, j < i → xs[j]? = some x → cmpI x.1 k < 0)) (fun v5 => xs.length - (intOf v5).toNat)
  case atStart => exact ⟨0, Nat.zero_le _, rfl, fun j x hj => absurd hj (by omega)⟩
  case round =>
    obtain ⟨i, hi, rfl, hp⟩ := hrel
    by_cases hlt : i < xs.length
    · obtain ⟨g, ⟨kx, x⟩, rfl, _, hx, hg, hc0, hc1⟩ := h.at hlt
      dsimp only at hc0 hc1
      by_cases hc : cmpI kx k < 0
      · have Hs := Lib.hid (lo_step cmpI_ord HS.out hx hc)
        have hd : decide (kx < k) = true := by rw [cmpI_ltd]; exact decide_eq_true hc
        clear hx hc
        go_wp2
        go_round
        case rel => exact ⟨i + 1, by omega, by go_num, Hs.out⟩
        case measure => simp [intOf]; omega
      · have Hs := Lib.hid (at_done hi hp (hi_step cmpI_ord HS.out hx hc))
        have hd : decide (kx < k) = false := by rw [cmpI_ltd]; exact decide_eq_false hc
        clear hx hc
        go_wp2
        go_ret
        exact ⟨by rw [Hs.out]; rfl, rfl⟩
    · have Hs := Lib.hid (at_done hi hp (fun j x hj hx => absurd (List.getElem?_eq_some_iff.1 hx).1 (by omega)))
      go_wp2
      go_ret
      exact ⟨by rw [Hs.out]; rfl, rfl⟩
set_option maxHeartbeats 4000000 in
set_option maxRecDepth 100000 in
theorem shows_c {w : World} {base base' g c : Nat} {v : Value} {A : Option Addr} {xs : List (Int × Int)} (hT : Tab (Value.int .i64) (Value.int .i64) 93 96 w base g v xs) (hs : tabOk cmpI xs)
    (hl : RowP (Value.int .i64) (Value.int .i64) 55 w base' (.slice A xs.length c) xs) (hx8 : xs.length ≤ 1048576) :
    Calls Try.prog 35 #[.pointer (some ⟨g, 0, none⟩), .slice A xs.length c] w fun e w' => e = .returned (.bool true) ∧ Bel w w' := by
  obtain ⟨ks, hks⟩ : ∃ ks, xs.map (fun x : Int × Int => x.1) = ks := ⟨_, rfl⟩
  have CK := keys_ii hT (by omega)
  rw [hks] at CK
  have HCK := Lib.hid CK
  have HKL := Lib.hid (show ks.length = xs.length by rw [← hks, List.length_map])
  have HKS := Lib.hid hks
  have HS := Lib.hid hs
  have hne : ((ks.length : Int) != (xs.length : Int)) = false := by rw [HKL.out]; exact bne_self_eq_false _
  clear CK hks hs
  go_enter Try.func35, Try.ntmps35
  go_wp2_with fail
  refine HCK.out.mono ?_
  rintro e w1 ⟨v1, rfl, ho1, hb1⟩
  obtain ⟨A1, c1, rfl, hr1⟩ := ho1.rd
  replace hr1 := hr1.all
  have T1 := hT.to hb1
  have l1 := hl.step (w' := w1) (fun q hq => hb1.block (World.ownsRow.lt hl q hq).2)
  clear ho1 hT hl HCK
  have HT := Lib.hid T1
  have HL := Lib.hid l1
  clear T1 l1
  go_wp2_with fail
  refine (len_ii HT.out).mono ?_
  rintro e w2 ⟨rfl, rfl⟩
  go_wp2
  go_loopw [35] (fun v35 wr => ∃ (i : Nat) (W : World), W = wr ∧ i ≤ xs.length ∧ v35 = .int .i64 i ∧ Bel w1 wr) (fun v35 _ => xs.length - (intOf v35).toNat)
  case atStart => exact ⟨0, _, rfl, Nat.zero_le _, rfl, Bel.refl _⟩
  case round =>
    obtain ⟨i, W, rfl, hi, rfl, hb⟩ := hrel
    by_cases hlt : i < xs.length
    · obtain ⟨g1, ⟨kx, x⟩, rfl, _, hx, hg, hc0, hc1⟩ := (HL.out.step (w' := W) (fun q hq => hb.block (World.ownsRow.lt HL.out q hq).2)).at hlt
      dsimp only at hc0 hc1
      obtain ⟨ad, rfl, hk0⟩ := (hr1.to hb).int (k := i) (by rw [HKL.out]; exact hlt)
      have hki : ks[i]'(by rw [HKL.out]; exact hlt) = kx := by
        have h1 : ks[i]? = some kx := by rw [← HKS.out, List.getElem?_map, hx]; rfl
        have h2 := List.getElem?_eq_getElem (l := ks) (i := i) (by rw [HKL.out]; exact hlt)
        rw [h1] at h2
        injection h2 with h2
        exact h2.symm
      rw [hki] at hk0
      clear hki
      have hkl := (show i < ks.length by rw [HKL.out]; exact hlt)
      have hbW : Bel W (W.alloc (.cells #[.int .i64 kx, .int .i64 x] 55)) := (Bel.refl W).alloc _
      have T2 := HT.out.to (hb.trans hbW)
      have CA := at_ii T2 (i : Int)
      rw [show atV xs (i : Int) = #[.int .i64 kx, .int .i64 x, .bool true] by unfold atV; rw [if_pos (by omega), Int.toNat_natCast, hx]] at CA
      have hgx : getT cmpI xs kx = some x := (getT_iff cmpI_ord HS.out).2 (List.mem_of_getElem? hx)
      have hhx : hasT cmpI xs kx = true := by
        cases e : hasT cmpI xs kx with
        | true => rfl
        | false => rw [getT_none.2 e] at hgx; cases hgx
      have HA := Lib.hid CA
      have HG := Lib.hid hgx
      have HH := Lib.hid hhx
      have HT2 := Lib.hid T2
      have hkb : ad.block < W.heap.size := by
        rcases Nat.lt_or_ge ad.block W.heap.size with h | h
        · exact h
        · exfalso
          unfold World.cell? at hk0
          rw [add_block, Array.getElem?_eq_none h] at hk0
          simp at hk0
      have hk1 := cell_keep hk0 (hbW.block (by rw [add_block]; exact hkb))
      have hn1 := heap_alloc_new W (.cells #[.int .i64 kx, .int .i64 x] 55)
      have hn0c := cellAt hn1 0
      have hn1c := cellAt hn1 1
      clear CA hgx hhx T2 hx hk0
      have CG := Lib.hid (fun q => show Calls Try.prog 36 #[.pointer (some ⟨g, 0, none⟩), .int .i64 kx] ((W.alloc (.cells #[.int .i64 kx, .int .i64 x] 55)).drewN q) (fun e w' => e = .returned (.tuple #[.int .i64 x, .bool true]) ∧ Bel ((W.alloc (.cells #[.int .i64 kx, .int .i64 x] 55)).drewN q) w') from by
        have h := get_ii (HT2.out.to ((Bel.refl _).drewN q)) HS.out kx
        rw [HG.out, HH.out] at h
        exact h)
      have hsz1 : W.heap.size < (W.alloc (.cells #[.int .i64 kx, .int .i64 x] 55)).heap.size := by simp
      go_wp2_with fail
      refine HA.out.mono ?_
      rintro e w3 ⟨rfl, ⟨q3, rfl⟩⟩
      go_wp2_with fail
      refine (CG.out q3).mono ?_
      rintro e w4 ⟨rfl, hb4⟩
      have hb14 : Bel (W.alloc (.cells #[.int .i64 kx, .int .i64 x] 55)) w4 := ((Bel.refl _).drewN q3).trans hb4
      have k1 := cell_keep hk1 (hb14.block (by rw [add_block]; omega))
      have n0 := cell_keep hn0c (hb14.block hsz1)
      have n1 := cell_keep hn1c (hb14.block hsz1)
      have hbb := hb.trans (hbW.trans hb14)
      clear hk1 hn0c hn1c hn1 hb4 hb14 hb CG HA hbW hc0 hc1
      go_wp2
      go_quiet (fail)
      go_wp2
      go_roundw
      case rel => exact ⟨i + 1, _, rfl, by omega, by go_num, hbb.drewN _⟩
      case measure => simp [intOf]; omega
    · obtain rfl : i = xs.length := by omega
      have T2 := HT.out.to hb
      have CA := at_ii T2 (-1)
      rw [show atV xs (-1) = #[.int .i64 0, .int .i64 0, .bool false] by unfold atV; rw [if_neg (by omega)]] at CA
      have CB := fun q => at_ii (T2.to ((Bel.refl _).drewN q)) (xs.length : Int)
      rw [show atV xs (xs.length : Int) = #[.int .i64 0, .int .i64 0, .bool false] by unfold atV; rw [if_pos (by omega), Int.toNat_natCast, List.getElem?_eq_none (Nat.le_refl _)]] at CB
      have HA := Lib.hid CA
      have HB := Lib.hid CB
      clear CA CB T2
      go_wp2_with fail
      refine HA.out.mono ?_
      rintro e w3 ⟨rfl, ⟨q3, rfl⟩⟩
      go_wp2_with fail
      refine (HB.out q3).mono ?_
      rintro e w4 ⟨rfl, hd4⟩
      go_wp2
      go_ret
      exact ⟨rfl, hb1.trans ((hb.drewN q3).trans hd4.bel)⟩
end Go.Proofs.Ytcnbmpkbocnniaa
