/- TablePlays: whatever is put in, and dropped, it has just that, in order. -/
import Derived.Test.YtcnbmpkbocnniaaPlays2
import Derived.Test.YtcnbmpkbocnniaaRowLib
import Derived.Deep.RegionLaw
namespace Go.Proofs.Ytcnbmpkbocnniaa
open Go.RowKit Go.Cb
/-- A table, and a plain list of the same, apart from each other. -/
structure Both (w : World) (base g : Nat) (v vl : Value) (xs : List (Int × Int)) : Prop where
  tab : Tab (Value.int .i64) (Value.int .i64) 93 96 w base g v xs
  row : RowP (Value.int .i64) (Value.int .i64) 55 w base vl xs
  ne : vl.ownBlock ≠ some g
  apart : ∀ q, vl.ownBlock = some q → v.ownBlock ≠ some q
theorem Both.lrow {w w2 : World} {base g : Nat} {v v2 vl : Value} {xs : List (Int × Int)} (h : Both w base g v vl xs) (s : Step g v v2 w w2) :
    RowP (Value.int .i64) (Value.int .i64) 55 w2 base vl xs ∧ (∀ q, vl.ownBlock = some q → v2.ownBlock ≠ some q) :=
  ⟨h.row.step (fun q hq => s.block q (World.ownsRow.lt h.row q hq).2 (fun e => h.ne (by rw [hq, e])) (h.apart q hq)), fun q hq e => by
    rcases s.fresh q e with e | e
    · exact h.apart q hq e
    · have := (World.ownsRow.lt h.row q hq).2; omega⟩
set_option maxHeartbeats 8000000 in
set_option maxRecDepth 100000 in
theorem TablePlays_walk (w : World) (A : Option Addr) (ca : Nat) (acts : List Int) (ha : Rd intT w All A ca acts) (_ : ∀ x ∈ acts, inI64 x) (_ : acts.length * 8 ≤ 140737488351232)
    (B : Option Addr) (cb : Nat) (keys : List Int) (hk : Rd intT w All B cb keys) (_ : ∀ x ∈ keys, inI64 x) (hkl : keys.length * 8 ≤ 140737488351232) :
    Calls Try.prog 6 #[.slice A acts.length ca, .slice B keys.length cb] w fun e w' => e = .returned (.bool true) ∧ Bel w w' := by
  have la := ha.lenMax
  have lk := hk.lenMax
  have hT := newTab_ii (Value.int .i64) w (Nat.le_refl w.heap.size)
  have hb0 : Bel w (w.alloc (.cells #[.slice none 0 0] 93)) := (Bel.refl w).alloc _
  go_enter Try.func6, Try.ntmps6
  go_wp2_with fail
  refine (new_ii w).mono ?_
  rintro e W0 ⟨rfl, hW0⟩
  rw [← hW0] at hT hb0
  clear hW0
  obtain ⟨g, hg⟩ : ∃ g, g = w.heap.size := ⟨_, rfl⟩
  rw [← hg] at hT ⊢
  have hgl : w.heap.size ≤ g := by omega
  clear hg
  go_wp2
  go_loopw [6, 23] (fun v6 v23 wr => ∃ (k : Nat) (W : World) (v : Value) (xs : List (Int × Int)), W = wr ∧ k ≤ acts.length ∧ k ≤ 60 ∧ v23 = .int .i64 k ∧ Both wr w.heap.size g v v6 xs ∧ Hid (tabOk cmpI xs) ∧ xs.length ≤ k ∧ Bel w wr) (fun _ v23 _ => acts.length - (intOf v23).toNat)
  case atStart => exact ⟨0, _, _, [], rfl, Nat.zero_le _, Nat.zero_le _, rfl, ⟨⟨hT.box, hgl, RowP.nil _ _ _, hT.ne⟩, RowP.nil _ _ _, by simp [Value.ownBlock], fun q hq => by cases hq⟩, tabOk_nil, Nat.zero_le _, hb0⟩
  case round =>
    clear hT hb0
    obtain ⟨k, W, v, xs, rfl, hka, hk60, rfl, hB, HS, hxl, hb⟩ := hrel
    obtain ⟨Al, cl, rfl⟩ : ∃ Al cl, u6 = .slice Al xs.length cl := by
      rcases hB.row.form with ⟨h1, h2⟩ | ⟨g', c', h1, _⟩
      · exact ⟨none, 0, by rw [h1, h2]; rfl⟩
      · exact ⟨_, _, h1⟩
    have HB := Lib.hid hB
    clear hB
    by_cases hlt : k < acts.length
    · obtain ⟨ad, rfl, hc⟩ := (ha.to hb).int hlt
      obtain ⟨x, hx⟩ : ∃ x, acts[k] = x := ⟨_, rfl⟩
      rw [hx] at hc
      clear hx
      by_cases h60 : k < 60
      · rcases Nat.eq_zero_or_pos keys.length with hk0 | hk0
        · have hk1 : ¬ (0 < keys.length) := by omega
          have hgt : decide ((0 : Int) < (keys.length : Int)) = false := decide_eq_false (by omega)
          have hgt3 : decide (0 < keys.length) = false := decide_eq_false (by omega)
          clear hk0
          have CF := find02_c HB.out.row HS.out x
          have CD := drop_ii HB.out.tab HS.out x
          have CP := put_ii HB.out.tab HS.out hb.size (by omega) x ((k : Int) + 1)
          have HOK1 := Lib.hid (dropT_ok HS.out x)
          have HOK2 := Lib.hid (putT_ok cmpI_ord HS.out x ((k : Int) + 1))
          have hpl := posT_le (cf := cmpI) xs x
          have hlm : xs.length ≤ 60 := by omega
          have hlen2 : (putT cmpI xs x ((k : Int) + 1)).length ≤ k + 1 := by rw [putT_length]; split <;> omega
          have hlen1 : (dropT cmpI xs x).length ≤ k + 1 := by
            unfold dropT
            split
            · rw [List.length_append, List.length_take, List.length_drop]; omega
            · omega
          cases hh : hasT cmpI xs x with
          | true =>
            obtain ⟨o, ho⟩ := (hasT_iff cmpI_ord).1 hh
            have hgt2 : getT cmpI xs x = some o := by unfold getT; rw [if_pos hh, ho]; rfl
            rw [hgt2, hh, show optV (.int .i64 0) (Value.int .i64) (some o) = .int .i64 o from rfl] at CD CP
            have hoo : (o != o) = false := bne_self_eq_false o
            have hp := hasT_lt hh
            have HDT := Lib.hid (show dropT cmpI xs x = xs.take (posT cmpI xs x) ++ xs.drop (posT cmpI xs x + 1) by unfold dropT; rw [if_pos hh])
            have HPT := Lib.hid (show putT cmpI xs x ((k : Int) + 1) = xs.set (posT cmpI xs x) (x, (k : Int) + 1) by unfold putT; rw [if_pos hh])
            have HLEN1 := Lib.hid hlen1
            have HLEN2 := Lib.hid hlen2
            clear hh hgt2 hlen1 hlen2
            generalize posT cmpI xs x = p at *
            obtain ⟨gl, x1, rfl, _, hx, hgs, hc0, hc1⟩ := HB.out.row.at hp
            rw [ho] at hx
            injection hx with hx
            subst hx
            dsimp only at hc0 hc1
            have HO := Lib.hid ho
            have HCF := Lib.hid CF
            have HCD := Lib.hid CD
            have HCP := Lib.hid CP
            obtain ⟨n, hn⟩ : ∃ n, xs.length = n := ⟨_, rfl⟩
            have HN := Lib.hid hn
            have d1 : decide ((p : Int) < (n : Int)) = true := decide_eq_true (by omega)
            rw [hn] at HCF hp hpl hlm ⊢
            clear CF CD CP ho hn hxl
            by_cases h3 : (x.tmod 3 == 0) = true
            · skip
              go_wp2_with fail
              refine HCF.out.mono ?_
              rintro e w2 ⟨rfl, rfl⟩
              go_wp2_with fail
              refine HCD.out.mono ?_
              rintro e w3 ⟨v3, rfl, t3, s3⟩
              have hb3 : Bel w w3 := s3.bel hb hgl HB.out.tab.ge
              obtain ⟨r3, ap3⟩ := HB.out.lrow s3
              rw [HN.out] at r3
              have RA := (row_rd r3).2
              obtain ⟨Bx, hBx, RB⟩ := row_drop r3 (p := p + 1) (by omega)
              obtain ⟨v4, w4, v5, w5, q1, q2, R5, b35, f5⟩ := listDel hb3 (RA.take p) RB (p := p) (m := n - (p + 1)) (by rw [List.length_take]; have := HN.out; omega) (by rw [List.length_drop, HN.out]) (by rw [List.length_take, List.length_drop]; have := HN.out; omega)
              have HQ1 := Lib.hid q1
              have HQ2 := Lib.hid q2
              have HBo : Both w5 w.heap.size g v3 v5 (dropT cmpI xs x) := ⟨t3.to b35, by rw [HDT.out]; exact R5, fun e => by have := f5 _ e; have := t3.lt; omega, fun q hq e => by have := f5 _ hq; have := (World.ownsRow.lt t3.row q e).2; omega⟩
              have hb5 := hb3.trans b35
              have mixed : Try.prog.follows .mixedOrders = true := by kernel_rfl
              have e1 : (0 : Int) ≤ (p : Int) + 1 := by omega
              have e2 : (p : Int) ≤ (n : Int) := by omega
              have e3 : (p : Int) + 1 ≤ (n : Int) := by omega
              have e4 : ((p : Int) + 1).toNat = p + 1 := by omega
              have e8 : IntKind.i64.wrap ((p : Int) + 1) = (p : Int) + 1 := by rw [IntKind.wrap_i64]; omega
              have hcl : n ≤ cl ∧ cl ≤ 9223372036854775807 := by
                rcases r3.form with ⟨h1, _⟩ | ⟨_, c', h1, _, _, z1, z2⟩
                · injection h1 with z; cases z
                · injection h1 with z3 z4 z5
                  unfold maxLen at z2
                  have := HN.out
                  omega
              obtain ⟨hcl1, hcl2⟩ := hcl
              have e5 : p ≤ cl := by omega
              have e6 : p + 1 ≤ cl := by omega
              have e7 : (p : Int) ≤ (cl : Int) := by omega
              clear q1 q2 R5 f5 b35 RA RB r3 ap3 t3 s3 hc0 hc1 hb3
              go_wp2
              go_region_law (first
                | (refine step_append_run rfl (.const (.slice none 0 0)) (.tmp 83) 51 rfl (.slice none 0 0) (.slice (some ⟨gl, 0, none⟩) p cl) (by simp [Act.eval, Act.put]) (by simp [Act.eval, Act.put]) HQ1.out ?_)
                | (refine step_append_run rfl (.tmp 84) (.tmp 88) 51 rfl v4 (.slice Bx (n - (p + 1)) (cl - (p + 1))) (by simp [Act.eval, Act.put]) (by simp [Act.eval, Act.put]) HQ2.out ?_))
              all_goals
                go_wp2
                go_roundw
                case rel => exact ⟨k + 1, _, _, _, rfl, by omega, by omega, by go_num, HBo, HOK1.out, HLEN1.out, hb5⟩
                case measure => simp [intOf]; omega
            · have h3 : (x.tmod 3 == 0) = false := by simpa using h3
              go_wp2_with fail
              refine HCF.out.mono ?_
              rintro e w2 ⟨rfl, rfl⟩
              go_wp2_with fail
              refine HCP.out.mono ?_
              rintro e w3 ⟨v3, rfl, t3, s3⟩
              have hb3 : Bel w w3 := s3.bel hb hgl HB.out.tab.ge
              obtain ⟨r3, ap3⟩ := HB.out.lrow s3
              rw [HN.out] at r3
              have hfz := r3.frozen (p * 2 + 1)
              obtain ⟨c30, c31⟩ := r3.cells HO.out
              dsimp only at c30 c31
              have r4 := r3.set HN.out.symm HO.out ((k : Int) + 1)
              have hlo := (World.ownsRow.lt HB.out.row gl rfl).1
              have t4 := t3.grown (w' := w3.setCell ⟨gl, p * 2 + 1, none⟩ (.int .i64 ((k : Int) + 1))) ((Upd.refl gl w3).set (p := ⟨gl, p * 2 + 1, none⟩) rfl (.int .i64 ((k : Int) + 1))).grown (fun e => HB.out.ne e) (fun q hq e => ap3 q e hq)
              have HBo : Both (w3.setCell ⟨gl, p * 2 + 1, none⟩ (.int .i64 ((k : Int) + 1))) w.heap.size g v3 (.slice (some ⟨gl, 0, none⟩) n cl) (putT cmpI xs x ((k : Int) + 1)) := ⟨t4, by rw [HPT.out]; exact r4, HB.out.ne, ap3⟩
              have hb4 := hb3.set (p := ⟨gl, p * 2 + 1, none⟩) hlo (.int .i64 ((k : Int) + 1))
              clear r3 r4 t3 t4 ap3 s3 hc0 hc1
              go_wp2
              go_roundw
              case rel => exact ⟨k + 1, _, _, _, rfl, by omega, by omega, by go_num, HBo, HOK2.out, HLEN2.out, hb4⟩
              case measure => simp [intOf]; omega
          | false =>
            have hgt2 : getT cmpI xs x = none := getT_none.2 hh
            rw [hgt2, hh, show optV (.int .i64 0) (Value.int .i64) none = .int .i64 0 from rfl] at CD CP
            have HDT := Lib.hid (show dropT cmpI xs x = xs by unfold dropT; rw [if_neg (by rw [hh]; simp)])
            have HPT := Lib.hid (show putT cmpI xs x ((k : Int) + 1) = xs.take (posT cmpI xs x) ++ (x, (k : Int) + 1) :: xs.drop (posT cmpI xs x) by unfold putT; rw [if_neg (by rw [hh]; simp)])
            have HLEN1 := Lib.hid hlen1
            have HLEN2 := Lib.hid hlen2
            have hkne : ∀ y, xs[posT cmpI xs x]? = some y → (y.1 == x) = false := fun y hy => by
              cases e : (y.1 == x) with
              | false => rfl
              | true =>
                have e2 : y.1 = x := by simpa using e
                have : hasT cmpI xs x = true := (hasT_iff cmpI_ord).2 ⟨y.2, by rw [hy, ← e2]⟩
                rw [hh] at this; cases this
            clear hh hgt2 hlen1 hlen2
            generalize posT cmpI xs x = p at *
            have HCF := Lib.hid CF
            have HCD := Lib.hid CD
            have HCP := Lib.hid CP
            have HKN := Lib.hid hkne
            clear CF CD CP hxl hkne
            by_cases hp : p < xs.length
            · obtain ⟨gl, ⟨kx, o⟩, rfl, _, hx, hgs, hc0, hc1⟩ := HB.out.row.at hp
              dsimp only at hc0 hc1
              have hkx : (kx == x) = false := HKN.out _ hx
              obtain ⟨n, hn⟩ : ∃ n, xs.length = n := ⟨_, rfl⟩
              have HN := Lib.hid hn
              have d1 : decide ((p : Int) < (n : Int)) = true := decide_eq_true (by omega)
              rw [hn] at HCF hp hpl hlm ⊢
              clear hn hx
              by_cases h3 : (x.tmod 3 == 0) = true
              · skip
                go_wp2_with fail
                refine HCF.out.mono ?_
                rintro e w2 ⟨rfl, rfl⟩
                go_wp2_with fail
                refine HCD.out.mono ?_
                rintro e w3 ⟨v3, rfl, t3, s3⟩
                have hb3 : Bel w w3 := s3.bel hb hgl HB.out.tab.ge
                obtain ⟨r3, ap3⟩ := HB.out.lrow s3
                have HBo : Both w3 w.heap.size g v3 _ (dropT cmpI xs x) := ⟨t3, by rw [HDT.out]; exact r3, HB.out.ne, ap3⟩
                rw [HN.out] at HBo
                clear r3 t3 ap3 s3
                go_wp2
                go_roundw
                case rel => exact ⟨k + 1, _, _, _, rfl, by omega, by omega, by go_num, HBo, HOK1.out, HLEN1.out, hb3⟩
                case measure => simp [intOf]; omega
              · have h3 : (x.tmod 3 == 0) = false := by simpa using h3
                go_wp2_with fail
                refine HCF.out.mono ?_
                rintro e w2 ⟨rfl, rfl⟩
                go_wp2_with fail
                refine HCP.out.mono ?_
                rintro e w3 ⟨v3, rfl, t3, s3⟩
                have hb3 : Bel w w3 := s3.bel hb hgl HB.out.tab.ge
                obtain ⟨r3, ap3⟩ := HB.out.lrow s3
                rw [HN.out] at r3
                obtain ⟨Bx, hBx, RB⟩ := row_drop r3 (p := p) (by omega)
                have RP := RowP.prefix_ r3 HN.out.symm (i := p) (by omega)
                have hcl : n ≤ cl ∧ cl ≤ 9223372036854775807 := by
                  rcases r3.form with ⟨h1, _⟩ | ⟨_, c', h1, _, _, z1, z2⟩
                  · injection h1 with z; cases z
                  · injection h1 with z3 z4 z5
                    unfold maxLen at z2
                    have := HN.out.symm
                    omega
                obtain ⟨hcl1, hcl2⟩ := hcl
                have hce : ¬ (cl = p) := by omega
                rw [if_neg hce] at hBx
                subst hBx
                obtain ⟨v4, w4, v5, w5, v6, w6, q1, q2, q3, R6, g6, f6⟩ := listIns hb3 RP RB (m := n - p) (by rw [List.length_drop]; have := HN.out.symm; omega) (by rw [List.length_take, List.length_drop]; have := HN.out.symm; omega) x ((k : Int) + 1)
                have HQ1 := Lib.hid q1
                have HQ2 := Lib.hid q2
                have HQ3 := Lib.hid q3
                have hlo := (World.ownsRow.lt HB.out.row gl rfl).1
                have hglt : gl < w3.heap.size := (World.ownsRow.lt r3 gl rfl).2
                have t6 := t3.grown g6 (fun e => HB.out.ne e) (fun q hq e => ap3 q e hq)
                have HBo : Both w6 w.heap.size g v3 v6 (putT cmpI xs x ((k : Int) + 1)) := ⟨t6, by rw [HPT.out]; exact R6, fun e => by
                    rcases f6 _ e with e | e
                    · exact HB.out.ne e
                    · have := t3.lt; omega, fun q hq e => by
                    rcases f6 _ hq with e2 | e2
                    · exact ap3 q e2 e
                    · have := (World.ownsRow.lt t3.row q e).2; omega⟩
                have hb6 := hb3.grown g6 (fun q hq => by have e : gl = q := Option.some.inj hq; omega)
                have e2 : (p : Int) ≤ (n : Int) := by omega
                have e5 : p ≤ cl := by omega
                have e7 : (p : Int) ≤ (cl : Int) := by omega
                clear q1 q2 q3 R6 g6 f6 RB RP r3 ap3 t3 s3 t6
                go_wp2_with (first
                  | (at_builtin; refine Lib.wpList_append_run _ rfl (.const (.slice none 0 0)) (.tmp 115) 51 51 rfl _ _ rfl rfl _ _ HQ1.out ?_)
                  | (at_builtin; refine Lib.wpList_append_run _ rfl (.tmp 119) (.tmp 124) 51 51 rfl _ _ rfl rfl _ _ HQ2.out ?_)
                  | (at_builtin; refine Lib.wpList_append_run _ rfl (.tmp 125) (.tmp 126) 51 51 rfl _ _ rfl rfl _ _ HQ3.out ?_))
                go_roundw
                case rel => exact ⟨k + 1, _, _, _, rfl, by omega, by omega, by go_num, HBo, HOK2.out, HLEN2.out, hb6⟩
                case measure => simp [intOf]; omega
            · obtain rfl : p = xs.length := by omega
              rcases HB.out.row.form with ⟨hnil, hxs⟩ | ⟨gl, c', hsl, hlo, hgs, _, _⟩
              · injection hnil with e1 e2 e3
                subst e1 e3
                subst hxs
                have HRN : RowP (Value.int .i64) (Value.int .i64) 55 W w.heap.size (.slice none 0 0) [] := RowP.nil _ _ _
                by_cases h3 : (x.tmod 3 == 0) = true
                · skip
                  go_wp2_with fail
                  refine HCF.out.mono ?_
                  rintro e w2 ⟨rfl, rfl⟩
                  go_wp2_with fail
                  refine HCD.out.mono ?_
                  rintro e w3 ⟨v3, rfl, t3, s3⟩
                  have hb3 : Bel w w3 := s3.bel hb hgl HB.out.tab.ge
                  obtain ⟨r3, ap3⟩ := HB.out.lrow s3
                  have HBo : Both w3 w.heap.size g v3 _ (dropT cmpI ([] : List (Int × Int)) x) := ⟨t3, by rw [HDT.out]; exact r3, HB.out.ne, ap3⟩
                  clear r3 t3 ap3 s3
                  go_wp2
                  go_roundw
                  case rel => exact ⟨k + 1, _, _, _, rfl, by omega, by omega, by go_num, HBo, HOK1.out, HLEN1.out, hb3⟩
                  case measure => simp [intOf]; omega
                · have h3 : (x.tmod 3 == 0) = false := by simpa using h3
                  go_wp2_with fail
                  refine HCF.out.mono ?_
                  rintro e w2 ⟨rfl, rfl⟩
                  go_wp2_with fail
                  refine HCP.out.mono ?_
                  rintro e w3 ⟨v3, rfl, t3, s3⟩
                  have hb3 : Bel w w3 := s3.bel hb hgl HB.out.tab.ge
                  obtain ⟨v4, w4, v5, w5, v6, w6, q1, q2, q3, R6, g6, f6⟩ := listIns (A := none) (B := none) (c := 0) (cB := 0) (p := 0) (m := 0) (xs := []) (ys := []) hb3 (RowP.nil _ _ _) (Rd.nil _ _ _ _ _ (by decide)) rfl (by simp) x ((k : Int) + 1)
                  have HQ1 := Lib.hid q1
                  have HQ2 := Lib.hid q2
                  have HQ3 := Lib.hid q3
                  have hv6 : ∀ q, v6.ownBlock = some q → w3.heap.size ≤ q := fun q hq => by
                    rcases f6 _ hq with e | e
                    · cases e
                    · exact e
                  have t6 := t3.grown g6 (fun e => by cases e) (fun q _ e => by cases e)
                  have HBo : Both w6 w.heap.size g v3 v6 (putT cmpI ([] : List (Int × Int)) x ((k : Int) + 1)) := ⟨t6, by rw [HPT.out]; exact R6, fun e => by have := hv6 _ e; have := t3.lt; omega, fun q hq e => by have := hv6 _ hq; have := (World.ownsRow.lt t3.row q e).2; omega⟩
                  have hb6 := hb3.grown g6 (fun q hq => by cases hq)
                  clear q1 q2 q3 R6 g6 f6 t3 s3 t6
                  go_wp2_with (first
                    | (at_builtin; refine Lib.wpList_append_run _ rfl (.const (.slice none 0 0)) (.tmp 115) 51 51 rfl _ _ rfl rfl _ _ HQ1.out ?_)
                    | (at_builtin; refine Lib.wpList_append_run _ rfl (.tmp 119) (.tmp 124) 51 51 rfl _ _ rfl rfl _ _ HQ2.out ?_)
                    | (at_builtin; refine Lib.wpList_append_run _ rfl (.tmp 125) (.tmp 126) 51 51 rfl _ _ rfl rfl _ _ HQ3.out ?_))
                  go_roundw
                  case rel => exact ⟨k + 1, _, _, _, rfl, by omega, by omega, by go_num, HBo, HOK2.out, HLEN2.out, hb6⟩
                  case measure => simp [intOf]; omega
              · injection hsl with e1 e2 e3
                subst e1 e3
                obtain ⟨n, hn⟩ : ∃ n, xs.length = n := ⟨_, rfl⟩
                have HN := Lib.hid hn
                have d1 : decide ((n : Int) < (n : Int)) = false := decide_eq_false (by omega)
                rw [hn] at HCF hlm hpl ⊢
                rw [hn] at HPT
                have HPTn := HPT
                clear hn hp
                by_cases h3 : (x.tmod 3 == 0) = true
                · skip
                  go_wp2_with fail
                  refine HCF.out.mono ?_
                  rintro e w2 ⟨rfl, rfl⟩
                  go_wp2_with fail
                  refine HCD.out.mono ?_
                  rintro e w3 ⟨v3, rfl, t3, s3⟩
                  have hb3 : Bel w w3 := s3.bel hb hgl HB.out.tab.ge
                  obtain ⟨r3, ap3⟩ := HB.out.lrow s3
                  have HBo : Both w3 w.heap.size g v3 _ (dropT cmpI xs x) := ⟨t3, by rw [HDT.out]; exact r3, HB.out.ne, ap3⟩
                  rw [HN.out] at HBo
                  clear r3 t3 ap3 s3
                  go_wp2
                  go_roundw
                  case rel => exact ⟨k + 1, _, _, _, rfl, by omega, by omega, by go_num, HBo, HOK1.out, HLEN1.out, hb3⟩
                  case measure => simp [intOf]; omega
                · have h3 : (x.tmod 3 == 0) = false := by simpa using h3
                  go_wp2_with fail
                  refine HCF.out.mono ?_
                  rintro e w2 ⟨rfl, rfl⟩
                  go_wp2_with fail
                  refine HCP.out.mono ?_
                  rintro e w3 ⟨v3, rfl, t3, s3⟩
                  have hb3 : Bel w w3 := s3.bel hb hgl HB.out.tab.ge
                  obtain ⟨r3, ap3⟩ := HB.out.lrow s3
                  rw [HN.out] at r3
                  obtain ⟨Bx, hBx, RB⟩ := row_drop r3 (p := n) (by omega)
                  have RP := RowP.prefix_ r3 HN.out.symm (i := n) (by omega)
                  have hcl : n ≤ cl ∧ cl ≤ 9223372036854775807 := by
                    rcases r3.form with ⟨h1, _⟩ | ⟨_, c', h1, _, _, z1, z2⟩
                    · injection h1 with z; cases z
                    · injection h1 with z3 z4 z5
                      unfold maxLen at z2
                      have := HN.out.symm
                      omega
                  obtain ⟨hcl1, hcl2⟩ := hcl
                  by_cases hce : cl = n
                  · have hce2 : n = cl := hce.symm
                    subst hce2
                    rw [if_pos rfl] at hBx
                    subst hBx
                    obtain ⟨v4, w4, v5, w5, v6, w6, q1, q2, q3, R6, g6, f6⟩ := listIns hb3 RP RB (m := n - n) (by rw [List.length_drop]; have := HN.out.symm; omega) (by rw [List.length_take, List.length_drop]; have := HN.out.symm; omega) x ((k : Int) + 1)
                    simp only [Nat.sub_self] at q1
                    have HQ1 := Lib.hid q1
                    have HQ2 := Lib.hid q2
                    have HQ3 := Lib.hid q3
                    have hlo := (World.ownsRow.lt HB.out.row gl rfl).1
                    have hglt : gl < w3.heap.size := (World.ownsRow.lt r3 gl rfl).2
                    have t6 := t3.grown g6 (fun e => HB.out.ne e) (fun q hq e => ap3 q e hq)
                    have HBo : Both w6 w.heap.size g v3 v6 (putT cmpI xs x ((k : Int) + 1)) := ⟨t6, by rw [HPT.out]; exact R6, fun e => by
                        rcases f6 _ e with e | e
                        · exact HB.out.ne e
                        · have := t3.lt; omega, fun q hq e => by
                        rcases f6 _ hq with e2 | e2
                        · exact ap3 q e2 e
                        · have := (World.ownsRow.lt t3.row q e).2; omega⟩
                    have hb6 := hb3.grown g6 (fun q hq => by have e : gl = q := Option.some.inj hq; omega)
                    have e2 : (n : Int) ≤ (n : Int) := by omega
                    have e5 : n ≤ n := by omega
                    have e7 : (n : Int) ≤ (n : Int) := by omega
                    clear q1 q2 q3 R6 g6 f6 RB RP r3 ap3 t3 s3 t6
                    go_wp2_with (first
                      | (at_builtin; refine Lib.wpList_append_run _ rfl (.const (.slice none 0 0)) (.tmp 115) 51 51 rfl _ _ rfl rfl _ _ HQ1.out ?_)
                      | (at_builtin; refine Lib.wpList_append_run _ rfl (.tmp 119) (.tmp 124) 51 51 rfl _ _ rfl rfl _ _ HQ2.out ?_)
                      | (at_builtin; refine Lib.wpList_append_run _ rfl (.tmp 125) (.tmp 126) 51 51 rfl _ _ rfl rfl _ _ HQ3.out ?_))
                    go_roundw
                    case rel => exact ⟨k + 1, _, _, _, rfl, by omega, by omega, by go_num, HBo, HOK2.out, HLEN2.out, hb6⟩
                    case measure => simp [intOf]; omega
                  · rw [if_neg hce] at hBx
                    subst hBx
                    obtain ⟨v4, w4, v5, w5, v6, w6, q1, q2, q3, R6, g6, f6⟩ := listIns hb3 RP RB (m := n - n) (by rw [List.length_drop]; have := HN.out.symm; omega) (by rw [List.length_take, List.length_drop]; have := HN.out.symm; omega) x ((k : Int) + 1)
                    simp only [Nat.sub_self] at q1
                    have HQ1 := Lib.hid q1
                    have HQ2 := Lib.hid q2
                    have HQ3 := Lib.hid q3
                    have hlo := (World.ownsRow.lt HB.out.row gl rfl).1
                    have hglt : gl < w3.heap.size := (World.ownsRow.lt r3 gl rfl).2
                    have t6 := t3.grown g6 (fun e => HB.out.ne e) (fun q hq e => ap3 q e hq)
                    have HBo : Both w6 w.heap.size g v3 v6 (putT cmpI xs x ((k : Int) + 1)) := ⟨t6, by rw [HPT.out]; exact R6, fun e => by
                        rcases f6 _ e with e | e
                        · exact HB.out.ne e
                        · have := t3.lt; omega, fun q hq e => by
                        rcases f6 _ hq with e2 | e2
                        · exact ap3 q e2 e
                        · have := (World.ownsRow.lt t3.row q e).2; omega⟩
                    have hb6 := hb3.grown g6 (fun q hq => by have e : gl = q := Option.some.inj hq; omega)
                    have e2 : (n : Int) ≤ (n : Int) := by omega
                    have e5 : n ≤ cl := by omega
                    have e7 : (n : Int) ≤ (cl : Int) := by omega
                    clear q1 q2 q3 R6 g6 f6 RB RP r3 ap3 t3 s3 t6
                    go_wp2_with (first
                      | (at_builtin; refine Lib.wpList_append_run _ rfl (.const (.slice none 0 0)) (.tmp 115) 51 51 rfl _ _ rfl rfl _ _ HQ1.out ?_)
                      | (at_builtin; refine Lib.wpList_append_run _ rfl (.tmp 119) (.tmp 124) 51 51 rfl _ _ rfl rfl _ _ HQ2.out ?_)
                      | (at_builtin; refine Lib.wpList_append_run _ rfl (.tmp 125) (.tmp 126) 51 51 rfl _ _ rfl rfl _ _ HQ3.out ?_))
                    go_roundw
                    case rel => exact ⟨k + 1, _, _, _, rfl, by omega, by omega, by go_num, HBo, HOK2.out, HLEN2.out, hb6⟩
                    case measure => simp [intOf]; omega
        · obtain ⟨j, hj⟩ := Int.eq_ofNat_of_zero_le (withinI_range (v := x) (n := keys.length) (by omega)).1
          have hjl : j < keys.length := by have := (withinI_range (v := x) (n := keys.length) (by omega)).2; omega
          have HJ := Lib.hid hj
          clear hj
          obtain ⟨bd, rfl, hcb⟩ := (hk.to hb).int hjl
          obtain ⟨kk, hkk⟩ : ∃ kk, keys[j] = kk := ⟨_, rfl⟩
          rw [hkk] at hcb
          have hgt : decide ((0 : Int) < (keys.length : Int)) = true := decide_eq_true (by omega)
          clear hkk
          have CF := find02_c HB.out.row HS.out kk
          have CD := drop_ii HB.out.tab HS.out kk
          have CP := put_ii HB.out.tab HS.out hb.size (by omega) kk ((k : Int) + 1)
          have HOK1 := Lib.hid (dropT_ok HS.out kk)
          have HOK2 := Lib.hid (putT_ok cmpI_ord HS.out kk ((k : Int) + 1))
          have hpl := posT_le (cf := cmpI) xs kk
          have hlm : xs.length ≤ 60 := by omega
          have hlen2 : (putT cmpI xs kk ((k : Int) + 1)).length ≤ k + 1 := by rw [putT_length]; split <;> omega
          have hlen1 : (dropT cmpI xs kk).length ≤ k + 1 := by
            unfold dropT
            split
            · rw [List.length_append, List.length_take, List.length_drop]; omega
            · omega
          cases hh : hasT cmpI xs kk with
          | true =>
            obtain ⟨o, ho⟩ := (hasT_iff cmpI_ord).1 hh
            have hgt2 : getT cmpI xs kk = some o := by unfold getT; rw [if_pos hh, ho]; rfl
            rw [hgt2, hh, show optV (.int .i64 0) (Value.int .i64) (some o) = .int .i64 o from rfl] at CD CP
            have hoo : (o != o) = false := bne_self_eq_false o
            have hp := hasT_lt hh
            have HDT := Lib.hid (show dropT cmpI xs kk = xs.take (posT cmpI xs kk) ++ xs.drop (posT cmpI xs kk + 1) by unfold dropT; rw [if_pos hh])
            have HPT := Lib.hid (show putT cmpI xs kk ((k : Int) + 1) = xs.set (posT cmpI xs kk) (kk, (k : Int) + 1) by unfold putT; rw [if_pos hh])
            have HLEN1 := Lib.hid hlen1
            have HLEN2 := Lib.hid hlen2
            clear hh hgt2 hlen1 hlen2
            generalize posT cmpI xs kk = p at *
            obtain ⟨gl, x1, rfl, _, hx, hgs, hc0, hc1⟩ := HB.out.row.at hp
            rw [ho] at hx
            injection hx with hx
            subst hx
            dsimp only at hc0 hc1
            have HO := Lib.hid ho
            have HCF := Lib.hid CF
            have HCD := Lib.hid CD
            have HCP := Lib.hid CP
            obtain ⟨n, hn⟩ : ∃ n, xs.length = n := ⟨_, rfl⟩
            have HN := Lib.hid hn
            have d1 : decide ((p : Int) < (n : Int)) = true := decide_eq_true (by omega)
            rw [hn] at HCF hp hpl hlm ⊢
            clear CF CD CP ho hn hxl
            by_cases h3 : (x.tmod 3 == 0) = true
            · skip
              go_wp2_with fail
              refine (within_c x keys.length _ (by omega)).mono ?_
              rw [HJ.out]
              rintro e w9 ⟨rfl, rfl⟩
              go_wp2_with fail
              refine HCF.out.mono ?_
              rintro e w2 ⟨rfl, rfl⟩
              go_wp2_with fail
              refine HCD.out.mono ?_
              rintro e w3 ⟨v3, rfl, t3, s3⟩
              have hb3 : Bel w w3 := s3.bel hb hgl HB.out.tab.ge
              obtain ⟨r3, ap3⟩ := HB.out.lrow s3
              rw [HN.out] at r3
              have RA := (row_rd r3).2
              obtain ⟨Bx, hBx, RB⟩ := row_drop r3 (p := p + 1) (by omega)
              obtain ⟨v4, w4, v5, w5, q1, q2, R5, b35, f5⟩ := listDel hb3 (RA.take p) RB (p := p) (m := n - (p + 1)) (by rw [List.length_take]; have := HN.out; omega) (by rw [List.length_drop, HN.out]) (by rw [List.length_take, List.length_drop]; have := HN.out; omega)
              have HQ1 := Lib.hid q1
              have HQ2 := Lib.hid q2
              have HBo : Both w5 w.heap.size g v3 v5 (dropT cmpI xs kk) := ⟨t3.to b35, by rw [HDT.out]; exact R5, fun e => by have := f5 _ e; have := t3.lt; omega, fun q hq e => by have := f5 _ hq; have := (World.ownsRow.lt t3.row q e).2; omega⟩
              have hb5 := hb3.trans b35
              have mixed : Try.prog.follows .mixedOrders = true := by kernel_rfl
              have e1 : (0 : Int) ≤ (p : Int) + 1 := by omega
              have e2 : (p : Int) ≤ (n : Int) := by omega
              have e3 : (p : Int) + 1 ≤ (n : Int) := by omega
              have e4 : ((p : Int) + 1).toNat = p + 1 := by omega
              have e8 : IntKind.i64.wrap ((p : Int) + 1) = (p : Int) + 1 := by rw [IntKind.wrap_i64]; omega
              have hcl : n ≤ cl ∧ cl ≤ 9223372036854775807 := by
                rcases r3.form with ⟨h1, _⟩ | ⟨_, c', h1, _, _, z1, z2⟩
                · injection h1 with z; cases z
                · injection h1 with z3 z4 z5
                  unfold maxLen at z2
                  have := HN.out
                  omega
              obtain ⟨hcl1, hcl2⟩ := hcl
              have e5 : p ≤ cl := by omega
              have e6 : p + 1 ≤ cl := by omega
              have e7 : (p : Int) ≤ (cl : Int) := by omega
              clear q1 q2 R5 f5 b35 RA RB r3 ap3 t3 s3 hc0 hc1 hb3
              go_wp2
              go_region_law (first
                | (refine step_append_run rfl (.const (.slice none 0 0)) (.tmp 83) 51 rfl (.slice none 0 0) (.slice (some ⟨gl, 0, none⟩) p cl) (by simp [Act.eval, Act.put]) (by simp [Act.eval, Act.put]) HQ1.out ?_)
                | (refine step_append_run rfl (.tmp 84) (.tmp 88) 51 rfl v4 (.slice Bx (n - (p + 1)) (cl - (p + 1))) (by simp [Act.eval, Act.put]) (by simp [Act.eval, Act.put]) HQ2.out ?_))
              all_goals
                go_wp2
                go_roundw
                case rel => exact ⟨k + 1, _, _, _, rfl, by omega, by omega, by go_num, HBo, HOK1.out, HLEN1.out, hb5⟩
                case measure => simp [intOf]; omega
            · have h3 : (x.tmod 3 == 0) = false := by simpa using h3
              go_wp2_with fail
              refine (within_c x keys.length _ (by omega)).mono ?_
              rw [HJ.out]
              rintro e w9 ⟨rfl, rfl⟩
              go_wp2_with fail
              refine HCF.out.mono ?_
              rintro e w2 ⟨rfl, rfl⟩
              go_wp2_with fail
              refine HCP.out.mono ?_
              rintro e w3 ⟨v3, rfl, t3, s3⟩
              have hb3 : Bel w w3 := s3.bel hb hgl HB.out.tab.ge
              obtain ⟨r3, ap3⟩ := HB.out.lrow s3
              rw [HN.out] at r3
              have hfz := r3.frozen (p * 2 + 1)
              obtain ⟨c30, c31⟩ := r3.cells HO.out
              dsimp only at c30 c31
              have r4 := r3.set HN.out.symm HO.out ((k : Int) + 1)
              have hlo := (World.ownsRow.lt HB.out.row gl rfl).1
              have t4 := t3.grown (w' := w3.setCell ⟨gl, p * 2 + 1, none⟩ (.int .i64 ((k : Int) + 1))) ((Upd.refl gl w3).set (p := ⟨gl, p * 2 + 1, none⟩) rfl (.int .i64 ((k : Int) + 1))).grown (fun e => HB.out.ne e) (fun q hq e => ap3 q e hq)
              have HBo : Both (w3.setCell ⟨gl, p * 2 + 1, none⟩ (.int .i64 ((k : Int) + 1))) w.heap.size g v3 (.slice (some ⟨gl, 0, none⟩) n cl) (putT cmpI xs kk ((k : Int) + 1)) := ⟨t4, by rw [HPT.out]; exact r4, HB.out.ne, ap3⟩
              have hb4 := hb3.set (p := ⟨gl, p * 2 + 1, none⟩) hlo (.int .i64 ((k : Int) + 1))
              clear r3 r4 t3 t4 ap3 s3 hc0 hc1
              go_wp2
              go_roundw
              case rel => exact ⟨k + 1, _, _, _, rfl, by omega, by omega, by go_num, HBo, HOK2.out, HLEN2.out, hb4⟩
              case measure => simp [intOf]; omega
          | false =>
            have hgt2 : getT cmpI xs kk = none := getT_none.2 hh
            rw [hgt2, hh, show optV (.int .i64 0) (Value.int .i64) none = .int .i64 0 from rfl] at CD CP
            have HDT := Lib.hid (show dropT cmpI xs kk = xs by unfold dropT; rw [if_neg (by rw [hh]; simp)])
            have HPT := Lib.hid (show putT cmpI xs kk ((k : Int) + 1) = xs.take (posT cmpI xs kk) ++ (kk, (k : Int) + 1) :: xs.drop (posT cmpI xs kk) by unfold putT; rw [if_neg (by rw [hh]; simp)])
            have HLEN1 := Lib.hid hlen1
            have HLEN2 := Lib.hid hlen2
            have hkne : ∀ y, xs[posT cmpI xs kk]? = some y → (y.1 == kk) = false := fun y hy => by
              cases e : (y.1 == kk) with
              | false => rfl
              | true =>
                have e2 : y.1 = kk := by simpa using e
                have : hasT cmpI xs kk = true := (hasT_iff cmpI_ord).2 ⟨y.2, by rw [hy, ← e2]⟩
                rw [hh] at this; cases this
            clear hh hgt2 hlen1 hlen2
            generalize posT cmpI xs kk = p at *
            have HCF := Lib.hid CF
            have HCD := Lib.hid CD
            have HCP := Lib.hid CP
            have HKN := Lib.hid hkne
            clear CF CD CP hxl hkne
            by_cases hp : p < xs.length
            · obtain ⟨gl, ⟨kx, o⟩, rfl, _, hx, hgs, hc0, hc1⟩ := HB.out.row.at hp
              dsimp only at hc0 hc1
              have hkx : (kx == kk) = false := HKN.out _ hx
              obtain ⟨n, hn⟩ : ∃ n, xs.length = n := ⟨_, rfl⟩
              have HN := Lib.hid hn
              have d1 : decide ((p : Int) < (n : Int)) = true := decide_eq_true (by omega)
              rw [hn] at HCF hp hpl hlm ⊢
              clear hn hx
              by_cases h3 : (x.tmod 3 == 0) = true
              · skip
                go_wp2_with fail
                refine (within_c x keys.length _ (by omega)).mono ?_
                rw [HJ.out]
                rintro e w9 ⟨rfl, rfl⟩
                go_wp2_with fail
                refine HCF.out.mono ?_
                rintro e w2 ⟨rfl, rfl⟩
                go_wp2_with fail
                refine HCD.out.mono ?_
                rintro e w3 ⟨v3, rfl, t3, s3⟩
                have hb3 : Bel w w3 := s3.bel hb hgl HB.out.tab.ge
                obtain ⟨r3, ap3⟩ := HB.out.lrow s3
                have HBo : Both w3 w.heap.size g v3 _ (dropT cmpI xs kk) := ⟨t3, by rw [HDT.out]; exact r3, HB.out.ne, ap3⟩
                rw [HN.out] at HBo
                clear r3 t3 ap3 s3
                go_wp2
                go_roundw
                case rel => exact ⟨k + 1, _, _, _, rfl, by omega, by omega, by go_num, HBo, HOK1.out, HLEN1.out, hb3⟩
                case measure => simp [intOf]; omega
              · have h3 : (x.tmod 3 == 0) = false := by simpa using h3
                go_wp2_with fail
                refine (within_c x keys.length _ (by omega)).mono ?_
                rw [HJ.out]
                rintro e w9 ⟨rfl, rfl⟩
                go_wp2_with fail
                refine HCF.out.mono ?_
                rintro e w2 ⟨rfl, rfl⟩
                go_wp2_with fail
                refine HCP.out.mono ?_
                rintro e w3 ⟨v3, rfl, t3, s3⟩
                have hb3 : Bel w w3 := s3.bel hb hgl HB.out.tab.ge
                obtain ⟨r3, ap3⟩ := HB.out.lrow s3
                rw [HN.out] at r3
                obtain ⟨Bx, hBx, RB⟩ := row_drop r3 (p := p) (by omega)
                have RP := RowP.prefix_ r3 HN.out.symm (i := p) (by omega)
                have hcl : n ≤ cl ∧ cl ≤ 9223372036854775807 := by
                  rcases r3.form with ⟨h1, _⟩ | ⟨_, c', h1, _, _, z1, z2⟩
                  · injection h1 with z; cases z
                  · injection h1 with z3 z4 z5
                    unfold maxLen at z2
                    have := HN.out.symm
                    omega
                obtain ⟨hcl1, hcl2⟩ := hcl
                have hce : ¬ (cl = p) := by omega
                rw [if_neg hce] at hBx
                subst hBx
                obtain ⟨v4, w4, v5, w5, v6, w6, q1, q2, q3, R6, g6, f6⟩ := listIns hb3 RP RB (m := n - p) (by rw [List.length_drop]; have := HN.out.symm; omega) (by rw [List.length_take, List.length_drop]; have := HN.out.symm; omega) kk ((k : Int) + 1)
                have HQ1 := Lib.hid q1
                have HQ2 := Lib.hid q2
                have HQ3 := Lib.hid q3
                have hlo := (World.ownsRow.lt HB.out.row gl rfl).1
                have hglt : gl < w3.heap.size := (World.ownsRow.lt r3 gl rfl).2
                have t6 := t3.grown g6 (fun e => HB.out.ne e) (fun q hq e => ap3 q e hq)
                have HBo : Both w6 w.heap.size g v3 v6 (putT cmpI xs kk ((k : Int) + 1)) := ⟨t6, by rw [HPT.out]; exact R6, fun e => by
                    rcases f6 _ e with e | e
                    · exact HB.out.ne e
                    · have := t3.lt; omega, fun q hq e => by
                    rcases f6 _ hq with e2 | e2
                    · exact ap3 q e2 e
                    · have := (World.ownsRow.lt t3.row q e).2; omega⟩
                have hb6 := hb3.grown g6 (fun q hq => by have e : gl = q := Option.some.inj hq; omega)
                have e2 : (p : Int) ≤ (n : Int) := by omega
                have e5 : p ≤ cl := by omega
                have e7 : (p : Int) ≤ (cl : Int) := by omega
                clear q1 q2 q3 R6 g6 f6 RB RP r3 ap3 t3 s3 t6
                go_wp2_with (first
                  | (at_builtin; refine Lib.wpList_append_run _ rfl (.const (.slice none 0 0)) (.tmp 115) 51 51 rfl _ _ rfl rfl _ _ HQ1.out ?_)
                  | (at_builtin; refine Lib.wpList_append_run _ rfl (.tmp 119) (.tmp 124) 51 51 rfl _ _ rfl rfl _ _ HQ2.out ?_)
                  | (at_builtin; refine Lib.wpList_append_run _ rfl (.tmp 125) (.tmp 126) 51 51 rfl _ _ rfl rfl _ _ HQ3.out ?_))
                go_roundw
                case rel => exact ⟨k + 1, _, _, _, rfl, by omega, by omega, by go_num, HBo, HOK2.out, HLEN2.out, hb6⟩
                case measure => simp [intOf]; omega
            · obtain rfl : p = xs.length := by omega
              rcases HB.out.row.form with ⟨hnil, hxs⟩ | ⟨gl, c', hsl, hlo, hgs, _, _⟩
              · injection hnil with e1 e2 e3
                subst e1 e3
                subst hxs
                have HRN : RowP (Value.int .i64) (Value.int .i64) 55 W w.heap.size (.slice none 0 0) [] := RowP.nil _ _ _
                by_cases h3 : (x.tmod 3 == 0) = true
                · skip
                  go_wp2_with fail
                  refine (within_c x keys.length _ (by omega)).mono ?_
                  rw [HJ.out]
                  rintro e w9 ⟨rfl, rfl⟩
                  go_wp2_with fail
                  refine HCF.out.mono ?_
                  rintro e w2 ⟨rfl, rfl⟩
                  go_wp2_with fail
                  refine HCD.out.mono ?_
                  rintro e w3 ⟨v3, rfl, t3, s3⟩
                  have hb3 : Bel w w3 := s3.bel hb hgl HB.out.tab.ge
                  obtain ⟨r3, ap3⟩ := HB.out.lrow s3
                  have HBo : Both w3 w.heap.size g v3 _ (dropT cmpI ([] : List (Int × Int)) kk) := ⟨t3, by rw [HDT.out]; exact r3, HB.out.ne, ap3⟩
                  clear r3 t3 ap3 s3
                  go_wp2
                  go_roundw
                  case rel => exact ⟨k + 1, _, _, _, rfl, by omega, by omega, by go_num, HBo, HOK1.out, HLEN1.out, hb3⟩
                  case measure => simp [intOf]; omega
                · have h3 : (x.tmod 3 == 0) = false := by simpa using h3
                  go_wp2_with fail
                  refine (within_c x keys.length _ (by omega)).mono ?_
                  rw [HJ.out]
                  rintro e w9 ⟨rfl, rfl⟩
                  go_wp2_with fail
                  refine HCF.out.mono ?_
                  rintro e w2 ⟨rfl, rfl⟩
                  go_wp2_with fail
                  refine HCP.out.mono ?_
                  rintro e w3 ⟨v3, rfl, t3, s3⟩
                  have hb3 : Bel w w3 := s3.bel hb hgl HB.out.tab.ge
                  obtain ⟨v4, w4, v5, w5, v6, w6, q1, q2, q3, R6, g6, f6⟩ := listIns (A := none) (B := none) (c := 0) (cB := 0) (p := 0) (m := 0) (xs := []) (ys := []) hb3 (RowP.nil _ _ _) (Rd.nil _ _ _ _ _ (by decide)) rfl (by simp) kk ((k : Int) + 1)
                  have HQ1 := Lib.hid q1
                  have HQ2 := Lib.hid q2
                  have HQ3 := Lib.hid q3
                  have hv6 : ∀ q, v6.ownBlock = some q → w3.heap.size ≤ q := fun q hq => by
                    rcases f6 _ hq with e | e
                    · cases e
                    · exact e
                  have t6 := t3.grown g6 (fun e => by cases e) (fun q _ e => by cases e)
                  have HBo : Both w6 w.heap.size g v3 v6 (putT cmpI ([] : List (Int × Int)) kk ((k : Int) + 1)) := ⟨t6, by rw [HPT.out]; exact R6, fun e => by have := hv6 _ e; have := t3.lt; omega, fun q hq e => by have := hv6 _ hq; have := (World.ownsRow.lt t3.row q e).2; omega⟩
                  have hb6 := hb3.grown g6 (fun q hq => by cases hq)
                  clear q1 q2 q3 R6 g6 f6 t3 s3 t6
                  go_wp2_with (first
                    | (at_builtin; refine Lib.wpList_append_run _ rfl (.const (.slice none 0 0)) (.tmp 115) 51 51 rfl _ _ rfl rfl _ _ HQ1.out ?_)
                    | (at_builtin; refine Lib.wpList_append_run _ rfl (.tmp 119) (.tmp 124) 51 51 rfl _ _ rfl rfl _ _ HQ2.out ?_)
                    | (at_builtin; refine Lib.wpList_append_run _ rfl (.tmp 125) (.tmp 126) 51 51 rfl _ _ rfl rfl _ _ HQ3.out ?_))
                  go_roundw
                  case rel => exact ⟨k + 1, _, _, _, rfl, by omega, by omega, by go_num, HBo, HOK2.out, HLEN2.out, hb6⟩
                  case measure => simp [intOf]; omega
              · injection hsl with e1 e2 e3
                subst e1 e3
                obtain ⟨n, hn⟩ : ∃ n, xs.length = n := ⟨_, rfl⟩
                have HN := Lib.hid hn
                have d1 : decide ((n : Int) < (n : Int)) = false := decide_eq_false (by omega)
                rw [hn] at HCF hlm hpl ⊢
                rw [hn] at HPT
                have HPTn := HPT
                clear hn hp
                by_cases h3 : (x.tmod 3 == 0) = true
                · skip
                  go_wp2_with fail
                  refine (within_c x keys.length _ (by omega)).mono ?_
                  rw [HJ.out]
                  rintro e w9 ⟨rfl, rfl⟩
                  go_wp2_with fail
                  refine HCF.out.mono ?_
                  rintro e w2 ⟨rfl, rfl⟩
                  go_wp2_with fail
                  refine HCD.out.mono ?_
                  rintro e w3 ⟨v3, rfl, t3, s3⟩
                  have hb3 : Bel w w3 := s3.bel hb hgl HB.out.tab.ge
                  obtain ⟨r3, ap3⟩ := HB.out.lrow s3
                  have HBo : Both w3 w.heap.size g v3 _ (dropT cmpI xs kk) := ⟨t3, by rw [HDT.out]; exact r3, HB.out.ne, ap3⟩
                  rw [HN.out] at HBo
                  clear r3 t3 ap3 s3
                  go_wp2
                  go_roundw
                  case rel => exact ⟨k + 1, _, _, _, rfl, by omega, by omega, by go_num, HBo, HOK1.out, HLEN1.out, hb3⟩
                  case measure => simp [intOf]; omega
                · have h3 : (x.tmod 3 == 0) = false := by simpa using h3
                  go_wp2_with fail
                  refine (within_c x keys.length _ (by omega)).mono ?_
                  rw [HJ.out]
                  rintro e w9 ⟨rfl, rfl⟩
                  go_wp2_with fail
                  refine HCF.out.mono ?_
                  rintro e w2 ⟨rfl, rfl⟩
                  go_wp2_with fail
                  refine HCP.out.mono ?_
                  rintro e w3 ⟨v3, rfl, t3, s3⟩
                  have hb3 : Bel w w3 := s3.bel hb hgl HB.out.tab.ge
                  obtain ⟨r3, ap3⟩ := HB.out.lrow s3
                  rw [HN.out] at r3
                  obtain ⟨Bx, hBx, RB⟩ := row_drop r3 (p := n) (by omega)
                  have RP := RowP.prefix_ r3 HN.out.symm (i := n) (by omega)
                  have hcl : n ≤ cl ∧ cl ≤ 9223372036854775807 := by
                    rcases r3.form with ⟨h1, _⟩ | ⟨_, c', h1, _, _, z1, z2⟩
                    · injection h1 with z; cases z
                    · injection h1 with z3 z4 z5
                      unfold maxLen at z2
                      have := HN.out.symm
                      omega
                  obtain ⟨hcl1, hcl2⟩ := hcl
                  by_cases hce : cl = n
                  · have hce2 : n = cl := hce.symm
                    subst hce2
                    rw [if_pos rfl] at hBx
                    subst hBx
                    obtain ⟨v4, w4, v5, w5, v6, w6, q1, q2, q3, R6, g6, f6⟩ := listIns hb3 RP RB (m := n - n) (by rw [List.length_drop]; have := HN.out.symm; omega) (by rw [List.length_take, List.length_drop]; have := HN.out.symm; omega) kk ((k : Int) + 1)
                    simp only [Nat.sub_self] at q1
                    have HQ1 := Lib.hid q1
                    have HQ2 := Lib.hid q2
                    have HQ3 := Lib.hid q3
                    have hlo := (World.ownsRow.lt HB.out.row gl rfl).1
                    have hglt : gl < w3.heap.size := (World.ownsRow.lt r3 gl rfl).2
                    have t6 := t3.grown g6 (fun e => HB.out.ne e) (fun q hq e => ap3 q e hq)
                    have HBo : Both w6 w.heap.size g v3 v6 (putT cmpI xs kk ((k : Int) + 1)) := ⟨t6, by rw [HPT.out]; exact R6, fun e => by
                        rcases f6 _ e with e | e
                        · exact HB.out.ne e
                        · have := t3.lt; omega, fun q hq e => by
                        rcases f6 _ hq with e2 | e2
                        · exact ap3 q e2 e
                        · have := (World.ownsRow.lt t3.row q e).2; omega⟩
                    have hb6 := hb3.grown g6 (fun q hq => by have e : gl = q := Option.some.inj hq; omega)
                    have e2 : (n : Int) ≤ (n : Int) := by omega
                    have e5 : n ≤ n := by omega
                    have e7 : (n : Int) ≤ (n : Int) := by omega
                    clear q1 q2 q3 R6 g6 f6 RB RP r3 ap3 t3 s3 t6
                    go_wp2_with (first
                      | (at_builtin; refine Lib.wpList_append_run _ rfl (.const (.slice none 0 0)) (.tmp 115) 51 51 rfl _ _ rfl rfl _ _ HQ1.out ?_)
                      | (at_builtin; refine Lib.wpList_append_run _ rfl (.tmp 119) (.tmp 124) 51 51 rfl _ _ rfl rfl _ _ HQ2.out ?_)
                      | (at_builtin; refine Lib.wpList_append_run _ rfl (.tmp 125) (.tmp 126) 51 51 rfl _ _ rfl rfl _ _ HQ3.out ?_))
                    go_roundw
                    case rel => exact ⟨k + 1, _, _, _, rfl, by omega, by omega, by go_num, HBo, HOK2.out, HLEN2.out, hb6⟩
                    case measure => simp [intOf]; omega
                  · rw [if_neg hce] at hBx
                    subst hBx
                    obtain ⟨v4, w4, v5, w5, v6, w6, q1, q2, q3, R6, g6, f6⟩ := listIns hb3 RP RB (m := n - n) (by rw [List.length_drop]; have := HN.out.symm; omega) (by rw [List.length_take, List.length_drop]; have := HN.out.symm; omega) kk ((k : Int) + 1)
                    simp only [Nat.sub_self] at q1
                    have HQ1 := Lib.hid q1
                    have HQ2 := Lib.hid q2
                    have HQ3 := Lib.hid q3
                    have hlo := (World.ownsRow.lt HB.out.row gl rfl).1
                    have hglt : gl < w3.heap.size := (World.ownsRow.lt r3 gl rfl).2
                    have t6 := t3.grown g6 (fun e => HB.out.ne e) (fun q hq e => ap3 q e hq)
                    have HBo : Both w6 w.heap.size g v3 v6 (putT cmpI xs kk ((k : Int) + 1)) := ⟨t6, by rw [HPT.out]; exact R6, fun e => by
                        rcases f6 _ e with e | e
                        · exact HB.out.ne e
                        · have := t3.lt; omega, fun q hq e => by
                        rcases f6 _ hq with e2 | e2
                        · exact ap3 q e2 e
                        · have := (World.ownsRow.lt t3.row q e).2; omega⟩
                    have hb6 := hb3.grown g6 (fun q hq => by have e : gl = q := Option.some.inj hq; omega)
                    have e2 : (n : Int) ≤ (n : Int) := by omega
                    have e5 : n ≤ cl := by omega
                    have e7 : (n : Int) ≤ (cl : Int) := by omega
                    clear q1 q2 q3 R6 g6 f6 RB RP r3 ap3 t3 s3 t6
                    go_wp2_with (first
                      | (at_builtin; refine Lib.wpList_append_run _ rfl (.const (.slice none 0 0)) (.tmp 115) 51 51 rfl _ _ rfl rfl _ _ HQ1.out ?_)
                      | (at_builtin; refine Lib.wpList_append_run _ rfl (.tmp 119) (.tmp 124) 51 51 rfl _ _ rfl rfl _ _ HQ2.out ?_)
                      | (at_builtin; refine Lib.wpList_append_run _ rfl (.tmp 125) (.tmp 126) 51 51 rfl _ _ rfl rfl _ _ HQ3.out ?_))
                    go_roundw
                    case rel => exact ⟨k + 1, _, _, _, rfl, by omega, by omega, by go_num, HBo, HOK2.out, HLEN2.out, hb6⟩
                    case measure => simp [intOf]; omega
      · have d60 : (60 : Int) ≤ (k : Int) := by omega
        go_wp2_with fail
        refine (shows_c HB.out.tab HS.out HB.out.row (by omega)).mono ?_
        rintro e w2 ⟨rfl, hb2⟩
        go_wp2_with fail
        refine (wakes02 _).mono ?_
        rintro e w3 ⟨rfl, hb3⟩
        go_wp2
        go_ret
        exact ⟨rfl, (hb.trans hb2).trans hb3⟩
    · have dk : ¬ ((k : Int) < (acts.length : Int)) := by omega
      go_wp2_with fail
      refine (shows_c HB.out.tab HS.out HB.out.row (by omega)).mono ?_
      rintro e w2 ⟨rfl, hb2⟩
      go_wp2_with fail
      refine (wakes02 _).mono ?_
      rintro e w3 ⟨rfl, hb3⟩
      go_wp2
      go_ret
      exact ⟨rfl, (hb.trans hb2).trans hb3⟩
end Go.Proofs.Ytcnbmpkbocnniaa
namespace Go.Proofs.Ytcnbmpkbocnniaa.rowTablePlays
open Go.ChangeShapes Go.WideShapes Go.ChangeAt Go.RowKit Go.Cb
open Go.ChangeMaps (open_string shut_string)
theorem own : ownKnob Try.prog.godebug = none := by kernel_rfl
theorem laidOut : laidOutB Try.prog = true := by kernel_rfl
set_option maxRecDepth 100000 in
theorem lifted (os : Os) (started : os.Started) (H : Type) (enc : TypeId × Value → H) :
    ReturnsInHanded {} Try.checked os 6 .any (Rows.tablePlaysSpec.pre6 enc Try.prog Try.f6 Rows.tablePlaysRow.domain false) (Rows.tablePlaysSpec.post enc Try.prog Try.f6 false true false false) := by
  refine returnsInHanded_of_change_sized (C := Try.checked) own started (by kernel_rfl) Try.func6
    (ChangeSpec.witness6 (enc := enc) (C := Try.checked) false ⟨#[], #[.slice none 0 0, .slice none 0 0], []⟩ 8 (by kernel_rfl) (by kernel_rfl) (by kernel_rfl) (by kernel_rfl)) ?_
  intro W base args ds gs before hval0 hW hcnd hsz0 _
  have hsz : (DataW.weightsEach Try.prog (Try.f6.params.toList ++ Rows.tablePlaysSpec.plain.varTypes Try.prog) (ds ++ gs)).all (· ≤ reachBytes) = true := hsz0
  have hval : ∀ (j : Nat) t v, Try.f6.params[j]? = some t → args[j]? = some v → Value.okWide Try.prog W .any base t v := hval0
  have hW' := hW
  obtain ⟨p, q, hA0, hV, rfl, hfz, hnd⟩ := hW
  have hA : DataW.TrodAll enc Try.prog W 0 (fun _ => true) true Try.f6.params.toList args.toList ds p := hA0
  rw [Try.params6] at hA hval hsz
  obtain ⟨v0, vs0, d0, ds0, p0, q0, hargs, rfl, rfl, h0, r0⟩ := trodAll_cons hA
  obtain ⟨v1, vs1, d1, ds1, p1, q1, rfl, rfl, rfl, h1, r1⟩ := trodAll_cons r0
  obtain ⟨rfl, rfl, rfl⟩ := trodAll_nil r1
  obtain rfl : args = #[v0, v1] := by cases args; simp_all
  obtain ⟨rfl, rfl⟩ := trodVars_none hV
  obtain ⟨a0, len0, cap0, rfl⟩ := okWide_slice Try.underlying35 (hval 0 35 v0 rfl rfl)
  have k0 := h0
  have lt0 : ∀ x ∈ p0, x.block < W.heap.size := by obtain ⟨m, hm⟩ := k0; exact DataW.trod_lt m _ _ _ hm
  obtain ⟨l0, rfl, R0, wf0, sz0⟩ := open_rd hsz (j := 0) (t := 35) rfl rfl Try.underlying35 Try.underlying3 (by kernel_rfl) (by kernel_rfl) h0
  obtain ⟨a1, len1, cap1, rfl⟩ := okWide_slice Try.underlying35 (hval 1 35 v1 rfl rfl)
  have k1 := h1
  have lt1 : ∀ x ∈ p1, x.block < W.heap.size := by obtain ⟨m, hm⟩ := k1; exact DataW.trod_lt m _ _ _ hm
  obtain ⟨l1, rfl, R1, wf1, sz1⟩ := open_rd hsz (j := 1) (t := 35) rfl rfl Try.underlying35 Try.underlying3 (by kernel_rfl) (by kernel_rfl) h1
  clear hA0 hval0 hsz0 hsz
  refine (TablePlays_walk W a0 cap0 l0 R0 (fun x hx => inI64_wf (wf0 x hx)) sz0 a1 cap1 l1 R1 (fun x hx => inI64_wf (wf1 x hx)) sz1).mono fun e W' ⟨he, bel⟩ => ?_
  subst he
  exact ⟨_, rfl, _, _, _, [], _, [], hW', trodAll_mk1 (shut_bool Try.underlying4 _), (trodAll_cons_mk (Below.trod laidOut (by kernel_rfl) (of_decide_eq_true (by kernel_rfl)) k0 bel.out lt0) (trodAll_cons_mk (Below.trod laidOut (by kernel_rfl) (of_decide_eq_true (by kernel_rfl)) k1 bel.out lt1) trodAll_mk0)), rfl, bel.out.frame _, fun h => by cases h⟩
theorem over : Rows.tablePlaysRow.holds Try.pinned (OpenSpec.ofChange Rows.tablePlaysSpec) :=
  OpenClaim.holds_of_wide 6 Try.f6 rfl rfl rfl rfl rfl rfl rfl ⟨rfl, rfl, rfl, rfl, rfl⟩ rfl rfl rfl rfl rfl (by kernel_rfl) Try.func6 (by kernel_rfl)
    (of_decide_eq_true (by kernel_rfl)) (by unfold Func.isWrapper; first | (rw [if_pos (by decide +kernel)]; kernel_rfl) | (rw [if_neg (by decide +kernel)]; exact ⟨rfl, rfl⟩))
    (fun os started H enc _ => lifted os started H enc)
end Go.Proofs.Ytcnbmpkbocnniaa.rowTablePlays
namespace Go.Proofs.Ytcnbmpkbocnniaa
theorem TablePlays_holds : Rows.TablePlaysSaid := rowTablePlays.over
#print axioms TablePlays_holds
end Go.Proofs.Ytcnbmpkbocnniaa
