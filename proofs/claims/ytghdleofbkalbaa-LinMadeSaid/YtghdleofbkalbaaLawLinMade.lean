/- LinMade: of words in any order, some of them empty, some twice: the one right set. -/
import Derived.Test.YtghdleofbkalbaaLin8
import Derived.Test.YtghdleofbkalbaaPure11
import Derived.Test.YtghdleofbkalbaaRowLib
import Derived.Deep.RegionHeld3
import Derived.Deep.CutRange
namespace Go.Proofs.Ytghdleofbkalbaa
open Go.RowKit Go.Cb
theorem putB_len (ps : List (List Int)) (b : List Int) : (putB ps b).length ≤ ps.length + 1 := by
  induction ps with
  | nil => simp [putB]
  | cons p ps ih =>
    unfold putB
    split
    · simp only [List.length_cons]; omega
    · split <;> simp
theorem ofF_len (ps acc q : List (List Int)) (h : ofF acc ps = some q) : q.length ≤ acc.length + ps.length := by
  induction ps generalizing acc with
  | nil => unfold ofF at h; injection h with h; subst h; simp
  | cons p ps ih =>
    unfold ofF at h
    split at h
    · exact nomatch h
    · have := ih _ h
      have hp := putB_len acc (normB p)
      split at this <;> simp only [List.length_cons] <;> omega
theorem madeL_len (l : List Int) : (madeL l).2.length ≤ 3 := by
  unfold madeL ofLin
  split
  · simp
  · split
    · simp
    · rename_i q h
      have := ofF_len _ _ _ h
      rw [madeTo_length] at this
      have h3 : madeN l ≤ 3 := by unfold madeN; (split; · omega); (split; · omega); (split; · omega); omega
      simpa using Nat.le_trans this (by simpa using h3)
theorem padB_take {xps : List (List Int)} {k : Nat} {p : List Int} (h : xps[k]? = some p) : padB (xps.take k) ++ [p ++ [0, 0]] = padB (xps.take (k + 1)) := by
  unfold padB
  rw [List.take_add_one, h]
  simp
theorem own_len {α : Type} {d : Ty α} {e : TypeId} {w : World} {base : Nat} {S : Nat → Prop} {v : Value} {q : List α} (h : Own d e w base S v q) {n : Nat} (hn : q.length = n) : ∃ A c, v = .slice A n c := by
  obtain ⟨A, c, hv⟩ := h.form
  exact ⟨A, c, by rw [hv, hn]⟩
theorem own_bag {e : TypeId} {w : World} {base n c : Nat} {S : Nat → Prop} {A : Option Addr} {xs : List Int} (h : Own intT e w base S (.slice A n c) xs) : n = xs.length ∧ Rd intT w (fun k => base ≤ k ∧ k < w.heap.size) A c xs := by
  obtain ⟨A', c', he, hr⟩ := h.rdOne
  injection he with e1 e2 e3
  subst e1 e3
  exact ⟨e2, hr⟩
set_option maxHeartbeats 1000000 in
theorem copyBag_c (S : Nat → Prop) (A : Option Addr) (c : Nat) (l : List (List Int)) (w : World) (h : Rd bagT w S A c l) (n : Nat) (hn : n = l.length) (hl : l.length ≤ 1000000) :
    Calls Try.prog 14 #[.slice A n c] w fun e w' => ∃ v, e = .returned v ∧ Own bagT 23 w' w.heap.size S v l ∧ Bel w w' := by
  subst hn
  go_enter Try.func14, Try.ntmps14
  go_wp2_with (at_builtin; refine wp_append bagT (w0 := w) 24 23 (.slice none 0 0) 24 rfl _ _ rfl Try.underlying24 info_bagO rfl S S _ [] l A _ c rfl rfl rfl (Own.nil _ _ _ _ _) h (bagT.rdNil (fun _ h _ => h)) (Bel.refl _) (by simp [maxLen]; omega) (by simp; omega) ?_; rintro v1 w1 ho hb1 _ _)
  go_ret
  exact ⟨_, rfl, ho, hb1⟩
theorem step_append_own {P : Program} {α : Type} (d : Ty α) {ops : Array Oper} {o : Oper} {a : Act} {w0 w : World} {K : Act → World → Prop} {Q : Exit → Act → World → Prop} {E : Prop}
    (t e : TypeId) (z : Value) (bytes : Nat) (hg : o.guard = none) (s x : Operand)
    (hop : o.op = Op.call { callee := Callee.builtin Builtin.append, args := #[s, x], argTypes := #[t, t] })
    (ht : P.underlying t = some (.slice e)) (hinfo : (P.info? e).map (fun i => (i.zero, i.size, i.bytes)) = some (some z, d.sz, bytes)) (hz : z.cells.size = d.sz)
    (S S' : Nat → Prop) (v : Value) (xs ys : List α) (A : Option Addr) (n c : Nat) (hs : a.eval s = v) (hx : a.eval x = .slice A n c) (hn : n = ys.length) (HO : Own d e w w0.heap.size S v xs) (HR : Rd d w S' A c ys)
    (hS : ∀ x cs, d.rd w S' x cs → d.rd w (fun k => S k ∧ some k ≠ v.ownBlock) x cs) (HB : Bel w0 w) (hl : xs.length + ys.length ≤ maxLen) (hl2 : (xs.length + ys.length) * bytes ≤ 140737488355328)
    (h : ∀ v1 w1, Own d e w1 w0.heap.size S v1 (xs ++ ys) → Bel w0 w1 → w.grownBy w1 v.ownBlock → (v1.ownBlock = v.ownBlock ∨ v1.ownBlock = some w.heap.size) → K (a.put o.dst v1) w1) :
    if Region.wanted o (yielded ops a.tmps) = true then Oper.wp P o a w K Q else E := by
  subst hn
  obtain ⟨v1, w1, hr, h2, h3, h4, h5⟩ := run_append (P := P) d o.type t e z bytes ht hinfo hz S S' v xs ys A c HO HR hS HB hl hl2
  have hw : Region.wanted o (yielded ops a.tmps) = true := by simp [Region.wanted, hg]
  rw [if_pos hw]
  unfold Oper.wp
  simp [execOp, hop, resolve, invoke, builtin, hs, hx, hr, Result.andThen]
  exact h v1 w1 h2 h3 h4 h5
theorem Bel.new1 {X cur : World} {o : Obj} {N : Nat} (h : Bel (X.alloc o) cur) (hN : X.heap.size = N) : cur.heap[N]? = some o := by
  subst hN
  exact (h.block (by simp)).trans (heap_alloc_new X o)
theorem Bel.new2 {X cur43 w43 cur : World} {o : Obj} {N b39 s39 : Nat} {v : Value} (h1 : Bel (X.alloc o) cur43) (hg : cur43.grownBy w43 v.ownBlock) (h2 : Bel w43 cur) (hN : X.heap.size = N)
    (lo : ∀ k, v.ownBlock = some k → b39 ≤ k ∧ k < s39) (h : N < b39 ∨ s39 ≤ N) : cur.heap[N]? = some o := by
  have e := Bel.new1 h1 hN
  have hl := blk_lt e
  exact (h2.block (Nat.lt_of_lt_of_le hl hg.size)).trans ((hg.block N hl (fun hk => by have := lo _ hk.symm; omega)).trans e)
theorem own_ne {v39 v43 : Value} {b39 s39 c43 s43 N : Nat} (lo : ∀ k, v39.ownBlock = some k → b39 ≤ k ∧ k < s39) (l43 : ∀ k, v43.ownBlock = some k → k < s43) (hk : v43.ownBlock = v39.ownBlock ∨ v43.ownBlock = some c43)
    (h : (N < b39 ∨ s39 ≤ N) ∧ (N ≠ c43 ∨ s43 ≤ N)) : some N ≠ v43.ownBlock := by
  intro e
  rcases hk with hk | hk
  · have := lo N (hk ▸ e.symm); omega
  · have h3 := l43 N e.symm
    rw [hk] at e
    injection e with e
    omega
theorem lastStep {ops : Array Oper} {o : Oper} {a : Act} {W cur : World} {K : Act → World → Prop} {Q : Exit → Act → World → Prop} {E : Prop} {v43 : Value} {xs : List (List Int)} {Bk : Option Addr} {ck : Nat} {pk : List Int} {N48 N49 : Nat}
    (hg : o.guard = none) (hop : o.op = Op.call { callee := Callee.builtin Builtin.append, args := #[.tmp 43, .tmp 49], argTypes := #[24, 24] })
    (hs : a.eval (.tmp 43) = v43) (hx : a.eval (.tmp 49) = .slice (some ⟨N49, 0, none⟩) 3 3) (ho : Own bagT 23 cur W.heap.size All v43 xs) (hk : Rd intT W (fun k => k < W.heap.size) Bk ck pk) (hb : Bel W cur)
    (f48 : cur.heap[N48]? = some (.cells #[.int .i64 0] 3)) (f49 : cur.heap[N49]? = some (.cells #[.slice Bk pk.length ck, .slice none 0 0, .slice (some ⟨N48, 0, none⟩) 1 1] 23))
    (n48 : some N48 ≠ v43.ownBlock) (n49 : some N49 ≠ v43.ownBlock) (hl : xs.length ≤ 1000)
    (hK : ∀ v50 w50, Own bagT 23 w50 W.heap.size All v50 (xs ++ [pk, [], [0]]) → Bel W w50 → K (a.put o.dst v50) w50) :
    if Region.wanted o (yielded ops a.tmps) = true then Oper.wp Try.prog o a cur K Q else E := by
  refine step_append_own bagT (w0 := W) 24 23 (.slice none 0 0) 24 hg (.tmp 43) (.tmp 49) hop Try.underlying24 info_bagO rfl All (fun k => some k ≠ v43.ownBlock) v43 xs [pk, [], [0]] (some ⟨N49, 0, none⟩) 3 3 hs hx rfl ho ?_ (fun x cs h => bagT.mono (fun k hk => ⟨trivial, hk⟩) h) hb (by simp [maxLen]; omega) (by simp; omega) (fun v1 w1 h1 h2 _ _ => hK v1 w1 h1 h2)
  have hown : ∀ k, v43.ownBlock = some k → W.heap.size ≤ k := fun k h => ho.ge h
  have hkc : Rd intT cur (fun k => some k ≠ v43.ownBlock) Bk ck pk := (hk.to hb).mono (fun k hk e => by have := hown k e.symm; omega)
  have hlit : Rd intT cur (fun k => some k ≠ v43.ownBlock) (some ⟨N48, 0, none⟩) 1 [0] := by
    refine ⟨by simp, by decide, fun j x hj => ?_⟩
    rcases j with _ | j
    · obtain rfl : 0 = x := by simpa using hj
      refine ⟨_, [.int .i64 0], rfl, n48, rfl, fun i u hu => ?_⟩
      rcases i with _ | i
      · rw [add_plain, cellAt f48]; exact hu
      · simp at hu
    · simp at hj
  refine ⟨by simp, by decide, fun j x hj => ?_⟩
  have cell : ∀ i u, (#[Value.slice Bk pk.length ck, .slice none 0 0, .slice (some ⟨N48, 0, none⟩) 1 1] : Array Value)[i]? = some u → cur.cell? ⟨N49, i, none⟩ = some u := fun i u hu => by rw [cellAt f49]; exact hu
  rcases j with _ | _ | _ | j
  · obtain rfl : pk = x := by simpa using hj
    refine ⟨_, [.slice Bk pk.length ck], rfl, n49, ⟨Bk, ck, rfl, hkc⟩, fun i u hu => ?_⟩
    rcases i with _ | i
    · rw [add_plain]; exact cell 0 u hu
    · simp at hu
  · obtain rfl : [] = x := by simpa using hj
    refine ⟨_, [.slice none 0 0], rfl, n49, ⟨none, 0, rfl, Rd.nil _ _ _ _ _ (by decide)⟩, fun i u hu => ?_⟩
    rcases i with _ | i
    · rw [add_plain]; exact cell 1 u hu
    · simp at hu
  · obtain rfl : [0] = x := by simpa using hj
    refine ⟨_, [.slice (some ⟨N48, 0, none⟩) 1 1], rfl, n49, ⟨_, 1, rfl, hlit⟩, fun i u hu => ?_⟩
    rcases i with _ | i
    · rw [add_plain]; exact cell 2 u hu
    · simp at hu
  · simp at hj
theorem turn_lens {xps : List (List Int)} (h : ∀ p ∈ xps, rightB p = true) {kk : Nat} {pk : List Int} (hk : (padB xps)[kk]? = some pk) :
    ∀ p ∈ (padB xps).drop kk ++ (padB xps).take kk ++ [pk, [], [0]], p.length ≤ 1000000 := by
  have hpl : ∀ q ∈ padB xps, q.length ≤ 14 := by
    intro q hq
    unfold padB at hq
    obtain ⟨p, hp, rfl⟩ := List.mem_map.1 hq
    have := right_len (h p hp)
    simp; omega
  intro p hp
  rcases List.mem_append.1 hp with hp | hp
  · rcases List.mem_append.1 hp with hp | hp
    · exact Nat.le_trans (hpl p (List.mem_of_mem_drop hp)) (by omega)
    · exact Nat.le_trans (hpl p (List.mem_of_mem_take hp)) (by omega)
  · have h1 := hpl pk (List.mem_of_getElem? hk)
    simp at hp
    rcases hp with rfl | rfl | rfl
    · omega
    · simp
    · simp
set_option maxHeartbeats 8000000 in
set_option maxRecDepth 100000 in
theorem LinMade_walk (w : World) (A : Option Addr) (ca : Nat) (l : List Int) (hl : Rd intT w All A ca l) (il : ∀ x ∈ l, inI64 x) (_ : l.length * 8 ≤ 140737488351232) (turn : Int) (_ : inI64 turn) :
    Calls Try.prog 4 #[.slice A l.length ca, .int .i64 turn] w fun e w' => e = .returned (.bool true) ∧ Bel w w' := by
  obtain ⟨x, hx⟩ : ∃ x, madeL l = x := ⟨_, rfl⟩
  have hr := hx ▸ madeL_right l
  have hlen : x.2.length ≤ 3 := hx ▸ madeL_len l
  have Hx := Lib.hid hx
  clear hx
  obtain ⟨xb, xps⟩ := x
  obtain ⟨rb, gp⟩ := rightL_iff.1 hr
  dsimp only at hlen
  have lb := right_len rb
  have HR := Lib.hid hr
  have RB := Lib.hid rb
  have GP := Lib.hid gp
  clear hr rb gp
  go_enter Try.func4, Try.ntmps4
  go_wp2_with fail
  refine (made06_c _ _ _ _ _ hl il _ rfl).mono ?_
  rw [Hx.out]
  rintro e w1 ⟨A0, c0, A1, c1, rfl, p0, p1, hb1⟩
  dsimp only at p0 p1 ⊢
  have B5 := Box.new w1 26 (.slice A0 xb.length c0) (.slice A1 xps.length c1)
  have hbA : Bel w1 (w1.alloc (.cells #[.slice A0 xb.length c0, .slice A1 xps.length c1] 26)) := (Bel.refl w1).alloc _
  replace p0 := (p0.to hbA).all
  replace p1 := (p1.to hbA).all
  replace hb1 := hb1.trans hbA
  obtain ⟨x0, x1, _, _⟩ := B5.cells
  clear hbA
  go_wp2_with fail
  clear x0 x1
  generalize w1.alloc (.cells #[.slice A0 xb.length c0, .slice A1 xps.length c1] 26) = W1 at *
  generalize w1.heap.size = G at *
  go_loopw [6, 17] (fun v6 v17 wr => ∃ (k : Nat) (W : World), W = wr ∧ k ≤ xps.length ∧ v17 = .int .i64 k ∧ Own bagT 23 wr W1.heap.size (Ge W1.heap.size) v6 (padB (xps.take k)) ∧ Bel W1 wr ∧ Hid (k = 0 → v6 = .slice none 0 0)) (fun _ v17 _ => xps.length - (intOf v17).toNat)
  case atStart => exact ⟨0, _, rfl, Nat.zero_le _, rfl, Own.nil _ _ _ _ _, Bel.refl _, (fun _ => rfl : (0 : Nat) = 0 → Value.slice none 0 0 = .slice none 0 0)⟩
  case round =>
    obtain ⟨k, W, rfl, hk, rfl, hoP, hb, HNL⟩ := hrel
    have hpl : (padB (xps.take k)).length = k := by unfold padB; rw [List.length_map, List.length_take]; omega
    have HPL := Lib.hid hpl
    clear hpl
    by_cases hlt : k < xps.length
    · obtain ⟨ad, P, cp, rfl, hpc, hpr⟩ := (p1.to hb).row hlt
      obtain ⟨p, hpe⟩ : ∃ p, xps[k] = p := ⟨_, rfl⟩
      have HPK := Lib.hid (show xps[k]? = some p by rw [List.getElem?_eq_getElem hlt, hpe])
      have lp : p.length ≤ 12 := by
        have := (GP.out.each p (List.mem_of_getElem? HPK.out)).2
        exact right_len this
      rw [hpe] at hpc hpr
      have HT := Lib.hid (padB_take HPK.out)
      have HP := Lib.hid hpr
      have HO := Lib.hid hoP
      obtain ⟨AP, cP, hvP⟩ := own_len hoP HPL.out
      subst hvP
      clear hpe hpr hoP
      go_wp2_with fail
      refine (copyInt_c _ _ _ _ _ HP.out _ rfl (by omega)).mono ?_
      rintro e w2 ⟨v2, rfl, ho2, hb2⟩
      obtain ⟨A2, c2, rfl⟩ := ho2.form
      have HO2 := Lib.hid ho2
      clear ho2
      go_wp2_with (first
        | (at_builtin; refine wp_append intT (w0 := W) 22 3 (.int .i64 0) 8 rfl (.tmp 23) (.tmp 24) rfl Try.underlying22 info_int rfl (Ge W.heap.size) All (.slice A2 p.length c2) p [0, 0] (some ⟨w2.heap.size, 0, none⟩) 2 2 rfl rfl rfl (HO2.out.to ((Bel.refl w2).alloc _)) (Rd.lit w2 3 [0, 0] (by decide)) (fun _ _ h => h) (hb2.alloc _) (by unfold maxLen; simp; omega) (by simp; omega) ?_; rintro v3 w3 ho3 hb3 hg3 _; obtain ⟨A3, c3, rfl⟩ := own_len ho3 (n := p.length + 2) (by simp))
        | (at_builtin; refine wp_append1 bagT (w0 := W1) 24 23 (.slice none 0 0) 24 rfl (.tmp 21) (.tmp 26) rfl Try.underlying24 info_bagO rfl (Ge W1.heap.size) (.slice AP k cP) (padB (xps.take k)) (p ++ [0, 0]) [.slice A3 (p.length + 2) c3] rfl rfl (HO.out.to hb3) ⟨A3, c3, by simp, (own_bag ho3).2.mono (fun j hj => ⟨Nat.le_trans hb.size hj.1, fun e => by have := HO.out.lt e.symm; have := hj.1; omega⟩)⟩ (hb.trans hb3) (by rw [HPL.out]; unfold maxLen; omega) (by rw [HPL.out]; omega) ?_; rintro v4 w4 ho4 hb4 _ _))
      rw [HT.out] at ho4
      go_roundw
      case rel => exact ⟨k + 1, _, rfl, by omega, by go_num, ho4, hb4, (fun h => absurd h (by omega) : k + 1 = 0 → _)⟩
      case measure => simp [intOf]; omega
    · obtain rfl : k = xps.length := by omega
      have hpa : padB (xps.take xps.length) = padB xps := by rw [List.take_length]
      rw [hpa] at hoP
      have HO := Lib.hid hoP
      have hbw := hb1.trans hb
      have B6 := B5.to hb
      have q0 := p0.to hb
      have q1 := p1.to hb
      have HPA := Lib.hid (show (padB xps).length = xps.length by unfold padB; rw [List.length_map])
      clear hpa hoP p0 p1 B5 HPL hb1
      rcases Nat.eq_zero_or_pos xps.length with hz | hz
      · obtain rfl : xps = [] := List.eq_nil_of_length_eq_zero hz
        obtain rfl := HNL.out rfl
        have rP : Rd bagT W All none 0 [] := Rd.nil _ _ _ _ _ (by decide)
        have HOF := Lib.hid (none_ok (xb := xb) RB.out)
        have HNP := Lib.hid (show 0 = ([] : List (List Int)).length from rfl)
        have HP2 := Lib.hid (show ([] : List (List Int)).length ≤ 1000000 by simp)
        have HP3 := Lib.hid (show ∀ p ∈ ([] : List (List Int)), p.length ≤ 1000000 from fun p hp => by simp at hp)
        obtain ⟨t0, t1, _, _⟩ := B6.cells
        clear HO hz
        go_wp2_with fail
        refine (copyInt_c _ _ _ _ _ q0 _ rfl (by omega)).mono ?_
        rintro e w8 ⟨v8, rfl, ho8, hb8⟩
        obtain ⟨A8, c8, rfl⟩ := ho8.form
        have HO8 := Lib.hid ho8
        clear ho8
        clear t0 t1
        go_wp2_with (at_builtin; refine wp_append intT (w0 := W) 22 3 (.int .i64 0) 8 rfl (.tmp 54) (.tmp 55) rfl Try.underlying22 info_int rfl (Ge W.heap.size) All (.slice A8 xb.length c8) xb [0] (some ⟨w8.heap.size, 0, none⟩) 1 1 rfl rfl rfl (HO8.out.to ((Bel.refl w8).alloc _)) (Rd.lit w8 3 [0] (by decide)) (fun _ _ h => h) (hb8.alloc _) (by unfold maxLen; simp; omega) (by simp; omega) ?_; rintro v9 w9 ho9 hb9 _ _; obtain ⟨A9, c9, rfl⟩ := own_len ho9 (n := xb.length + 1) (by simp))
        refine (of_c _ _ _ _ _ _ _ _ _ (own_bag ho9).2 (rP.to hb9) _ _ (own_bag ho9).1 HNP.out (by simp; omega) HP2.out HP3.out).mono ?_
        rw [HOF.out]
        rintro e w10 ⟨B0', d0, B1', d1, rfl, y0, y1, hb10⟩
        dsimp only at y0 y1 ⊢
        have B10 := Box.new w10 26 (.slice B0' xb.length d0) (.slice B1' 0 d1)
        have hba : Bel w10 (w10.alloc (.cells #[.slice B0' xb.length d0, .slice B1' 0 d1] 26)) := (Bel.refl w10).alloc _
        have hb910 := (hb9.trans hb10).trans hba
        have B11 := B6.to hb910
        have X0 := q0.to hb910
        have X1 := q1.to hb910
        replace y0 := y0.to hba
        replace y1 := y1.to hba
        have hbz := hbw.trans hb910
        obtain ⟨z0, z1, _, _⟩ := B11.cells
        obtain ⟨u0, u1, _, _⟩ := B10.cells
        clear hb8 hb9 hb10 hb910 hba q0 q1 B6 HO8 ho9
        go_wp2_with fail
        generalize w10.alloc (.cells #[.slice B0' xb.length d0, .slice B1' 0 d1] 26) = W10 at *
        refine (sameLin_c _ _ _ _ _ _ _ _ _ _ _ _ (xb, ([] : List (List Int))) (xb, ([] : List (List Int))) _ X0 X1 y0 y1 _ _ _ _ rfl rfl rfl rfl).mono ?_
        rw [decide_eq_true (rfl : ((xb, ([] : List (List Int))) : Lin) = (xb, ([] : List (List Int))))]
        rintro e w11 ⟨rfl, hb11⟩
        replace u0 := cell_keep u0 (hb11.block B10.lt)
        replace u1 := cell_keep u1 (hb11.block B10.lt)
        clear z0 z1
        go_wp2_with fail
        refine (linRight_c _ _ _ _ _ _ _ _ _ (y0.to hb11) (y1.to hb11) _ _ rfl rfl).mono ?_
        rw [HR.out]
        rintro e w12 ⟨rfl, hb12⟩
        go_wp2_with fail
        refine (wakes06 _).mono ?_
        rintro e w13 ⟨rfl, hb13⟩
        go_wp2
        go_ret
        exact ⟨rfl, ((hbz.trans hb11).trans hb12).trans hb13⟩
      · obtain ⟨kk, hkk⟩ := Int.eq_ofNat_of_zero_le (withinI_range (v := turn) (n := xps.length) (by omega)).1
        have hkl : kk < xps.length := by have := (withinI_range (v := turn) (n := xps.length) (by omega)).2; omega
        have HK := Lib.hid hkk
        obtain ⟨pk, hpk⟩ : ∃ pk, (padB xps)[kk]? = some pk := ⟨_, List.getElem?_eq_getElem (by rw [HPA.out]; exact hkl)⟩
        obtain ⟨AP, cP, rfl⟩ := own_len HO.out HPA.out
        obtain ⟨AP', cP', he, hrd⟩ := HO.out.bound.rd
        have hlo := fun k hk => HO.out.lt (k := k) hk
        replace hrd := hrd.mono (S' := fun k => k < W.heap.size) (fun k hk => hk.elim (fun h => h.2) (fun h => hlo k h.symm))
        clear hlo
        injection he with e1 e2 e3
        subst e1 e3
        clear e2
        have HPK := Lib.hid hpk
        have HRD := Lib.hid hrd
        clear hkk hpk hrd
        have hc1 : xps.length ≤ cP := by have := HRD.out.1; rw [HPA.out] at this; exact this
        have hc2 : cP ≤ maxLen := HRD.out.2.1
        unfold maxLen at hc2
        go_upto_region 10 with (first | (go_at_call 13; refine (within_c turn xps.length _ (by omega)).mono ?_; rw [HK.out]; rintro e w7 ⟨rfl, rfl⟩))
        have hrow : ∃ adP Bk ck, AP = some adP ∧ W.cell? (adP.add kk) = some (.slice Bk pk.length ck) ∧ Rd intT W (fun k => k < W.heap.size) Bk ck pk := by
          obtain ⟨ad, B, cb, e, hc, hr⟩ := HRD.out.row (k := kk) (by rw [HPA.out]; exact hkl)
          have hg : (padB xps)[kk]'(by rw [HPA.out]; exact hkl) = pk := by
            have := HPK.out
            rw [List.getElem?_eq_getElem (by rw [HPA.out]; exact hkl)] at this
            exact Option.some.inj this
          rw [hg] at hc hr
          exact ⟨ad, B, cb, e, hc, hr⟩
        obtain ⟨adP, Bk, ck, rfl, hcell, hkr⟩ := hrow
        have HKR := Lib.hid hkr
        have HBL := Lib.hid (show (adP.add kk).block < W.heap.size from World.block_lt_of_cell? W _ hcell)
        have HS : Hid (∀ w', Bel W w' → Bel W w' ∧ w'.cell? (adP.add kk) = some (.slice Bk pk.length ck)) := Lib.hid (fun w' h => ⟨h, cell_keep hcell (h.block HBL.out)⟩)
        have hlk : kk ≤ (padB xps).length := by rw [HPA.out]; omega
        have hck : ¬ cP = kk := by omega
        have HDR : Hid (Rd bagT W All (some (adP.add kk)) (cP - kk) ((padB xps).drop kk)) := Lib.hid (by
          have := HRD.out.drop kk hlk
          rw [if_neg hck] at this
          simpa [bagT, sl] using this.all)
        have HTR := Lib.hid (HRD.out.take kk)
        have HDL := Lib.hid (show xps.length - kk = ((padB xps).drop kk).length by rw [List.length_drop, HPA.out])
        have HTL := Lib.hid (show kk = ((padB xps).take kk).length by rw [List.length_take, HPA.out]; omega)
        have HQL := Lib.hid (show ((padB xps).drop kk ++ (padB xps).take kk).length = xps.length by rw [List.length_append, List.length_drop, List.length_take, HPA.out]; omega)
        have HQ3 := Lib.hid (show ((padB xps).drop kk ++ (padB xps).take kk).length ≤ 1000 by rw [HQL.out]; omega)
        have HZL := Lib.hid (show ((padB xps).drop kk ++ (padB xps).take kk ++ [pk, [], [0]]).length = xps.length + 3 by rw [List.length_append, HQL.out]; rfl)
        have HM1 := Lib.hid (show ((padB xps).drop kk).length + ((padB xps).take kk).length ≤ maxLen by rw [← HDL.out, ← HTL.out]; unfold maxLen; omega)
        have HM2 := Lib.hid (show (((padB xps).drop kk).length + ((padB xps).take kk).length) * 24 ≤ 140737488355328 by rw [← HDL.out, ← HTL.out]; omega)
        have k0 : (0 : Int) ≤ (kk : Int) := by omega
        have k1 : (kk : Int) < (xps.length : Int) := by omega
        have k2 : (kk : Int) ≤ (xps.length : Int) := by omega
        have k3 : (xps.length : Int) ≤ (cP : Int) := by omega
        have k4 : (kk : Int) ≤ (cP : Int) := by omega
        have k5 : (0 : Int) ≤ (cP : Int) := by omega
        clear hkr hlk
        go_cut [6] from 36 to 50 (fun v6 wx => ∃ A c, v6 = .slice A (xps.length + 3) c ∧ Rd bagT wx All A c ((padB xps).drop kk ++ (padB xps).take kk ++ [pk, [], [0]]) ∧ Bel W wx)
        case first =>
          clear HNL HRD HK Hx HR RB GP q0 q1 B6 HO hbw
          go_region_held3 (fun w' => Bel W w' ∧ w'.cell? (adP.add kk) = some (.slice Bk pk.length ck)) (exact HS.out _ (by repeat first | exact (Bel.refl W) | exact hb50 | exact hb43 | exact hb39 | refine Bel.alloc ?_ _ | refine Bel.drew ?_))
            (first
              | (go_at_call 14
                 refine (copyBag_c All (some (adP.add kk)) (cP - kk) ((padB xps).drop kk) _ (HDR.out.to (by repeat first | exact (Bel.refl W) | refine Bel.alloc ?_ _ | refine Bel.drew ?_)) (xps.length - kk) HDL.out (by rw [← HDL.out]; omega)).mono ?_
                 rintro e w39 ⟨v39, rfl, ho39, hq39⟩
                 have hb39 : Bel W w39 := Bel.trans (by repeat first | exact (Bel.refl W) | refine Bel.alloc ?_ _ | refine Bel.drew ?_) hq39
                 have s39 := hq39.size
                 obtain ⟨A39, c39, rfl⟩ := own_len ho39 HDL.out.symm)
              | (first
                  | (refine lastStep (v43 := .slice A43 xps.length c43) (N48 := w43.heap.size) (N49 := w43.heap.size + 1) rfl rfl ?_ ?_ ?_ HKR.out ?_ ?_ ?_ ?_ ?_ HQ3.out ?_
                     · simp [Act.eval]; done
                     · simp [Act.eval]; done
                     · refine ho43.to ?_
                       (repeat first | exact Bel.refl _ | exact hq39 | exact Bel.trans ((Bel.refl _).alloc _) hq39 | refine Bel.alloc ?_ _)
                     · refine Bel.trans hb43 ?_
                       (repeat first | exact Bel.refl _ | exact hq39 | exact Bel.trans ((Bel.refl _).alloc _) hq39 | refine Bel.alloc ?_ _)
                     · refine Bel.new1 (X := w43) ?_ (by simp)
                       (repeat first | exact Bel.refl _ | exact hq39 | exact Bel.trans ((Bel.refl _).alloc _) hq39 | refine Bel.alloc ?_ _)
                     · refine Bel.new1 (X := w43.alloc (.cells #[.int .i64 0] 3)) ?_ (by simp)
                       (repeat first | exact Bel.refl _ | exact hq39 | exact Bel.trans ((Bel.refl _).alloc _) hq39 | refine Bel.alloc ?_ _)
                     · refine own_ne (fun k e => ⟨ho39.ge e, ho39.lt e⟩) (fun k e => ho43.lt e) hk43 ?_
                       first | omega | (simp at s39 s43 ⊢; omega) | (simp at s39 s43 ⊢; done)
                     · refine own_ne (fun k e => ⟨ho39.ge e, ho39.lt e⟩) (fun k e => ho43.lt e) hk43 ?_
                       first | omega | (simp at s39 s43 ⊢; omega) | (simp at s39 s43 ⊢; done))
                  | (refine lastStep (v43 := .slice A43 xps.length c43) (N48 := w39.heap.size) (N49 := w43.heap.size) rfl rfl ?_ ?_ ?_ HKR.out ?_ ?_ ?_ ?_ ?_ HQ3.out ?_
                     · simp [Act.eval]; done
                     · simp [Act.eval]; done
                     · refine ho43.to ?_
                       (repeat first | exact Bel.refl _ | exact hq39 | exact Bel.trans ((Bel.refl _).alloc _) hq39 | refine Bel.alloc ?_ _)
                     · refine Bel.trans hb43 ?_
                       (repeat first | exact Bel.refl _ | exact hq39 | exact Bel.trans ((Bel.refl _).alloc _) hq39 | refine Bel.alloc ?_ _)
                     · refine Bel.new2 (X := w39) ?_ hg43 ?_ (by simp) (fun k e => ⟨ho39.ge e, ho39.lt e⟩) ?_
                       · (repeat first | exact Bel.refl _ | exact hq39 | exact Bel.trans ((Bel.refl _).alloc _) hq39 | refine Bel.alloc ?_ _)
                       · (repeat first | exact Bel.refl _ | exact hq39 | exact Bel.trans ((Bel.refl _).alloc _) hq39 | refine Bel.alloc ?_ _)
                       · first | omega | (simp at s39 s43 ⊢; omega) | (simp at s39 s43 ⊢; done)
                     · refine Bel.new1 (X := w43) ?_ (by simp)
                       (repeat first | exact Bel.refl _ | exact hq39 | exact Bel.trans ((Bel.refl _).alloc _) hq39 | refine Bel.alloc ?_ _)
                     · refine own_ne (fun k e => ⟨ho39.ge e, ho39.lt e⟩) (fun k e => ho43.lt e) hk43 ?_
                       first | omega | (simp at s39 s43 ⊢; omega) | (simp at s39 s43 ⊢; done)
                     · refine own_ne (fun k e => ⟨ho39.ge e, ho39.lt e⟩) (fun k e => ho43.lt e) hk43 ?_
                       first | omega | (simp at s39 s43 ⊢; omega) | (simp at s39 s43 ⊢; done))
                  | (refine lastStep (v43 := .slice A43 xps.length c43) (N48 := w39.heap.size) (N49 := w39.heap.size + 1) rfl rfl ?_ ?_ ?_ HKR.out ?_ ?_ ?_ ?_ ?_ HQ3.out ?_
                     · simp [Act.eval]; done
                     · simp [Act.eval]; done
                     · refine ho43.to ?_
                       (repeat first | exact Bel.refl _ | exact hq39 | exact Bel.trans ((Bel.refl _).alloc _) hq39 | refine Bel.alloc ?_ _)
                     · refine Bel.trans hb43 ?_
                       (repeat first | exact Bel.refl _ | exact hq39 | exact Bel.trans ((Bel.refl _).alloc _) hq39 | refine Bel.alloc ?_ _)
                     · refine Bel.new2 (X := w39) ?_ hg43 ?_ (by simp) (fun k e => ⟨ho39.ge e, ho39.lt e⟩) ?_
                       · (repeat first | exact Bel.refl _ | exact hq39 | exact Bel.trans ((Bel.refl _).alloc _) hq39 | refine Bel.alloc ?_ _)
                       · (repeat first | exact Bel.refl _ | exact hq39 | exact Bel.trans ((Bel.refl _).alloc _) hq39 | refine Bel.alloc ?_ _)
                       · first | omega | (simp at s39 s43 ⊢; omega) | (simp at s39 s43 ⊢; done)
                     · refine Bel.new2 (X := w39.alloc (.cells #[.int .i64 0] 3)) ?_ hg43 ?_ (by simp) (fun k e => ⟨ho39.ge e, ho39.lt e⟩) ?_
                       · (repeat first | exact Bel.refl _ | exact hq39 | exact Bel.trans ((Bel.refl _).alloc _) hq39 | refine Bel.alloc ?_ _)
                       · (repeat first | exact Bel.refl _ | exact hq39 | exact Bel.trans ((Bel.refl _).alloc _) hq39 | refine Bel.alloc ?_ _)
                       · first | omega | (simp at s39 s43 ⊢; omega) | (simp at s39 s43 ⊢; done)
                     · refine own_ne (fun k e => ⟨ho39.ge e, ho39.lt e⟩) (fun k e => ho43.lt e) hk43 ?_
                       first | omega | (simp at s39 s43 ⊢; omega) | (simp at s39 s43 ⊢; done)
                     · refine own_ne (fun k e => ⟨ho39.ge e, ho39.lt e⟩) (fun k e => ho43.lt e) hk43 ?_
                       first | omega | (simp at s39 s43 ⊢; omega) | (simp at s39 s43 ⊢; done))
                  | (refine lastStep (v43 := .slice A43 xps.length c43) (N48 := W.heap.size) (N49 := w43.heap.size) rfl rfl ?_ ?_ ?_ HKR.out ?_ ?_ ?_ ?_ ?_ HQ3.out ?_
                     · simp [Act.eval]; done
                     · simp [Act.eval]; done
                     · refine ho43.to ?_
                       (repeat first | exact Bel.refl _ | exact hq39 | exact Bel.trans ((Bel.refl _).alloc _) hq39 | refine Bel.alloc ?_ _)
                     · refine Bel.trans hb43 ?_
                       (repeat first | exact Bel.refl _ | exact hq39 | exact Bel.trans ((Bel.refl _).alloc _) hq39 | refine Bel.alloc ?_ _)
                     · refine Bel.new2 (X := W.drew) ?_ hg43 ?_ (by simp) (fun k e => ⟨ho39.ge e, ho39.lt e⟩) ?_
                       · (repeat first | exact Bel.refl _ | exact hq39 | exact Bel.trans ((Bel.refl _).alloc _) hq39 | refine Bel.alloc ?_ _)
                       · (repeat first | exact Bel.refl _ | exact hq39 | exact Bel.trans ((Bel.refl _).alloc _) hq39 | refine Bel.alloc ?_ _)
                       · first | omega | (simp at s39 s43 ⊢; omega) | (simp at s39 s43 ⊢; done)
                     · refine Bel.new1 (X := w43) ?_ (by simp)
                       (repeat first | exact Bel.refl _ | exact hq39 | exact Bel.trans ((Bel.refl _).alloc _) hq39 | refine Bel.alloc ?_ _)
                     · refine own_ne (fun k e => ⟨ho39.ge e, ho39.lt e⟩) (fun k e => ho43.lt e) hk43 ?_
                       first | omega | (simp at s39 s43 ⊢; omega) | (simp at s39 s43 ⊢; done)
                     · refine own_ne (fun k e => ⟨ho39.ge e, ho39.lt e⟩) (fun k e => ho43.lt e) hk43 ?_
                       first | omega | (simp at s39 s43 ⊢; omega) | (simp at s39 s43 ⊢; done))
                  | (refine lastStep (v43 := .slice A43 xps.length c43) (N48 := W.heap.size) (N49 := w39.heap.size) rfl rfl ?_ ?_ ?_ HKR.out ?_ ?_ ?_ ?_ ?_ HQ3.out ?_
                     · simp [Act.eval]; done
                     · simp [Act.eval]; done
                     · refine ho43.to ?_
                       (repeat first | exact Bel.refl _ | exact hq39 | exact Bel.trans ((Bel.refl _).alloc _) hq39 | refine Bel.alloc ?_ _)
                     · refine Bel.trans hb43 ?_
                       (repeat first | exact Bel.refl _ | exact hq39 | exact Bel.trans ((Bel.refl _).alloc _) hq39 | refine Bel.alloc ?_ _)
                     · refine Bel.new2 (X := W.drew) ?_ hg43 ?_ (by simp) (fun k e => ⟨ho39.ge e, ho39.lt e⟩) ?_
                       · (repeat first | exact Bel.refl _ | exact hq39 | exact Bel.trans ((Bel.refl _).alloc _) hq39 | refine Bel.alloc ?_ _)
                       · (repeat first | exact Bel.refl _ | exact hq39 | exact Bel.trans ((Bel.refl _).alloc _) hq39 | refine Bel.alloc ?_ _)
                       · first | omega | (simp at s39 s43 ⊢; omega) | (simp at s39 s43 ⊢; done)
                     · refine Bel.new2 (X := w39) ?_ hg43 ?_ (by simp) (fun k e => ⟨ho39.ge e, ho39.lt e⟩) ?_
                       · (repeat first | exact Bel.refl _ | exact hq39 | exact Bel.trans ((Bel.refl _).alloc _) hq39 | refine Bel.alloc ?_ _)
                       · (repeat first | exact Bel.refl _ | exact hq39 | exact Bel.trans ((Bel.refl _).alloc _) hq39 | refine Bel.alloc ?_ _)
                       · first | omega | (simp at s39 s43 ⊢; omega) | (simp at s39 s43 ⊢; done)
                     · refine own_ne (fun k e => ⟨ho39.ge e, ho39.lt e⟩) (fun k e => ho43.lt e) hk43 ?_
                       first | omega | (simp at s39 s43 ⊢; omega) | (simp at s39 s43 ⊢; done)
                     · refine own_ne (fun k e => ⟨ho39.ge e, ho39.lt e⟩) (fun k e => ho43.lt e) hk43 ?_
                       first | omega | (simp at s39 s43 ⊢; omega) | (simp at s39 s43 ⊢; done))
                  | (refine lastStep (v43 := .slice A43 xps.length c43) (N48 := W.heap.size) (N49 := W.heap.size + 1) rfl rfl ?_ ?_ ?_ HKR.out ?_ ?_ ?_ ?_ ?_ HQ3.out ?_
                     · simp [Act.eval]; done
                     · simp [Act.eval]; done
                     · refine ho43.to ?_
                       (repeat first | exact Bel.refl _ | exact hq39 | exact Bel.trans ((Bel.refl _).alloc _) hq39 | refine Bel.alloc ?_ _)
                     · refine Bel.trans hb43 ?_
                       (repeat first | exact Bel.refl _ | exact hq39 | exact Bel.trans ((Bel.refl _).alloc _) hq39 | refine Bel.alloc ?_ _)
                     · refine Bel.new2 (X := W.drew) ?_ hg43 ?_ (by simp) (fun k e => ⟨ho39.ge e, ho39.lt e⟩) ?_
                       · (repeat first | exact Bel.refl _ | exact hq39 | exact Bel.trans ((Bel.refl _).alloc _) hq39 | refine Bel.alloc ?_ _)
                       · (repeat first | exact Bel.refl _ | exact hq39 | exact Bel.trans ((Bel.refl _).alloc _) hq39 | refine Bel.alloc ?_ _)
                       · first | omega | (simp at s39 s43 ⊢; omega) | (simp at s39 s43 ⊢; done)
                     · refine Bel.new2 (X := W.drew.alloc (.cells #[.int .i64 0] 3)) ?_ hg43 ?_ (by simp) (fun k e => ⟨ho39.ge e, ho39.lt e⟩) ?_
                       · (repeat first | exact Bel.refl _ | exact hq39 | exact Bel.trans ((Bel.refl _).alloc _) hq39 | refine Bel.alloc ?_ _)
                       · (repeat first | exact Bel.refl _ | exact hq39 | exact Bel.trans ((Bel.refl _).alloc _) hq39 | refine Bel.alloc ?_ _)
                       · first | omega | (simp at s39 s43 ⊢; omega) | (simp at s39 s43 ⊢; done)
                     · refine own_ne (fun k e => ⟨ho39.ge e, ho39.lt e⟩) (fun k e => ho43.lt e) hk43 ?_
                       first | omega | (simp at s39 s43 ⊢; omega) | (simp at s39 s43 ⊢; done)
                     · refine own_ne (fun k e => ⟨ho39.ge e, ho39.lt e⟩) (fun k e => ho43.lt e) hk43 ?_
                       first | omega | (simp at s39 s43 ⊢; omega) | (simp at s39 s43 ⊢; done))
                 rintro v50 w50 ho50 hb50
                 obtain ⟨A50, c50, rfl⟩ := own_len ho50 HZL.out)
              | (refine step_append_own bagT (w0 := W) 24 23 (.slice none 0 0) 24 rfl (.tmp 39) (.tmp 42) rfl Try.underlying24 info_bagO rfl All (fun k => k < W.heap.size) (.slice A39 (xps.length - kk) c39) ((padB xps).drop kk) ((padB xps).take kk) (some adP) kk cP ?_ ?_ HTL.out ?_ ?_ ?_ ?_ HM1.out HM2.out ?_
                 · simp [Act.eval]
                 · simp [Act.eval]
                 · exact (ho39.lower (by first | (simp; done) | (simp; omega))).to (by repeat first | exact (Bel.refl w39) | refine Bel.alloc ?_ _)
                 · exact HTR.out.to (by repeat first | exact hb39 | refine Bel.alloc ?_ _)
                 · exact fun x cs h => bagT.mono (fun k hk => ⟨trivial, fun e => absurd hk (Nat.not_lt.2 ((ho39.lower (base' := W.heap.size) (by first | (simp; done) | (simp; omega))).ge e.symm))⟩) h
                 · exact (by repeat first | exact hb39 | refine Bel.alloc ?_ _)
                 rintro v43 w43 ho43 hb43 hg43 hk43
                 have s43 := hg43.size
                 obtain ⟨A43, c43, rfl⟩ := own_len ho43 HQL.out))
          all_goals
            try go_wp2_with fail
            go_meet
            obtain ⟨A51, c51, he51, hr51⟩ := ho50.rdAll
            injection he51 with e1 e2 e3
            subst e1 e3
            exact ⟨_, _, rfl, hr51, hb50⟩
        case rest =>
          obtain ⟨Az, cz, rfl, rP, hbz0⟩ := hcut
          try clear HS
          try clear HDR
          try clear HTR
          try clear HKR
          try clear HRD
          try clear HQL
          try clear HQ3
          try clear HM1
          try clear HM2
          try clear HDL
          try clear HTL
          try clear HBL
          try clear hcell
          try clear k0
          try clear k1
          try clear k2
          try clear k3
          try clear k4
          try clear k5
          try clear HNL
          try clear HO
          have HOF := Lib.hid (turn_ok (xb := xb) (xps := xps) RB.out GP.out HPK.out)
          obtain ⟨pz, hpz⟩ : ∃ pz, (padB xps).drop kk ++ (padB xps).take kk ++ [pk, [], [0]] = pz := ⟨_, rfl⟩
          rw [hpz] at rP HOF
          have HNP : Hid (xps.length + 3 = pz.length) := Lib.hid (by rw [← hpz, HZL.out])
          have HP2 : Hid (pz.length ≤ 1000000) := Lib.hid (by rw [← HNP.out]; omega)
          have HP3 : Hid (∀ p ∈ pz, p.length ≤ 1000000) := Lib.hid (by
            rw [← hpz]
            exact turn_lens (fun p hp => (GP.out.each p hp).2) HPK.out)
          clear hpz HZL HPK
          replace q0 := q0.to hbz0
          replace q1 := q1.to hbz0
          replace B6 := B6.to hbz0
          replace hbw := hbw.trans hbz0
          clear hbz0
          generalize wc = wx at *
          obtain ⟨t0, t1, _, _⟩ := B6.cells
          go_wp2_with fail
          refine (copyInt_c _ _ _ _ _ q0 _ rfl (by omega)).mono ?_
          rintro e w8 ⟨v8, rfl, ho8, hb8⟩
          obtain ⟨A8, c8, rfl⟩ := ho8.form
          have HO8 := Lib.hid ho8
          clear ho8
          go_wp2_with (at_builtin; refine wp_append intT (w0 := wx) 22 3 (.int .i64 0) 8 rfl (.tmp 54) (.tmp 55) rfl Try.underlying22 info_int rfl (Ge wx.heap.size) All (.slice A8 xb.length c8) xb [0] (some ⟨w8.heap.size, 0, none⟩) 1 1 rfl rfl rfl (HO8.out.to ((Bel.refl w8).alloc _)) (Rd.lit w8 3 [0] (by decide)) (fun _ _ h => h) (hb8.alloc _) (by unfold maxLen; simp; omega) (by simp; omega) ?_; rintro v9 w9 ho9 hb9 _ _; obtain ⟨A9, c9, rfl⟩ := own_len ho9 (n := xb.length + 1) (by simp))
          refine (of_c _ _ _ _ _ _ _ _ _ (own_bag ho9).2 (rP.to hb9) _ _ (own_bag ho9).1 HNP.out (by simp; omega) HP2.out HP3.out).mono ?_
          rw [HOF.out]
          rintro e w10 ⟨B0', d0, B1', d1, rfl, y0, y1, hb10⟩
          dsimp only at y0 y1 ⊢
          have B10 := Box.new w10 26 (.slice B0' xb.length d0) (.slice B1' xps.length d1)
          have hba : Bel w10 (w10.alloc (.cells #[.slice B0' xb.length d0, .slice B1' xps.length d1] 26)) := (Bel.refl w10).alloc _
          have hb910 := (hb9.trans hb10).trans hba
          have B11 := B6.to hb910
          have X0 := q0.to hb910
          have X1 := q1.to hb910
          replace y0 := y0.to hba
          replace y1 := y1.to hba
          have hbz := hbw.trans hb910
          obtain ⟨z0, z1, _, _⟩ := B11.cells
          obtain ⟨u0, u1, _, _⟩ := B10.cells
          clear hb8 hb9 hb10 hb910 hba q0 q1 B6 HO8 ho9
          go_wp2_with fail
          generalize w10.alloc (.cells #[.slice B0' xb.length d0, .slice B1' xps.length d1] 26) = W10 at *
          refine (sameLin_c _ _ _ _ _ _ _ _ _ _ _ _ (xb, xps) (xb, xps) _ X0 X1 y0 y1 _ _ _ _ rfl rfl rfl rfl).mono ?_
          rw [decide_eq_true (rfl : ((xb, xps) : Lin) = (xb, xps))]
          rintro e w11 ⟨rfl, hb11⟩
          replace u0 := cell_keep u0 (hb11.block B10.lt)
          replace u1 := cell_keep u1 (hb11.block B10.lt)
          clear z0 z1
          go_wp2_with fail
          refine (linRight_c _ _ _ _ _ _ _ _ _ (y0.to hb11) (y1.to hb11) _ _ rfl rfl).mono ?_
          rw [HR.out]
          rintro e w12 ⟨rfl, hb12⟩
          go_wp2_with fail
          refine (wakes06 _).mono ?_
          rintro e w13 ⟨rfl, hb13⟩
          go_wp2
          go_ret
          exact ⟨rfl, ((hbz.trans hb11).trans hb12).trans hb13⟩
end Go.Proofs.Ytghdleofbkalbaa
namespace Go.Proofs.Ytghdleofbkalbaa.rowLinMade
open Go.ChangeShapes Go.WideShapes Go.ChangeAt Go.RowKit Go.Cb
open Go.ChangeMaps (open_string shut_string)
theorem own : ownKnob Try.prog.godebug = none := by kernel_rfl
theorem laidOut : laidOutB Try.prog = true := by kernel_rfl
set_option maxRecDepth 100000 in
theorem lifted (os : Os) (started : os.Started) (H : Type) (enc : TypeId × Value → H) :
    ReturnsInHanded {} Try.checked os 4 .any (Rows.linMadeSpec.pre6 enc Try.prog Try.f4 Rows.linMadeRow.domain false) (Rows.linMadeSpec.post enc Try.prog Try.f4 false true false false) := by
  refine returnsInHanded_of_change_sized (C := Try.checked) own started (by kernel_rfl) Try.func4
    (ChangeSpec.witness6 (enc := enc) (C := Try.checked) false ⟨#[], #[.slice none 0 0, .int .i64 0], []⟩ 8 (by kernel_rfl) (by kernel_rfl) (by kernel_rfl) (by kernel_rfl)) ?_
  intro W base args ds gs before hval0 hW hcnd hsz0 _
  have hsz : (DataW.weightsEach Try.prog (Try.f4.params.toList ++ Rows.linMadeSpec.plain.varTypes Try.prog) (ds ++ gs)).all (· ≤ reachBytes) = true := hsz0
  have hval : ∀ (j : Nat) t v, Try.f4.params[j]? = some t → args[j]? = some v → Value.okWide Try.prog W .any base t v := hval0
  have hW' := hW
  obtain ⟨p, q, hA0, hV, rfl, hfz, hnd⟩ := hW
  have hA : DataW.TrodAll enc Try.prog W 0 (fun _ => true) true Try.f4.params.toList args.toList ds p := hA0
  rw [Try.params4] at hA hval hsz
  obtain ⟨v0, vs0, d0, ds0, p0, q0, hargs, rfl, rfl, h0, r0⟩ := trodAll_cons hA
  obtain ⟨v1, vs1, d1, ds1, p1, q1, rfl, rfl, rfl, h1, r1⟩ := trodAll_cons r0
  obtain ⟨rfl, rfl, rfl⟩ := trodAll_nil r1
  obtain rfl : args = #[v0, v1] := by cases args; simp_all
  obtain ⟨rfl, rfl⟩ := trodVars_none hV
  obtain ⟨a0, len0, cap0, rfl⟩ := okWide_slice Try.underlying22 (hval 0 22 v0 rfl rfl)
  have k0 := h0
  have lt0 : ∀ x ∈ p0, x.block < W.heap.size := by obtain ⟨m, hm⟩ := k0; exact DataW.trod_lt m _ _ _ hm
  obtain ⟨l0, rfl, R0, wf0, sz0⟩ := open_rd hsz (j := 0) (t := 22) rfl rfl Try.underlying22 Try.underlying3 (by kernel_rfl) (by kernel_rfl) h0
  obtain ⟨a1, rfl, rfl, rfl, w1⟩ := open_int Try.underlying3 (hval 1 3 v1 rfl rfl) h1
  clear hA0 hval0 hsz0 hsz
  refine (LinMade_walk W a0 cap0 l0 R0 (fun x hx => inI64_wf (wf0 x hx)) sz0 a1 (inI64_wf w1)).mono fun e W' ⟨he, bel⟩ => ?_
  subst he
  exact ⟨_, rfl, _, _, _, [], _, [], hW', trodAll_mk1 (shut_bool Try.underlying4 _), (trodAll_cons_mk (Below.trod laidOut (by kernel_rfl) (of_decide_eq_true (by kernel_rfl)) k0 bel.out lt0) (trodAll_cons_mk (shut_int Try.underlying3 w1) trodAll_mk0)), rfl, bel.out.frame _, fun h => by cases h⟩
theorem over : Rows.linMadeRow.holds Try.pinned (OpenSpec.ofChange Rows.linMadeSpec) :=
  OpenClaim.holds_of_wide 4 Try.f4 rfl rfl rfl rfl rfl rfl rfl ⟨rfl, rfl, rfl, rfl, rfl⟩ rfl rfl rfl rfl rfl (by kernel_rfl) Try.func4 (by kernel_rfl)
    (of_decide_eq_true (by kernel_rfl)) (by unfold Func.isWrapper; first | (rw [if_pos (by decide +kernel)]; kernel_rfl) | (rw [if_neg (by decide +kernel)]; exact ⟨rfl, rfl⟩))
    (fun os started H enc _ => lifted os started H enc)
end Go.Proofs.Ytghdleofbkalbaa.rowLinMade
namespace Go.Proofs.Ytghdleofbkalbaa
theorem LinMade_holds : Rows.LinMadeSaid := rowLinMade.over
#print axioms LinMade_holds
end Go.Proofs.Ytghdleofbkalbaa
