/- Walks: patterns, right or not, as the code looks at them. -/
import Derived.Test.YtfkopkjioohgoaaPureQ
set_option linter.unusedVariables false
set_option linter.unusedSimpArgs false
set_option linter.all false
namespace Go.Cb
open Go.RowKit
theorem nth_cellW {w : World} {ad : Addr} {n j : Nat} {v : Value} (h : w.cell? (ad.add (n + (j + 1))) = some v) : w.cell? ⟨(ad.add n).block, (ad.add n).off + (j + 1), none⟩ = some v := by
  have : (⟨(ad.add n).block, (ad.add n).off + (j + 1), none⟩ : Addr) = ad.add (n + (j + 1)) := by
    obtain ⟨b, o, sp⟩ := ad
    unfold Addr.add
    by_cases h1 : n = 0
    · subst h1; simp
    · simp [h1]; omega
  rw [this]
  exact h
theorem Rd.prowW {w : World} {S : Nat → Prop} {A : Option Addr} {c : Nat} {xs : List PN} (h : Rd patT w S A c xs) {k : Nat} {x : PN} (hk : xs[k]? = some x) :
    ∃ ad, A = some ad ∧ w.cell? (ad.add (k * 5)) = some (.int .i64 x.k) ∧ w.cell? ⟨(ad.add (k * 5)).block, (ad.add (k * 5)).off + 1, none⟩ = some (.int .i64 x.a) ∧ w.cell? ⟨(ad.add (k * 5)).block, (ad.add (k * 5)).off + 2, none⟩ = some (.int .i64 x.b) ∧ w.cell? ⟨(ad.add (k * 5)).block, (ad.add (k * 5)).off + 3, none⟩ = some (.int .i64 x.n) ∧ w.cell? ⟨(ad.add (k * 5)).block, (ad.add (k * 5)).off + 4, none⟩ = some (.string x.s) := by
  obtain ⟨ad, cs, e, hS, hr, hc⟩ := h.2.2 k _ hk
  obtain rfl : cs = [.int .i64 x.k, .int .i64 x.a, .int .i64 x.b, .int .i64 x.n, .string x.s] := hr
  exact ⟨ad, e, hc 0 _ rfl, nth_cellW (hc 1 _ rfl), nth_cellW (hc 2 _ rfl), nth_cellW (hc 3 _ rfl), nth_cellW (hc 4 _ rfl)⟩
/-- A piece, where it lies. -/
theorem Rd.pce {w : World} {S : Nat → Prop} {A : Option Addr} {c : Nat} {xs : List (Int × Bool)} (h : Rd pcT w S A c xs) {k : Nat} {x : Int × Bool} (hk : xs[k]? = some x) :
    ∃ ad, A = some ad ∧ w.cell? (ad.add (k * 2)) = some (.int .i64 x.1) ∧ w.cell? ⟨(ad.add (k * 2)).block, (ad.add (k * 2)).off + 1, none⟩ = some (.bool x.2) := by
  obtain ⟨ad, cs, e, hS, hr, hc⟩ := h.2.2 k _ hk
  obtain rfl : cs = [.int .i64 x.1, .bool x.2] := hr
  exact ⟨ad, e, hc 0 _ rfl, nth_cellW (hc 1 _ rfl)⟩
/-- The round's two blocks: the node without its name, the piece. -/
theorem two_blocks (W : World) (t9 : TypeId) (k a b n : Int) (s : ByteArray) (t7 : TypeId) (i : Int) : ∃ W3, ((W.alloc (.cells #[.int .i64 k, .int .i64 a, .int .i64 b, .int .i64 n, .string s] t7)).alloc (.cells #[.int .i64 i, .bool false] t9)).setCell ⟨W.heap.size, 4, none⟩ (.string ⟨#[]⟩) = W3 ∧
    W3.heap[W.heap.size]? = some (.cells #[.int .i64 k, .int .i64 a, .int .i64 b, .int .i64 n, .string ⟨#[]⟩] t7) ∧ W3.heap[W.heap.size + 1]? = some (.cells #[.int .i64 i, .bool false] t9) ∧ Bel W W3 ∧ W3.heap.size = W.heap.size + 2 := by
  have e1 : (W.alloc (.cells #[.int .i64 k, .int .i64 a, .int .i64 b, .int .i64 n, .string s] t7)).heap.size = W.heap.size + 1 := by simp
  have h1 : ((W.alloc (.cells #[.int .i64 k, .int .i64 a, .int .i64 b, .int .i64 n, .string s] t7)).alloc (.cells #[.int .i64 i, .bool false] t9)).heap[W.heap.size]? = some (.cells #[.int .i64 k, .int .i64 a, .int .i64 b, .int .i64 n, .string s] t7) :=
    (((Bel.refl _).alloc _).block (by omega)).trans (heap_alloc_new W _)
  have h2 : ((W.alloc (.cells #[.int .i64 k, .int .i64 a, .int .i64 b, .int .i64 n, .string s] t7)).alloc (.cells #[.int .i64 i, .bool false] t9)).heap[W.heap.size + 1]? = some (.cells #[.int .i64 i, .bool false] t9) := by
    rw [← e1]; exact heap_alloc_new _ _
  refine ⟨_, rfl, ?_, ?_, (((Bel.refl W).alloc _).alloc _).set (Nat.le_refl _) _, by rw [World.size_setCell]; simp⟩
  · simp [World.setCell, Array.getElem?_modify, h1]
  · exact (Below.heap_setCell _ _ _ _ (by show W.heap.size + 1 ≠ W.heap.size; omega)).trans h2
section
variable {P : Program} {ops : Array Oper} {rest : List Oper} {o : Oper} {a : Act} {Q : Exit → Act → World → Prop}
theorem wp_append1w {α : Type} (d : Ty α) {w0 W : World} (t e : TypeId) (z : Value) (bytes : Nat) (hgd : o.guard = none) (s x : Operand)
    (ho : o.op = .call { callee := .builtin .append, args := #[s, x], argTypes := #[t, t] })
    (ht : P.underlying t = some (.slice e)) (hinfo : (P.info? e).map (fun i => (i.zero, i.size, i.bytes)) = some (some z, d.sz, bytes)) (hz : z.cells.size = d.sz)
    (S : Nat → Prop) (v : Value) (xs : List α) (y : α) (cs : List Value) (b : Nat) (hb : b = W.heap.size) (hs : a.eval s = v) (hx : a.eval x = .slice (some ⟨b, 0, none⟩) 1 1) (HO : Own d e W w0.heap.size S v xs) (HR : d.rd W (fun k => S k ∧ some k ≠ v.ownBlock) y cs)
    (HB : Bel w0 W) (hl : xs.length + 1 ≤ maxLen) (hl2 : (xs.length + 1) * bytes ≤ 140737488355328)
    (h : ∀ v1 w1, Own d e w1 w0.heap.size S v1 (xs ++ [y]) → Bel w0 w1 → W.grownBy w1 v.ownBlock → (v1.ownBlock = v.ownBlock ∨ ∃ b, v1.ownBlock = some b ∧ W.heap.size ≤ b) → wpList P ops Q rest (a.put o.dst v1) w1) :
    wpList P ops Q (o :: rest) a (W.alloc (.cells cs.toArray e)) :=
  wp_append1 d t e z bytes hgd s x ho ht hinfo hz S v xs y cs hs (by rw [← hb]; exact hx) HO HR HB hl hl2 h
end
theorem own_pce {w : World} {e : TypeId} {b go n c : Nat} {S : Nat → Prop} {xs : List (Int × Bool)} (h : Own pcT e w b S (.slice (some ⟨go, 0, none⟩) n c) xs) {k : Nat} {x : Int × Bool} (hk : xs[k]? = some x) :
    w.cell? ⟨go, k * 2, none⟩ = some (.int .i64 x.1) ∧ w.cell? ⟨go, k * 2 + 1, none⟩ = some (.bool x.2) := by
  obtain ⟨A', c', e1, hr⟩ := h.rd
  injection e1 with e1 _ _
  subst e1
  obtain ⟨ad, e2, h1, h2⟩ := hr.pce hk
  injection e2 with e2
  subst e2
  have hadd : (⟨go, 0, none⟩ : Addr).add (k * 2) = ⟨go, k * 2, none⟩ := by
    unfold Addr.add
    by_cases h1 : k * 2 = 0
    · simp [h1]
    · simp [h1]
  rw [hadd] at h1 h2
  exact ⟨h1, h2⟩
end Go.Cb
namespace Go.Proofs.Ytfkopkjioohgoaa
open Go.RowKit Go.Cb Go.Sort
theorem info_pce : (Try.prog.info? 91).map (fun i => (i.zero, i.size, i.bytes)) = some (some (.agg #[.int .i64 0, .bool false]), 2, 16) := by kernel_rfl
theorem tagOk_c (T : Nat) (x : PN) (tags : Int) (w : World) (hT : w.cell? ⟨T, 0, none⟩ = some (.int .i64 tags)) :
    Calls Try.prog 34 #[.agg #[.int .i64 x.k, .int .i64 x.a, .int .i64 x.b, .int .i64 x.n, .string x.s], .pointer (some ⟨T, 0, none⟩)] w fun e w' => e = .returned (.bool (tagB tags x)) ∧ Bel w w' := by
  obtain ⟨xk, xa, xb, xn, xs⟩ := x
  dsimp only
  have hal : Bel w (w.alloc (.cells #[.int .i64 xk, .int .i64 xa, .int .i64 xb, .int .i64 xn, .string xs] 35)) := (Bel.refl _).alloc _
  have hT1 := cell_keep hT (hal.block (World.block_lt_of_cell? _ _ hT))
  have hU : tagB tags ⟨xk, xa, xb, xn, xs⟩ = (decide (0 ≤ xn) && (decide (xn < tags) && (decide (1 ≤ xa) && (decide (xa ≤ 999999999) && (xb == 0))))) := rfl
  have HU := Lib.hid hU
  clear hU
  by_cases h0 : 0 ≤ xn
  · have d0 : decide (0 ≤ xn) = true := decide_eq_true h0
    by_cases h1 : xn < tags
    · have d1 : decide (xn < tags) = true := decide_eq_true h1
      by_cases h2 : 1 ≤ xa
      · have d2 : decide (1 ≤ xa) = true := decide_eq_true h2
        by_cases h3 : xa ≤ 999999999
        · have d3 : decide (xa ≤ 999999999) = true := decide_eq_true h3
          have HV := Lib.hid (HU.out.trans (by rw [d0, d1, d2, d3]; rfl : _ = (xb == 0)))
          clear h0 h1 h2 h3
          go_enter Try.func34, Try.ntmps34
          go_wp2
          go_ret
          exact ⟨by rw [HV.out]; rfl, hal⟩
        · have d3 : decide (xa ≤ 999999999) = false := decide_eq_false h3
          have HV := Lib.hid (HU.out.trans (by rw [d0, d1, d2, d3]; rfl : _ = false))
          clear h0 h1 h2 h3
          go_enter Try.func34, Try.ntmps34
          go_wp2
          go_ret
          exact ⟨by rw [HV.out]; rfl, hal⟩
      · have d2 : decide (1 ≤ xa) = false := decide_eq_false h2
        have HV := Lib.hid (HU.out.trans (by rw [d0, d1, d2]; rfl : _ = false))
        clear h0 h1 h2
        go_enter Try.func34, Try.ntmps34
        go_wp2
        go_ret
        exact ⟨by rw [HV.out]; rfl, hal⟩
    · have d1 : decide (xn < tags) = false := decide_eq_false h1
      have HV := Lib.hid (HU.out.trans (by rw [d0, d1]; rfl : _ = false))
      clear h0 h1
      go_enter Try.func34, Try.ntmps34
      go_wp2
      go_ret
      exact ⟨by rw [HV.out]; rfl, hal⟩
  · have d0 : decide (0 ≤ xn) = false := decide_eq_false h0
    have HV := Lib.hid (HU.out.trans (by rw [d0]; rfl : _ = false))
    clear h0
    go_enter Try.func34, Try.ntmps34
    go_wp2
    go_ret
    exact ⟨by rw [HV.out]; rfl, hal⟩
set_option maxRecDepth 100000 in
set_option maxHeartbeats 64000000 in
theorem whole_c (T : Nat) (S : Nat → Prop) (A : Option Addr) (c : Nat) (p : List PN) (tags : Int) (w : World) (h : Rd patT w S A c p) (hT : w.cell? ⟨T, 0, none⟩ = some (.int .i64 tags)) (n : Nat) (hn : n = p.length) :
    Calls Try.prog 33 #[.slice A n c, .func (.func 34) #[] #[.pointer (some ⟨T, 0, none⟩)]] w fun e w' => e = .returned (.bool (chkP p tags)) ∧ Bel w w' := by
  subst hn
  have lm := h.lenMax
  have hcf : ∀ (args : Array Value) (w : World), (callFunc 34 args).run Try.prog w = .ok (.enter 34 args) w := fun _ _ => by kernel_rfl
  by_cases h1 : p.length < 1
  · have Hu := Lib.hid (chkP_no (tags := tags) (.inl h1))
    have d1 : decide ((p.length : Int) < 1) = true := decide_eq_true (by omega)
    go_enter Try.func33, Try.ntmps33
    go_wp2
    go_ret
    exact ⟨by rw [Hu.out]; rfl, Bel.refl _⟩
  · by_cases h2 : 24 < p.length
    · have Hu := Lib.hid (chkP_no (tags := tags) (.inr h2))
      have d1 : decide ((p.length : Int) < 1) = false := decide_eq_false (by omega)
      have d2 : decide (24 < (p.length : Int)) = true := decide_eq_true (by omega)
      go_enter Try.func33, Try.ntmps33
      go_wp2
      go_ret
      exact ⟨by rw [Hu.out]; rfl, Bel.refl _⟩
    · have Hu := Lib.hid (chkP_go (tags := tags) (p := p) (by omega) (by omega))
      have d1 : decide ((p.length : Int) < 1) = false := decide_eq_false (by omega)
      have d2 : decide (24 < (p.length : Int)) = false := decide_eq_false (by omega)
      have hp24 : p.length ≤ 24 := by omega
      have HT := Lib.hid (fun W (hb : Bel w W) => cell_keep hT (hb.block (World.block_lt_of_cell? _ _ hT)))
      clear hT
      go_enter Try.func33, Try.ntmps33
      go_wp2
      go_loopw [5, 20] (fun v5 v20 wr => ∃ (i : Nat) (W : World) (AO : Option Addr) (cO : Nat) (L : List (Int × Bool)) (op : List Int) (st : List Bool), W = wr ∧ i ≤ p.length ∧ v20 = .int .i64 i ∧ v5 = .slice AO L.length cO ∧ Hid (goP tags 0 p [] (List.replicate p.length false) = goP tags i (p.drop i) op st) ∧ Hid (OkP i p.length op st) ∧ Hid (PcP i L op st) ∧
          Own pcT 91 W w.heap.size (fun _ => False) (.slice AO L.length cO) L ∧ Bel w W) (fun _ v20 _ => p.length - (intOf v20).toNat)
      case atStart => exact ⟨0, _, none, 0, [], [], List.replicate p.length false, rfl, Nat.zero_le _, rfl, rfl, rfl, (⟨by simp, by simp, by simp⟩ : OkP 0 p.length [] (List.replicate p.length false)), PcP.start p.length, Own.nil _ _ _ _ _, Bel.refl _⟩
      case round =>
        obtain ⟨i, W, AO, cO, L, op, st, rfl, hi, rfl, rfl, HG, HK, HP, hO, hb⟩ := hrel
        by_cases hlt : i < p.length
        · obtain ⟨x, hx⟩ : ∃ x, p[i]? = some x := ⟨_, List.getElem?_eq_getElem hlt⟩
          have HX := Lib.hid hx
          obtain ⟨ad, rfl, g0, g1, g2, g3, g4⟩ := (h.to hb).prowW hx
          clear hx
          obtain ⟨xk, xa, xb, xn, xs⟩ := x
          dsimp only at g0 g1 g2 g3 g4
          have hbW := hb.size
          obtain ⟨W3, hW3, b7, b9, hb3, hz3⟩ := two_blocks W 91 xk xa xb xn xs 35 (i : Int)
          have t0 : W3.cell? ⟨W.heap.size, 0, none⟩ = some (.int .i64 xk) := cellAt b7 0
          have t1 : W3.cell? ⟨W.heap.size, 1, none⟩ = some (.int .i64 xa) := cellAt b7 1
          have t2 : W3.cell? ⟨W.heap.size, 2, none⟩ = some (.int .i64 xb) := cellAt b7 2
          have t3 : W3.cell? ⟨W.heap.size, 3, none⟩ = some (.int .i64 xn) := cellAt b7 3
          have t4 : W3.cell? ⟨W.heap.size, 4, none⟩ = some (.string ⟨#[]⟩) := cellAt b7 4
          have s0 : W3.cell? ⟨W.heap.size + 1, 0, none⟩ = some (.int .i64 i) := cellAt b9 0
          have s1 : W3.cell? ⟨W.heap.size + 1, 1, none⟩ = some (.bool false) := cellAt b9 1
          have sf : W3.frozen? ⟨W.heap.size + 1, 1, none⟩ = false := frozenAt b9 1
          have hll : L.length ≤ 24 := by rw [← HP.out.len]; have := HK.out.len; omega
          have l0 : decide ((L.length : Int) < 0) = false := decide_eq_false (by omega)
          have hcap : L.length ≤ cO := by
            obtain ⟨A', c', he, hr⟩ := hO.rd
            injection he with e1 e2 e3
            have h1 := hr.cap
            omega
          have hcap2 : (L.length : Int) ≤ (cO : Int) := by omega
          have HO3 := Lib.hid (hO.to hb3)
          have HB3 := Lib.hid (hb.trans hb3)
          have HB9 := Lib.hid b9
          have HTT := HT.out W3 HB3.out
          have HOW := Lib.hid (fun k hk => hO.lt (k := k) hk)
          clear hO hb b7 b9 hb3 hz3
          by_cases k1 : xk = 1
          · subst k1
            by_cases e1 : xa ≠ 0 ∨ xb ≠ 0 ∨ xn ≠ 0
            · have HS := Lib.hid (HG.out.trans (goP_none HX.out (stepP_one_no (.inl rfl) e1)))
              go_wp2
              all_goals
                go_ret
                exact ⟨by rw [Hu.out, HS.out]; rfl, HB3.out⟩
            · obtain ⟨rfl, rfl, rfl⟩ : xa = 0 ∧ xb = 0 ∧ xn = 0 := by omega
              have HS := Lib.hid (HG.out.trans (goP_some (s := (op ++ [(i : Int)], st)) HX.out (stepP_one_ok (.inl rfl) rfl rfl rfl)))
              clear e1
              go_wp2_with (at_builtin; go_loud (refine wp_append1w pcT (w0 := w) 89 91 (.agg #[.int .i64 0, .bool false]) 16 rfl _ _ rfl Try.underlying89 info_pce rfl (fun _ => False) (.slice AO L.length cO) L ((i : Int), false) [.int .i64 i, .bool false] _ (by simp) rfl rfl HO3.out rfl HB3.out (by unfold maxLen; omega) (by omega) ?_); go_loud (rintro v2 w2 ho2 hb2 hg2 hf2; obtain ⟨A2, c2, hv2⟩ := ho2.form; rw [List.length_append] at hv2; subst hv2))
              go_roundw
              case rel => exact ⟨i + 1, _, A2, c2, L ++ [((i : Int), false)], (op ++ [(i : Int)]), st, rfl, by omega, by go_num, by rw [List.length_append]; rfl, HS.out, HK.out.push0, HP.out.push0, by rw [show (L ++ [((i : Int), false)]).length = L.length + 1 by rw [List.length_append]; rfl]; exact ho2, hb2⟩
              case measure => simp [intOf]; omega
          · have n1 : (xk == 1) = false := by simp [k1]
            by_cases k2 : xk = 2
            · subst k2
              by_cases e1 : xa ≠ 0 ∨ xb ≠ 0 ∨ xn ≠ 0
              · have HS := Lib.hid (HG.out.trans (goP_none HX.out (stepP_one_no (.inr rfl) e1)))
                go_wp2
                all_goals
                  go_ret
                  exact ⟨by rw [Hu.out, HS.out]; rfl, HB3.out⟩
              · obtain ⟨rfl, rfl, rfl⟩ : xa = 0 ∧ xb = 0 ∧ xn = 0 := by omega
                have HS := Lib.hid (HG.out.trans (goP_some (s := (op ++ [(i : Int)], st)) HX.out (stepP_one_ok (.inr rfl) rfl rfl rfl)))
                clear e1
                go_wp2_with (at_builtin; go_loud (refine wp_append1w pcT (w0 := w) 89 91 (.agg #[.int .i64 0, .bool false]) 16 rfl _ _ rfl Try.underlying89 info_pce rfl (fun _ => False) (.slice AO L.length cO) L ((i : Int), false) [.int .i64 i, .bool false] _ (by simp) rfl rfl HO3.out rfl HB3.out (by unfold maxLen; omega) (by omega) ?_); go_loud (rintro v2 w2 ho2 hb2 hg2 hf2; obtain ⟨A2, c2, hv2⟩ := ho2.form; rw [List.length_append] at hv2; subst hv2))
                go_roundw
                case rel => exact ⟨i + 1, _, A2, c2, L ++ [((i : Int), false)], (op ++ [(i : Int)]), st, rfl, by omega, by go_num, by rw [List.length_append]; rfl, HS.out, HK.out.push0, HP.out.push0, by rw [show (L ++ [((i : Int), false)]).length = L.length + 1 by rw [List.length_append]; rfl]; exact ho2, hb2⟩
                case measure => simp [intOf]; omega
            · have n2 : (xk == 2) = false := by simp [k2]
              by_cases k3 : xk = 3
              · subst k3
                have KT := Lib.hid (tagOk_c T ⟨3, xa, xb, xn, ⟨#[]⟩⟩ tags W3 HTT)
                cases hq : tagB tags ⟨3, xa, xb, xn, ⟨#[]⟩⟩ with
                | false =>
                  have HS := Lib.hid (HG.out.trans (goP_none HX.out (stepP_tag_no rfl hq)))
                  rw [hq] at KT
                  clear hq
                  go_wp2_with fail
                  refine KT.out.mono ?_
                  rintro e w9 ⟨rfl, hb9⟩
                  go_wp2
                  go_ret
                  exact ⟨by rw [Hu.out, HS.out]; rfl, HB3.out.trans hb9⟩
                | true =>
                  have HS := Lib.hid (HG.out.trans (goP_some (s := (op ++ [(i : Int)], st)) HX.out (stepP_tag_ok rfl hq)))
                  rw [hq] at KT
                  clear hq
                  go_wp2_with fail
                  refine KT.out.mono ?_
                  rintro e w9 ⟨rfl, hb9⟩
                  have z0 : w9.cell? ⟨W.heap.size + 1, 0, none⟩ = some (.int .i64 i) := cell_keep s0 (hb9.block (World.block_lt_of_cell? _ _ s0))
                  have z1 : w9.cell? ⟨W.heap.size + 1, 1, none⟩ = some (.bool false) := cell_keep s1 (hb9.block (World.block_lt_of_cell? _ _ s1))
                  have HO9 := Lib.hid (HO3.out.to hb9)
                  have HB99 := Lib.hid (HB3.out.trans hb9)
                  clear hb9
                  go_wp2_with (at_builtin; go_loud (refine wp_append1w pcT (w0 := w) 89 91 (.agg #[.int .i64 0, .bool false]) 16 rfl _ _ rfl Try.underlying89 info_pce rfl (fun _ => False) (.slice AO L.length cO) L ((i : Int), false) [.int .i64 i, .bool false] _ (by simp) rfl rfl HO9.out rfl HB99.out (by unfold maxLen; omega) (by omega) ?_); go_loud (rintro v2 w2 ho2 hb2 hg2 hf2; obtain ⟨A2, c2, hv2⟩ := ho2.form; rw [List.length_append] at hv2; subst hv2))
                  go_roundw
                  case rel => exact ⟨i + 1, _, A2, c2, L ++ [((i : Int), false)], (op ++ [(i : Int)]), st, rfl, by omega, by go_num, by rw [List.length_append]; rfl, HS.out, HK.out.push0, HP.out.push0, by rw [show (L ++ [((i : Int), false)]).length = L.length + 1 by rw [List.length_append]; rfl]; exact ho2, hb2⟩
                  case measure => simp [intOf]; omega
              · have n3 : (xk == 3) = false := by simp [k3]
                by_cases k4 : xk = 4
                · subst k4
                  by_cases e1 : L.length < 2
                  · have f1 : decide ((L.length : Int) < 2) = true := decide_eq_true (by omega)
                    have HS := Lib.hid (HG.out.trans (goP_none HX.out (HP.out.pair_few (.inl rfl) e1)))
                    clear e1
                    go_wp2
                    go_quiet (fail)
                    go_wp2
                    go_ret
                    exact ⟨by rw [Hu.out, HS.out]; rfl, HB3.out.drewN _⟩
                  · have f1 : decide ((L.length : Int) < 2) = false := decide_eq_false (by omega)
                    obtain ⟨go, rfl, hgo1, hgo2⟩ := HO3.out.addr (by omega)
                    have HGO := Lib.hid (fun k (hk : (Value.slice (some ⟨go, 0, none⟩) L.length cO).ownBlock = some k) => HOW.out k hk)
                    obtain ⟨⟨y, qy⟩, hy⟩ : ∃ y, L[L.length - 2]? = some y := ⟨_, List.getElem?_eq_getElem (by omega)⟩
                    obtain ⟨Cy, Dy⟩ := own_pce HO3.out hy
                    have Hy := Lib.hid hy
                    have wy : IntKind.i64.wrap ((L.length : Int) - 2) = ((L.length - 2 : Nat) : Int) := by rw [IntKind.wrap_i64]; omega
                    dsimp only at Cy Dy
                    clear hy
                    obtain ⟨⟨z, qz⟩, hz⟩ : ∃ y, L[L.length - 1]? = some y := ⟨_, List.getElem?_eq_getElem (by omega)⟩
                    obtain ⟨Cz, Dz⟩ := own_pce HO3.out hz
                    have Hz := Lib.hid hz
                    have wz : IntKind.i64.wrap ((L.length : Int) - 1) = ((L.length - 1 : Nat) : Int) := by rw [IntKind.wrap_i64]; omega
                    dsimp only at Cz Dz
                    clear hz
                    by_cases e2 : xa ≠ y
                    · have HS := Lib.hid (HG.out.trans (goP_none HX.out (HP.out.pair_no (.inl rfl) Hy.out Hz.out (.inr (.inl e2)))))
                      have f : (xa == y) = false := by simp [e2]
                      clear e2
                      go_wp2
                      go_quiet (fail)
                      go_wp2
                      go_ret
                      exact ⟨by rw [Hu.out, HS.out]; rfl, HB3.out.drewN _⟩
                    · obtain rfl : xa = y := by omega
                      clear e2
                      by_cases e2 : xb ≠ z
                      · have HS := Lib.hid (HG.out.trans (goP_none HX.out (HP.out.pair_no (.inl rfl) Hy.out Hz.out (.inr (.inr e2)))))
                        have f : (xb == z) = false := by simp [e2]
                        clear e2
                        go_wp2
                        go_quiet (fail)
                        go_wp2
                        go_ret
                        exact ⟨by rw [Hu.out, HS.out]; rfl, HB3.out.drewN _⟩
                      · obtain rfl : xb = z := by omega
                        clear e2
                        by_cases e2 : xn ≠ 0
                        · have HS := Lib.hid (HG.out.trans (goP_none HX.out (HP.out.pair_no (.inl rfl) Hy.out Hz.out (.inl e2))))
                          have f : (xn == 0) = false := by simp [e2]
                          clear e2
                          go_wp2
                          go_quiet (fail)
                          go_wp2
                          go_ret
                          exact ⟨by rw [Hu.out, HS.out]; rfl, HB3.out.drewN _⟩
                        · obtain rfl : xn = 0 := by omega
                          clear e2
                          cases qy with
                          | true =>
                            have HLN := Lib.hid (show (L.take (L.length - 2)).length = L.length - 2 by rw [List.length_take]; omega)
                            have HS := Lib.hid (HG.out.trans (goP_some (s := (op.take (L.length - 2) ++ [(i : Int)], st.set i true)) HX.out (by have h9 := HP.out.pair_ok (tags := tags) (x := ⟨4, xa, xb, 0, xs⟩) (.inl rfl) (by omega) Hy.out Hz.out rfl rfl rfl; exact h9)))
                            have HOX := Lib.hid (show ∀ q : Nat, Own pcT 91 ((W3.drewN q).setCell ⟨W.heap.size + 1, 1, none⟩ (.bool true)) w.heap.size (fun _ => False) (.slice (some ⟨go, 0, none⟩) (L.length - 2) cO) (L.take (L.length - 2)) from fun q => ((HO3.out.to ((Bel.refl _).drewN q)).prefix_ rfl (by omega)).step (fun k hk => Below.heap_setCell _ _ _ _ (by have := HGO.out k hk; show k ≠ W.heap.size + 1; omega)) (fun _ hk => hk.elim))
                            have HBX := Lib.hid (show ∀ q : Nat, Bel w ((W3.drewN q).setCell ⟨W.heap.size + 1, 1, none⟩ (.bool true)) from fun q => (HB3.out.drewN q).set (by show w.heap.size ≤ W.heap.size + 1; omega) _)
                            go_wp2
                            go_quiet (fail)
                            go_wp2_with (at_builtin; go_loud (refine wp_append1w pcT (w0 := w) 89 91 (.agg #[.int .i64 0, .bool false]) 16 rfl _ _ rfl Try.underlying89 info_pce rfl (fun _ => False) (.slice (some ⟨go, 0, none⟩) (L.length - 2) cO) (L.take (L.length - 2)) ((i : Int), true) [.int .i64 i, .bool true] _ (by simp) rfl rfl (HOX.out _) rfl (HBX.out _) (by rw [HLN.out]; unfold maxLen; omega) (by rw [HLN.out]; omega) ?_); go_loud (rintro v2 w2 ho2 hb2 hg2 hf2; obtain ⟨A2, c2, hv2⟩ := ho2.form; rw [List.length_append, HLN.out] at hv2; subst hv2))
                            go_roundw
                            case rel => exact ⟨i + 1, _, A2, c2, (L.take (L.length - 2)) ++ [((i : Int), true)], (op.take (L.length - 2) ++ [(i : Int)]), (st.set i true), rfl, by omega, by go_num, by rw [List.length_append, HLN.out]; rfl, HS.out, (by have := HK.out.push (k := L.length - 2) true; exact this), (HP.out.push HK.out hlt (L.length - 2) true), by rw [show ((L.take (L.length - 2)) ++ [((i : Int), true)]).length = (L.length - 2) + 1 by rw [List.length_append, HLN.out]; rfl]; exact ho2, hb2⟩
                            case measure => simp [intOf]; omega
                          | false =>
                            have HLN := Lib.hid (show (L.take (L.length - 2)).length = L.length - 2 by rw [List.length_take]; omega)
                            have HS := Lib.hid (HG.out.trans (goP_some (s := (op.take (L.length - 2) ++ [(i : Int)], st.set i qz)) HX.out (by have h9 := HP.out.pair_ok (tags := tags) (x := ⟨4, xa, xb, 0, xs⟩) (.inl rfl) (by omega) Hy.out Hz.out rfl rfl rfl; exact h9)))
                            have HOX := Lib.hid (show ∀ q : Nat, Own pcT 91 ((W3.drewN q).setCell ⟨W.heap.size + 1, 1, none⟩ (.bool qz)) w.heap.size (fun _ => False) (.slice (some ⟨go, 0, none⟩) (L.length - 2) cO) (L.take (L.length - 2)) from fun q => ((HO3.out.to ((Bel.refl _).drewN q)).prefix_ rfl (by omega)).step (fun k hk => Below.heap_setCell _ _ _ _ (by have := HGO.out k hk; show k ≠ W.heap.size + 1; omega)) (fun _ hk => hk.elim))
                            have HBX := Lib.hid (show ∀ q : Nat, Bel w ((W3.drewN q).setCell ⟨W.heap.size + 1, 1, none⟩ (.bool qz)) from fun q => (HB3.out.drewN q).set (by show w.heap.size ≤ W.heap.size + 1; omega) _)
                            go_wp2
                            go_quiet (fail)
                            go_wp2_with (at_builtin; go_loud (refine wp_append1w pcT (w0 := w) 89 91 (.agg #[.int .i64 0, .bool false]) 16 rfl _ _ rfl Try.underlying89 info_pce rfl (fun _ => False) (.slice (some ⟨go, 0, none⟩) (L.length - 2) cO) (L.take (L.length - 2)) ((i : Int), qz) [.int .i64 i, .bool qz] _ (by simp) rfl rfl (HOX.out _) rfl (HBX.out _) (by rw [HLN.out]; unfold maxLen; omega) (by rw [HLN.out]; omega) ?_); go_loud (rintro v2 w2 ho2 hb2 hg2 hf2; obtain ⟨A2, c2, hv2⟩ := ho2.form; rw [List.length_append, HLN.out] at hv2; subst hv2))
                            go_roundw
                            case rel => exact ⟨i + 1, _, A2, c2, (L.take (L.length - 2)) ++ [((i : Int), qz)], (op.take (L.length - 2) ++ [(i : Int)]), (st.set i qz), rfl, by omega, by go_num, by rw [List.length_append, HLN.out]; rfl, HS.out, (by have := HK.out.push (k := L.length - 2) qz; exact this), (HP.out.push HK.out hlt (L.length - 2) qz), by rw [show ((L.take (L.length - 2)) ++ [((i : Int), qz)]).length = (L.length - 2) + 1 by rw [List.length_append, HLN.out]; rfl]; exact ho2, hb2⟩
                            case measure => simp [intOf]; omega
                · have n4 : (xk == 4) = false := by simp [k4]
                  by_cases k5 : xk = 5
                  · subst k5
                    by_cases e1 : L.length < 2
                    · have f1 : decide ((L.length : Int) < 2) = true := decide_eq_true (by omega)
                      have HS := Lib.hid (HG.out.trans (goP_none HX.out (HP.out.pair_few (.inr rfl) e1)))
                      clear e1
                      go_wp2
                      go_quiet (fail)
                      go_wp2
                      go_ret
                      exact ⟨by rw [Hu.out, HS.out]; rfl, HB3.out.drewN _⟩
                    · have f1 : decide ((L.length : Int) < 2) = false := decide_eq_false (by omega)
                      obtain ⟨go, rfl, hgo1, hgo2⟩ := HO3.out.addr (by omega)
                      have HGO := Lib.hid (fun k (hk : (Value.slice (some ⟨go, 0, none⟩) L.length cO).ownBlock = some k) => HOW.out k hk)
                      obtain ⟨⟨y, qy⟩, hy⟩ : ∃ y, L[L.length - 2]? = some y := ⟨_, List.getElem?_eq_getElem (by omega)⟩
                      obtain ⟨Cy, Dy⟩ := own_pce HO3.out hy
                      have Hy := Lib.hid hy
                      have wy : IntKind.i64.wrap ((L.length : Int) - 2) = ((L.length - 2 : Nat) : Int) := by rw [IntKind.wrap_i64]; omega
                      dsimp only at Cy Dy
                      clear hy
                      obtain ⟨⟨z, qz⟩, hz⟩ : ∃ y, L[L.length - 1]? = some y := ⟨_, List.getElem?_eq_getElem (by omega)⟩
                      obtain ⟨Cz, Dz⟩ := own_pce HO3.out hz
                      have Hz := Lib.hid hz
                      have wz : IntKind.i64.wrap ((L.length : Int) - 1) = ((L.length - 1 : Nat) : Int) := by rw [IntKind.wrap_i64]; omega
                      dsimp only at Cz Dz
                      clear hz
                      by_cases e2 : xa ≠ y
                      · have HS := Lib.hid (HG.out.trans (goP_none HX.out (HP.out.pair_no (.inr rfl) Hy.out Hz.out (.inr (.inl e2)))))
                        have f : (xa == y) = false := by simp [e2]
                        clear e2
                        go_wp2
                        go_quiet (fail)
                        go_wp2
                        go_ret
                        exact ⟨by rw [Hu.out, HS.out]; rfl, HB3.out.drewN _⟩
                      · obtain rfl : xa = y := by omega
                        clear e2
                        by_cases e2 : xb ≠ z
                        · have HS := Lib.hid (HG.out.trans (goP_none HX.out (HP.out.pair_no (.inr rfl) Hy.out Hz.out (.inr (.inr e2)))))
                          have f : (xb == z) = false := by simp [e2]
                          clear e2
                          go_wp2
                          go_quiet (fail)
                          go_wp2
                          go_ret
                          exact ⟨by rw [Hu.out, HS.out]; rfl, HB3.out.drewN _⟩
                        · obtain rfl : xb = z := by omega
                          clear e2
                          by_cases e2 : xn ≠ 0
                          · have HS := Lib.hid (HG.out.trans (goP_none HX.out (HP.out.pair_no (.inr rfl) Hy.out Hz.out (.inl e2))))
                            have f : (xn == 0) = false := by simp [e2]
                            clear e2
                            go_wp2
                            go_quiet (fail)
                            go_wp2
                            go_ret
                            exact ⟨by rw [Hu.out, HS.out]; rfl, HB3.out.drewN _⟩
                          · obtain rfl : xn = 0 := by omega
                            clear e2
                            cases qy with
                            | true =>
                              have HLN := Lib.hid (show (L.take (L.length - 2)).length = L.length - 2 by rw [List.length_take]; omega)
                              have HS := Lib.hid (HG.out.trans (goP_some (s := (op.take (L.length - 2) ++ [(i : Int)], st.set i true)) HX.out (by have h9 := HP.out.pair_ok (tags := tags) (x := ⟨5, xa, xb, 0, xs⟩) (.inr rfl) (by omega) Hy.out Hz.out rfl rfl rfl; exact h9)))
                              have HOX := Lib.hid (show ∀ q : Nat, Own pcT 91 ((W3.drewN q).setCell ⟨W.heap.size + 1, 1, none⟩ (.bool true)) w.heap.size (fun _ => False) (.slice (some ⟨go, 0, none⟩) (L.length - 2) cO) (L.take (L.length - 2)) from fun q => ((HO3.out.to ((Bel.refl _).drewN q)).prefix_ rfl (by omega)).step (fun k hk => Below.heap_setCell _ _ _ _ (by have := HGO.out k hk; show k ≠ W.heap.size + 1; omega)) (fun _ hk => hk.elim))
                              have HBX := Lib.hid (show ∀ q : Nat, Bel w ((W3.drewN q).setCell ⟨W.heap.size + 1, 1, none⟩ (.bool true)) from fun q => (HB3.out.drewN q).set (by show w.heap.size ≤ W.heap.size + 1; omega) _)
                              go_wp2
                              go_quiet (fail)
                              go_wp2_with (at_builtin; go_loud (refine wp_append1w pcT (w0 := w) 89 91 (.agg #[.int .i64 0, .bool false]) 16 rfl _ _ rfl Try.underlying89 info_pce rfl (fun _ => False) (.slice (some ⟨go, 0, none⟩) (L.length - 2) cO) (L.take (L.length - 2)) ((i : Int), true) [.int .i64 i, .bool true] _ (by simp) rfl rfl (HOX.out _) rfl (HBX.out _) (by rw [HLN.out]; unfold maxLen; omega) (by rw [HLN.out]; omega) ?_); go_loud (rintro v2 w2 ho2 hb2 hg2 hf2; obtain ⟨A2, c2, hv2⟩ := ho2.form; rw [List.length_append, HLN.out] at hv2; subst hv2))
                              go_roundw
                              case rel => exact ⟨i + 1, _, A2, c2, (L.take (L.length - 2)) ++ [((i : Int), true)], (op.take (L.length - 2) ++ [(i : Int)]), (st.set i true), rfl, by omega, by go_num, by rw [List.length_append, HLN.out]; rfl, HS.out, (by have := HK.out.push (k := L.length - 2) true; exact this), (HP.out.push HK.out hlt (L.length - 2) true), by rw [show ((L.take (L.length - 2)) ++ [((i : Int), true)]).length = (L.length - 2) + 1 by rw [List.length_append, HLN.out]; rfl]; exact ho2, hb2⟩
                              case measure => simp [intOf]; omega
                            | false =>
                              have HLN := Lib.hid (show (L.take (L.length - 2)).length = L.length - 2 by rw [List.length_take]; omega)
                              have HS := Lib.hid (HG.out.trans (goP_some (s := (op.take (L.length - 2) ++ [(i : Int)], st.set i qz)) HX.out (by have h9 := HP.out.pair_ok (tags := tags) (x := ⟨5, xa, xb, 0, xs⟩) (.inr rfl) (by omega) Hy.out Hz.out rfl rfl rfl; exact h9)))
                              have HOX := Lib.hid (show ∀ q : Nat, Own pcT 91 ((W3.drewN q).setCell ⟨W.heap.size + 1, 1, none⟩ (.bool qz)) w.heap.size (fun _ => False) (.slice (some ⟨go, 0, none⟩) (L.length - 2) cO) (L.take (L.length - 2)) from fun q => ((HO3.out.to ((Bel.refl _).drewN q)).prefix_ rfl (by omega)).step (fun k hk => Below.heap_setCell _ _ _ _ (by have := HGO.out k hk; show k ≠ W.heap.size + 1; omega)) (fun _ hk => hk.elim))
                              have HBX := Lib.hid (show ∀ q : Nat, Bel w ((W3.drewN q).setCell ⟨W.heap.size + 1, 1, none⟩ (.bool qz)) from fun q => (HB3.out.drewN q).set (by show w.heap.size ≤ W.heap.size + 1; omega) _)
                              go_wp2
                              go_quiet (fail)
                              go_wp2_with (at_builtin; go_loud (refine wp_append1w pcT (w0 := w) 89 91 (.agg #[.int .i64 0, .bool false]) 16 rfl _ _ rfl Try.underlying89 info_pce rfl (fun _ => False) (.slice (some ⟨go, 0, none⟩) (L.length - 2) cO) (L.take (L.length - 2)) ((i : Int), qz) [.int .i64 i, .bool qz] _ (by simp) rfl rfl (HOX.out _) rfl (HBX.out _) (by rw [HLN.out]; unfold maxLen; omega) (by rw [HLN.out]; omega) ?_); go_loud (rintro v2 w2 ho2 hb2 hg2 hf2; obtain ⟨A2, c2, hv2⟩ := ho2.form; rw [List.length_append, HLN.out] at hv2; subst hv2))
                              go_roundw
                              case rel => exact ⟨i + 1, _, A2, c2, (L.take (L.length - 2)) ++ [((i : Int), qz)], (op.take (L.length - 2) ++ [(i : Int)]), (st.set i qz), rfl, by omega, by go_num, by rw [List.length_append, HLN.out]; rfl, HS.out, (by have := HK.out.push (k := L.length - 2) qz; exact this), (HP.out.push HK.out hlt (L.length - 2) qz), by rw [show ((L.take (L.length - 2)) ++ [((i : Int), qz)]).length = (L.length - 2) + 1 by rw [List.length_append, HLN.out]; rfl]; exact ho2, hb2⟩
                              case measure => simp [intOf]; omega
                  · have n5 : (xk == 5) = false := by simp [k5]
                    by_cases k6 : xk = 6
                    · subst k6
                      by_cases e1 : L.length < 1
                      · have f1 : decide ((L.length : Int) < 1) = true := decide_eq_true (by omega)
                        have HS := Lib.hid (HG.out.trans (goP_none HX.out (HP.out.star_few rfl e1)))
                        clear e1
                        go_wp2
                        go_quiet (fail)
                        go_wp2
                        go_ret
                        exact ⟨by rw [Hu.out, HS.out]; rfl, HB3.out.drewN _⟩
                      · have f1 : decide ((L.length : Int) < 1) = false := decide_eq_false (by omega)
                        obtain ⟨go, rfl, hgo1, hgo2⟩ := HO3.out.addr (by omega)
                        have HGO := Lib.hid (fun k (hk : (Value.slice (some ⟨go, 0, none⟩) L.length cO).ownBlock = some k) => HOW.out k hk)
                        obtain ⟨⟨z, qz⟩, hz⟩ : ∃ y, L[L.length - 1]? = some y := ⟨_, List.getElem?_eq_getElem (by omega)⟩
                        obtain ⟨Cz, Dz⟩ := own_pce HO3.out hz
                        have Hz := Lib.hid hz
                        have wz : IntKind.i64.wrap ((L.length : Int) - 1) = ((L.length - 1 : Nat) : Int) := by rw [IntKind.wrap_i64]; omega
                        dsimp only at Cz Dz
                        clear hz
                        cases qz with
                        | true =>
                          have HS := Lib.hid (HG.out.trans (goP_none HX.out (HP.out.star_no rfl Hz.out (.inl rfl))))
                          go_wp2
                          go_quiet (fail)
                          go_wp2
                          go_ret
                          exact ⟨by rw [Hu.out, HS.out]; rfl, HB3.out.drewN _⟩
                        | false =>
                          by_cases e2 : xa ≠ z
                          · have HS := Lib.hid (HG.out.trans (goP_none HX.out (HP.out.star_no rfl Hz.out (.inr (.inr (.inr e2))))))
                            have f : (xa == z) = false := by simp [e2]
                            clear e2
                            go_wp2
                            go_quiet (fail)
                            go_wp2
                            go_ret
                            exact ⟨by rw [Hu.out, HS.out]; rfl, HB3.out.drewN _⟩
                          · obtain rfl : xa = z := by omega
                            clear e2
                            by_cases e2 : xb ≠ 0
                            · have HS := Lib.hid (HG.out.trans (goP_none HX.out (HP.out.star_no rfl Hz.out (.inr (.inr (.inl e2))))))
                              have f : (xb == 0) = false := by simp [e2]
                              clear e2
                              go_wp2
                              go_quiet (fail)
                              go_wp2
                              go_ret
                              exact ⟨by rw [Hu.out, HS.out]; rfl, HB3.out.drewN _⟩
                            · obtain rfl : xb = 0 := by omega
                              clear e2
                              by_cases e2 : xn ≠ 0
                              · have HS := Lib.hid (HG.out.trans (goP_none HX.out (HP.out.star_no rfl Hz.out (.inr (.inl e2)))))
                                have f : (xn == 0) = false := by simp [e2]
                                clear e2
                                go_wp2
                                go_quiet (fail)
                                go_wp2
                                go_ret
                                exact ⟨by rw [Hu.out, HS.out]; rfl, HB3.out.drewN _⟩
                              · obtain rfl : xn = 0 := by omega
                                clear e2
                                have HLN := Lib.hid (show (L.take (L.length - 1)).length = L.length - 1 by rw [List.length_take]; omega)
                                have HS := Lib.hid (HG.out.trans (goP_some (s := (op.take (L.length - 1) ++ [(i : Int)], st.set i true)) HX.out (by have h9 := HP.out.star_ok (tags := tags) (x := ⟨6, xa, 0, 0, xs⟩) rfl (by omega) Hz.out rfl rfl rfl rfl; exact h9)))
                                have HOX := Lib.hid (show ∀ q : Nat, Own pcT 91 ((W3.drewN q).setCell ⟨W.heap.size + 1, 1, none⟩ (.bool true)) w.heap.size (fun _ => False) (.slice (some ⟨go, 0, none⟩) (L.length - 1) cO) (L.take (L.length - 1)) from fun q => ((HO3.out.to ((Bel.refl _).drewN q)).prefix_ rfl (by omega)).step (fun k hk => Below.heap_setCell _ _ _ _ (by have := HGO.out k hk; show k ≠ W.heap.size + 1; omega)) (fun _ hk => hk.elim))
                                have HBX := Lib.hid (show ∀ q : Nat, Bel w ((W3.drewN q).setCell ⟨W.heap.size + 1, 1, none⟩ (.bool true)) from fun q => (HB3.out.drewN q).set (by show w.heap.size ≤ W.heap.size + 1; omega) _)
                                go_wp2
                                go_quiet (fail)
                                go_wp2_with (at_builtin; go_loud (refine wp_append1w pcT (w0 := w) 89 91 (.agg #[.int .i64 0, .bool false]) 16 rfl _ _ rfl Try.underlying89 info_pce rfl (fun _ => False) (.slice (some ⟨go, 0, none⟩) (L.length - 1) cO) (L.take (L.length - 1)) ((i : Int), true) [.int .i64 i, .bool true] _ (by simp) rfl rfl (HOX.out _) rfl (HBX.out _) (by rw [HLN.out]; unfold maxLen; omega) (by rw [HLN.out]; omega) ?_); go_loud (rintro v2 w2 ho2 hb2 hg2 hf2; obtain ⟨A2, c2, hv2⟩ := ho2.form; rw [List.length_append, HLN.out] at hv2; subst hv2))
                                go_roundw
                                case rel => exact ⟨i + 1, _, A2, c2, (L.take (L.length - 1)) ++ [((i : Int), true)], (op.take (L.length - 1) ++ [(i : Int)]), (st.set i true), rfl, by omega, by go_num, by rw [List.length_append, HLN.out]; rfl, HS.out, (by have := HK.out.push (k := L.length - 1) true; exact this), (HP.out.push HK.out hlt (L.length - 1) true), by rw [show ((L.take (L.length - 1)) ++ [((i : Int), true)]).length = (L.length - 1) + 1 by rw [List.length_append, HLN.out]; rfl]; exact ho2, hb2⟩
                                case measure => simp [intOf]; omega
                    · have n6 : (xk == 6) = false := by simp [k6]
                      have HS := Lib.hid (HG.out.trans (goP_none HX.out (stepP_other ⟨k1, k2, k3, k4, k5, k6⟩)))
                      clear k1 k2 k3 k4 k5 k6
                      go_wp2
                      go_ret
                      exact ⟨by rw [Hu.out, HS.out]; rfl, HB3.out⟩
        · obtain rfl : i = p.length := by omega
          have HR := Lib.hid (show goP tags 0 p [] (List.replicate p.length false) = decide (L.length = 1) by rw [HG.out, List.drop_length, ← HP.out.len]; rfl)
          by_cases hop : L.length = 1
          · have d3 : ((L.length : Int) == 1) = true := by simp; omega
            have HR2 := Lib.hid (HR.out.trans (decide_eq_true hop))
            clear hop
            go_wp2
            go_ret
            exact ⟨by rw [Hu.out, HR2.out]; rfl, hb⟩
          · have d3 : ((L.length : Int) == 1) = false := by simp; omega
            have HR2 := Lib.hid (HR.out.trans (decide_eq_false hop))
            clear hop
            go_wp2
            go_ret
            exact ⟨by rw [Hu.out, HR2.out]; rfl, hb⟩
end Go.Proofs.Ytfkopkjioohgoaa
