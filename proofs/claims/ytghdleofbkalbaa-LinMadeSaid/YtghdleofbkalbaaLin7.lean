/- slices.SortFunc over words: the library's contract at a row of the call's own. -/
import Derived.Test.YtghdleofbkalbaaLin6
import Derived.Shelf.SlSortCmp.Whole1
import Derived.Shelf.SlGeneric
import Derived.Ground.SlsfProg
namespace Go.Cb
open Go.RowKit Go.Sort Go.Proofs
theorem sortW_heap {α : Type} [Inhabited α] (enc : α → Value) (w : World) (g off m : Nat) (dk : Array α) (os : Array Obj) {k : Nat} (hk : k < w.heap.size) (hne : k ≠ g) : (sortWorld enc w g off m dk os).heap[k]? = w.heap[k]? := by
  show ((putRow enc (Sort.ahead w m) g off dk).heap ++ os)[k]? = _
  rw [Array.getElem?_append_left (by rw [Go.Sort.size_putRow]; exact hk)]
  show ((Sort.ahead w m).heap.modify g _)[k]? = _
  rw [Array.getElem?_modify, if_neg (Ne.symm hne)]
  rfl
theorem sortW_row {α : Type} [Inhabited α] (enc : α → Value) (w : World) (g m : Nat) (dk : Array α) (os : Array Obj) {cur : Array Value} {e : TypeId} (hg : w.heap[g]? = some (.cells cur e (0, 0))) : (sortWorld enc w g 0 m dk os).heap[g]? = some (.cells (putCells enc 0 dk cur) e (0, 0)) := by
  have hk : g < w.heap.size := blk_lt hg
  show ((putRow enc (Sort.ahead w m) g 0 dk).heap ++ os)[g]? = _
  rw [Array.getElem?_append_left (by rw [Go.Sort.size_putRow]; exact hk)]
  show ((Sort.ahead w m).heap.modify g _)[g]? = _
  rw [Array.getElem?_modify, if_pos rfl]
  show (w.heap[g]?).map _ = _
  rw [hg]
  rfl
theorem putC_take {α : Type} [Inhabited α] (enc : α → Value) (cur : Array Value) (d : Array α) (h : d.size ≤ cur.size) : (putCells enc 0 d cur).toList.take d.size = d.toList.map enc := by
  apply List.ext_getElem?
  intro i
  rw [List.getElem?_take]
  by_cases hi : i < d.size
  · rw [if_pos hi, Array.getElem?_toList, List.getElem?_map, Array.getElem?_toList, Array.getElem?_eq_getElem hi]
    unfold putCells
    rw [Array.getElem?_mapIdx, Array.getElem?_eq_getElem (by omega)]
    simp [hi, getElem!_pos]
  · rw [if_neg hi, List.getElem?_map, Array.getElem?_toList, Array.getElem?_eq_none (by omega)]; rfl
end Go.Cb
namespace Go.Proofs
open Go.Shelf Go.RowKit Go.Lib Go.Sort
def Try.sortL_ren : Go.Shelf.Ren := ⟨fun | 6 => 35 | 15 => 58 | 14 => 57 | 28 => 74 | 29 => 75 | 20 => 66 | 21 => 67 | 22 => 68 | 23 => 69 | 24 => 70 | 25 => 71 | 26 => 72 | 27 => 73 | 46 => 76 | 47 => 77 | 48 => 78 | 49 => 79 | 50 => 80 | 57 => 81 | n => n, fun | 22 => 24 | 24 => 23 | 25 => 53 | 3 => 3 | 39 => 72 | 0 => 0 | 53 => 85 | 55 => 87 | 4 => 4 | 46 => 79 | 45 => 78 | 50 => 62 | 5 => 5 | 9 => 9 | 66 => 88 | 70 => 92 | 76 => 94 | 77 => 95 | n => n, fun | n => n⟩
theorem Try.sortL : Go.Proofs.SlLaysF.n6 Try.prog Try.sortL_ren := {
  mixed := by kernel_rfl
  f6 := ⟨Try.f35.name, by decide, Try.func35.trans (congrArg some (by kernel_rfl))⟩
  f14 := ⟨Try.f57.name, by decide, Try.func57.trans (congrArg some (by kernel_rfl))⟩
  f15 := Try.func58.trans (congrArg some (by kernel_rfl))
  f20 := ⟨Try.f66.name, by decide, Try.func66.trans (congrArg some (by kernel_rfl))⟩
  f21 := ⟨Try.f67.name, by decide, Try.func67.trans (congrArg some (by kernel_rfl))⟩
  f22 := ⟨Try.f68.name, by decide, Try.func68.trans (congrArg some (by kernel_rfl))⟩
  f23 := ⟨Try.f69.name, by decide, Try.func69.trans (congrArg some (by kernel_rfl))⟩
  f24 := ⟨Try.f70.name, by decide, Try.func70.trans (congrArg some (by kernel_rfl))⟩
  f25 := ⟨Try.f71.name, by decide, Try.func71.trans (congrArg some (by kernel_rfl))⟩
  f26 := ⟨Try.f72.name, by decide, Try.func72.trans (congrArg some (by kernel_rfl))⟩
  f27 := ⟨Try.f73.name, by decide, Try.func73.trans (congrArg some (by kernel_rfl))⟩
  f28 := Try.func74.trans (congrArg some (by kernel_rfl))
  f29 := Try.func75.trans (congrArg some (by kernel_rfl))
  f46 := ⟨Try.f76.name, by decide, Try.func76.trans (congrArg some (by kernel_rfl))⟩
  f47 := Try.func77.trans (congrArg some (by kernel_rfl))
  f48 := Try.func78.trans (congrArg some (by kernel_rfl))
  f49 := ⟨Try.f79.name, by decide, Try.func79.trans (congrArg some (by kernel_rfl))⟩
  f50 := ⟨Try.f80.name, by decide, Try.func80.trans (congrArg some (by kernel_rfl))⟩
  f57 := ⟨Try.f81.name, by decide, Try.func81.trans (congrArg some (by kernel_rfl))⟩
  t0 := Try.underlying0
  a0 := Try.isAgg0
  z0 := Try.sizeOf0
  v0 := Try.zeroValue0
  t3 := Try.underlying3
  a3 := Try.isAgg3
  z3 := Try.sizeOf3
  v3 := Try.zeroValue3
  t4 := Try.underlying4
  a4 := Try.isAgg4
  z4 := Try.sizeOf4
  v4 := Try.zeroValue4
  t5 := Try.underlying5
  a5 := Try.isAgg5
  z5 := Try.sizeOf5
  v5 := Try.zeroValue5
  t9 := Try.underlying9
  a9 := Try.isAgg9
  z9 := Try.sizeOf9
  v9 := Try.zeroValue9
  t22 := Try.underlying24
  a22 := Try.isAgg24
  z22 := Try.sizeOf24
  v22 := Try.zeroValue24
  a24 := Try.isAgg23
  z24 := Try.sizeOf23
  t25 := Try.underlying53
  a25 := Try.isAgg53
  z25 := Try.sizeOf53
  v25 := Try.zeroValue53
  t39 := Try.underlying72
  a39 := Try.isAgg72
  z39 := Try.sizeOf72
  v39 := Try.zeroValue72
  t45 := Try.underlying78
  a45 := Try.isAgg78
  z45 := Try.sizeOf78
  v45 := Try.zeroValue78
  t46 := Try.underlying79
  a46 := Try.isAgg79
  z46 := Try.sizeOf79
  v46 := Try.zeroValue79
  t50 := Try.underlying62
  a50 := Try.isAgg62
  z50 := Try.sizeOf62
  v50 := Try.zeroValue62
  t53 := Try.underlying85
  a53 := Try.isAgg85
  z53 := Try.sizeOf85
  v53 := Try.zeroValue85
  t55 := Try.underlying87
  a55 := Try.isAgg87
  z55 := Try.sizeOf87
  v55 := Try.zeroValue87
  t66 := Try.underlying88
  a66 := Try.isAgg88
  z66 := Try.sizeOf88
  v66 := Try.zeroValue88
  t70 := Try.underlying92
  a70 := Try.isAgg92
  z70 := Try.sizeOf92
  v70 := Try.zeroValue92
  t76 := Try.underlying94
  a76 := Try.isAgg94
  z76 := Try.sizeOf94
  v76 := Try.zeroValue94
  t77 := Try.underlying95
  a77 := Try.isAgg95
  z77 := Try.sizeOf95
  v77 := Try.zeroValue95 }
end Go.Proofs
namespace Go.Proofs.Ytghdleofbkalbaa
open Go.RowKit Go.Cb Go.Sort Go.Proofs
/-- A word where it lies: its slice reads so in w, outside of block g. -/
abbrev WordAt (w : World) (S : Nat → Prop) (g : Nat) : Type := { x : Option Addr × Nat × List Int // RdW w (fun q => (S q ∧ q ≠ g) ∧ q < w.heap.size) x.1 x.2.1 x.2.2 ∧ rightB x.2.2 = true }
instance (w : World) (S : Nat → Prop) (g : Nat) : Inhabited (WordAt w S g) := ⟨⟨(none, 0, []), RdW.nil _ _ _ _ (by decide), rfl⟩⟩
def encW {w : World} {S : Nat → Prop} {g : Nat} (x : WordAt w S g) : Value := .slice x.1.1 x.1.2.2.length x.1.2.1
def cfW {w : World} {S : Nat → Prop} {g : Nat} (x y : WordAt w S g) : Int := cmpB x.1.2.2 y.1.2.2
theorem swoW {w : World} {S : Nat → Prop} {g : Nat} : SWO (ltOf (cfW (w := w) (S := S) (g := g))) where
  irrefl := fun x => decide_eq_false (by show ¬ cmpB _ _ < 0; have := cmpB_neg x.1.2.2 x.1.2.2; omega)
  trans := fun x y z h1 h2 => decide_eq_true (cmpB_ltt x.2.2 y.2.2 z.2.2 (of_decide_eq_true h1) (of_decide_eq_true h2))
  ntrans := fun x y z h1 h2 => decide_eq_false (by
    have h1 : ¬ cmpB x.1.2.2 y.1.2.2 < 0 := of_decide_eq_false h1
    have h2 : ¬ cmpB y.1.2.2 z.1.2.2 < 0 := of_decide_eq_false h2
    show ¬ cmpB x.1.2.2 z.1.2.2 < 0
    have a1 := cmpB_neg x.1.2.2 y.1.2.2
    have a2 := cmpB_neg y.1.2.2 z.1.2.2
    have a3 := cmpB_neg x.1.2.2 z.1.2.2
    have := cmpB_trans z.2.2 y.2.2 x.2.2 (by omega) (by omega)
    omega)
theorem cmpW {w : World} {S : Nat → Prop} {g : Nat} (n : Nat) : CmpLays1 Try.prog 30 #[] (encW (w := w) (S := S) (g := g)) cfW g 0 n w := fun m os dk _ x y => by
  have hx := x.2.1.rd.step' (w' := sortWorld encW w g 0 m dk os) (fun k hk => sortW_heap encW w g 0 m dk os hk.2 hk.1.2)
  have hy := y.2.1.rd.step' (w' := sortWorld encW w g 0 m dk os) (fun k hk => sortW_heap encW w g 0 m dk os hk.2 hk.1.2)
  refine (bagCompare_c _ _ _ _ _ _ _ _ _ hx hy _ _ rfl rfl).mono ?_
  rintro e w' ⟨rfl, rfl⟩
  exact ⟨rfl, 0, #[], by rw [grow_empty]; rfl⟩
set_option maxHeartbeats 1000000 in
/-- slices.SortFunc(s, bag.Compare) over right words: what it held, sorted. -/
theorem sort_c {w : World} {base g c n : Nat} {S : Nat → Prop} {xs : List (List Int)} (h : Own wbT 23 w base S (.slice (some ⟨g, 0, none⟩) n c) xs) (hn : n = xs.length) (hr : ∀ p ∈ xs, rightB p = true) (hsm : n < 4611686018427387904) :
    Calls Try.prog 35 #[.slice (some ⟨g, 0, none⟩) n c, .func (.func 30) #[] #[]] w fun e w' =>
      e = .returned (.tuple #[]) ∧ ∃ ys, ys.Perm xs ∧ (ys.Pairwise fun x y => ¬ cmpB y x < 0) ∧ Own wbT 23 w' base S (.slice (some ⟨g, 0, none⟩) n c) ys ∧ w.grownBy w' (some g) := by
  subst hn
  have hex : ∀ i : Fin xs.length, ∃ a : WordAt w S g, a.1.2.2 = xs[i] ∧ w.cell? ⟨g, i, none⟩ = some (encW a) := fun i => by
    obtain ⟨g', B, cb, e1, _, _, hc, hR, _⟩ := own_row h i.2
    obtain rfl : g = g' := by injection e1 with e1; injection e1
    exact ⟨⟨(B, cb, xs[i]), hR.bound, hr _ (List.getElem_mem _)⟩, rfl, hc⟩
  obtain ⟨f, hf⟩ := Classical.axiomOfChoice hex
  obtain ⟨d, hd⟩ : ∃ d : Array (WordAt w S g), d = Array.ofFn f := ⟨_, rfl⟩
  have hds : d.size = xs.length := by rw [hd, Array.size_ofFn]
  have hdj : ∀ j (hj : j < xs.length), d[j]! = f ⟨j, hj⟩ := fun j hj => by rw [getElem!_pos d j (by omega)]; simp [hd]
  have hgl : g < w.heap.size := h.lt rfl
  obtain ⟨inner, ho, hr2⟩ := h
  have hfz : ∀ j, w.frozen? ⟨g, j, none⟩ = false := fun j => World.ownsRow.frozenAt ho j
  have hH : Holds encW w g 0 d := fun j hj => by
    rw [Nat.zero_add, hdj j (by omega)]
    exact ⟨(hf ⟨j, by omega⟩).2, hfz j⟩
  have hcon := Any.slices_SortFunc Try.sortL encW (fun _ => rfl) cfW swoW 30 #[] g 0 c d w (enters_of Try.func30 (by kernel_rfl) rfl) (cmpW d.size) hH hgl (by omega)
  change Calls Try.prog 35 _ _ _ at hcon
  rw [hds] at hcon
  refine hcon.mono ?_
  rintro e w' ⟨rfl, d', m, os, hp, hs, rfl⟩
  have hd's : d'.size = xs.length := by rw [hp.1, hds]
  have hmap : d.toList.map (fun a => a.1.2.2) = xs := by
    apply List.ext_getElem?
    intro k
    by_cases hk : k < xs.length
    · have e1 : d[k]'(by omega) = f ⟨k, hk⟩ := by rw [← hdj k hk, getElem!_pos d k (by omega)]
      rw [List.getElem?_map, Array.getElem?_toList, Array.getElem?_eq_getElem (by omega), e1, List.getElem?_eq_getElem hk]
      show some (f ⟨k, hk⟩).1.2.2 = _
      rw [(hf ⟨k, hk⟩).1]; rfl
    · rw [List.getElem?_eq_none (by rw [List.length_map, Array.length_toList]; omega), List.getElem?_eq_none (by omega)]
  have hperm : (d'.toList.map fun a => a.1.2.2).Perm xs := by
    have h3 := hp.2.2
    rw [show d'.extract 0 xs.length = d' by rw [← hd's]; simp, show d.extract 0 xs.length = d by rw [← hds]; simp] at h3
    have h4 := h3.map (fun a : WordAt w S g => a.1.2.2)
    rw [hmap] at h4
    exact h4
  have hlen : (d'.toList.map fun a => a.1.2.2).length = xs.length := by rw [List.length_map, Array.length_toList]; exact hd's
  have hgrow : w.grownBy (sortWorld encW w g 0 m d' os) (some g) := ⟨rfl, rfl, rfl, by
    show w.heap.size ≤ ((putRow encW (Sort.ahead w m) g 0 d').heap ++ os).size
    rw [Array.size_append, Go.Sort.size_putRow]
    show w.heap.size ≤ w.heap.size + os.size
    omega, fun k hk hne => sortW_heap encW w g 0 m d' os hk (fun e => hne (by rw [e]))⟩
  refine ⟨rfl, _, hperm, ?_, ⟨d'.toList.map encW, ?_, fun j x hj => ?_⟩, hgrow⟩
  · refine List.pairwise_iff_getElem.2 fun i j hi hj hij => ?_
    rw [hlen] at hi hj
    have h5 := hs i j (Nat.zero_le _) hij hj
    rw [getElem!_pos d' j (by omega), getElem!_pos d' i (by omega)] at h5
    have h6 : ¬ cmpB (d'[j]'(by omega)).1.2.2 (d'[i]'(by omega)).1.2.2 < 0 := of_decide_eq_false h5
    simpa using h6
  · refine ⟨by rw [List.length_map, Array.length_toList, hd's, hlen]; simp [wbT], ?_⟩
    rcases ho.2 with ⟨e1, e2⟩ | ⟨g', cap, cur, e1, b1, b2, b3, b4, b5, b6⟩
    · injection e1 with e1; cases e1
    · injection e1 with e1 _ e3
      injection e1 with e1
      injection e1 with e1
      subst e1 e3
      refine .inr ⟨g, c, _, by rw [hlen], b1, sortW_row encW w g m d' os b2, by rw [hlen]; exact b3, b4, ?_, ?_⟩
      · unfold putCells
        rw [Array.size_mapIdx]; exact b5
      · rw [hlen]
        have hsz1 : wbT.sz = 1 := rfl
        rw [hsz1] at b5 ⊢
        rw [Nat.mul_one, ← hd's]
        exact putC_take encW cur d' (by omega)
  · rw [List.getElem?_map, Array.getElem?_toList] at hj
    obtain ⟨a, ha, rfl⟩ := Option.map_eq_some_iff.1 hj
    obtain ⟨hja, rfl⟩ := Array.getElem?_eq_some_iff.1 ha
    have e1 : ((d'.toList.map encW).drop (j * wbT.sz)).take wbT.sz = [encW d'[j]] := by
      have hsz1 : wbT.sz = 1 := rfl
      rw [hsz1, Nat.mul_one, List.drop_eq_getElem_cons (by rw [List.length_map, Array.length_toList]; exact hja)]
      simp
    rw [e1]
    exact ⟨d'[j].1.1, d'[j].1.2.1, rfl, (d'[j].2.1.step' (fun k hk => sortW_heap encW w g 0 m d' os hk.2 hk.1.2)).mono (fun k hk => ⟨hk.1.1, fun e => hk.1.2 (Option.some.inj e)⟩)⟩
end Go.Proofs.Ytghdleofbkalbaa
