/- slices.SortFunc over items: the library's contract at a row of the call's own. -/
import Derived.Test.YtmdcgekiiopohaaGreatAut2
import Derived.Test.YtmdcgekiiopohaaGreatMD
import Derived.Shelf.SlSortCmp.WholeK
import Derived.Shelf.SlSortCmp.NoneTotal
set_option linter.unusedVariables false
set_option linter.unusedSimpArgs false
set_option linter.all false
namespace Go.Proofs
open Go.Shelf Go.RowKit Go.Lib Go.Sort
def Tryz.pdqI_ren : Go.Shelf.Ren := ⟨fun | 14 => 84 | 20 => 102 | 21 => 103 | 22 => 104 | 23 => 105 | 24 => 106 | 25 => 107 | 26 => 108 | 27 => 109 | 46 => 117 | 47 => 113 | 48 => 114 | 49 => 118 | 50 => 119 | 15 => 26 | 57 => 121 | 28 => 56 | 29 => 57 | n => n, fun | 24 => 100 | 22 => 66 | 3 => 3 | 25 => 105 | 4 => 4 | 0 => 0 | 46 => 129 | 45 => 128 | 50 => 56 | 66 => 139 | 39 => 65 | 55 => 98 | 70 => 143 | 76 => 147 | 77 => 148 | 53 => 96 | 5 => 5 | 9 => 9 | n => n, fun | n => n⟩
theorem Tryz.pdqI : Go.Proofs.SlLaysF0.n14 Tryz.prog Tryz.pdqI_ren := {
  mixed := by kernel_rfl
  f14 := ⟨Tryz.f84.name, by decide, Tryz.func84.trans (congrArg some (by kernel_rfl))⟩
  f15 := Tryz.func26.trans (congrArg some (by kernel_rfl))
  f20 := ⟨Tryz.f102.name, by decide, Tryz.func102.trans (congrArg some (by kernel_rfl))⟩
  f21 := ⟨Tryz.f103.name, by decide, Tryz.func103.trans (congrArg some (by kernel_rfl))⟩
  f22 := ⟨Tryz.f104.name, by decide, Tryz.func104.trans (congrArg some (by kernel_rfl))⟩
  f23 := ⟨Tryz.f105.name, by decide, Tryz.func105.trans (congrArg some (by kernel_rfl))⟩
  f24 := ⟨Tryz.f106.name, by decide, Tryz.func106.trans (congrArg some (by kernel_rfl))⟩
  f25 := ⟨Tryz.f107.name, by decide, Tryz.func107.trans (congrArg some (by kernel_rfl))⟩
  f26 := ⟨Tryz.f108.name, by decide, Tryz.func108.trans (congrArg some (by kernel_rfl))⟩
  f27 := ⟨Tryz.f109.name, by decide, Tryz.func109.trans (congrArg some (by kernel_rfl))⟩
  f28 := Tryz.func56.trans (congrArg some (by kernel_rfl))
  f29 := Tryz.func57.trans (congrArg some (by kernel_rfl))
  f46 := ⟨Tryz.f117.name, by decide, Tryz.func117.trans (congrArg some (by kernel_rfl))⟩
  f47 := Tryz.func113.trans (congrArg some (by kernel_rfl))
  f48 := Tryz.func114.trans (congrArg some (by kernel_rfl))
  f49 := ⟨Tryz.f118.name, by decide, Tryz.func118.trans (congrArg some (by kernel_rfl))⟩
  f50 := ⟨Tryz.f119.name, by decide, Tryz.func119.trans (congrArg some (by kernel_rfl))⟩
  f57 := ⟨Tryz.f121.name, by decide, Tryz.func121.trans (congrArg some (by kernel_rfl))⟩
  t0 := Tryz.underlying0
  a0 := Tryz.isAgg0
  z0 := Tryz.sizeOf0
  v0 := Tryz.zeroValue0
  t3 := Tryz.underlying3
  a3 := Tryz.isAgg3
  z3 := Tryz.sizeOf3
  v3 := Tryz.zeroValue3
  t4 := Tryz.underlying4
  a4 := Tryz.isAgg4
  z4 := Tryz.sizeOf4
  v4 := Tryz.zeroValue4
  t5 := Tryz.underlying5
  a5 := Tryz.isAgg5
  z5 := Tryz.sizeOf5
  v5 := Tryz.zeroValue5
  t9 := Tryz.underlying9
  a9 := Tryz.isAgg9
  z9 := Tryz.sizeOf9
  v9 := Tryz.zeroValue9
  t22 := Tryz.underlying66
  a22 := Tryz.isAgg66
  z22 := Tryz.sizeOf66
  v22 := Tryz.zeroValue66
  t25 := Tryz.underlying105
  a25 := Tryz.isAgg105
  z25 := Tryz.sizeOf105
  v25 := Tryz.zeroValue105
  t39 := Tryz.underlying65
  a39 := Tryz.isAgg65
  z39 := Tryz.sizeOf65
  v39 := Tryz.zeroValue65
  t45 := Tryz.underlying128
  a45 := Tryz.isAgg128
  z45 := Tryz.sizeOf128
  v45 := Tryz.zeroValue128
  t46 := Tryz.underlying129
  a46 := Tryz.isAgg129
  z46 := Tryz.sizeOf129
  v46 := Tryz.zeroValue129
  t50 := Tryz.underlying56
  a50 := Tryz.isAgg56
  z50 := Tryz.sizeOf56
  v50 := Tryz.zeroValue56
  t53 := Tryz.underlying96
  a53 := Tryz.isAgg96
  z53 := Tryz.sizeOf96
  v53 := Tryz.zeroValue96
  t55 := Tryz.underlying98
  a55 := Tryz.isAgg98
  z55 := Tryz.sizeOf98
  v55 := Tryz.zeroValue98
  t66 := Tryz.underlying139
  a66 := Tryz.isAgg139
  z66 := Tryz.sizeOf139
  v66 := Tryz.zeroValue139
  t70 := Tryz.underlying143
  a70 := Tryz.isAgg143
  z70 := Tryz.sizeOf143
  v70 := Tryz.zeroValue143
  t76 := Tryz.underlying147
  a76 := Tryz.isAgg147
  z76 := Tryz.sizeOf147
  v76 := Tryz.zeroValue147
  t77 := Tryz.underlying148
  a77 := Tryz.isAgg148
  z77 := Tryz.sizeOf148
  v77 := Tryz.zeroValue148 }
end Go.Proofs
namespace Go.Proofs.YtmdcgekiiopohaaGreat
open Go.RowKit Go.Cb Go.Sort Go.Proofs Go.Shelf
/-- An item where it lies: it reads so in w, outside of block g. -/
abbrev ItmAt (w : World) (S : Nat → Prop) (g : Nat) : Type := { x : (Option Addr × Nat) × Itm // Rd intT w (fun q => (S q ∧ q ≠ g) ∧ q < w.heap.size) x.1.1 x.1.2 x.2.2 ∧ rightB x.2.2 = true }
instance (w : World) (S : Nat → Prop) (g : Nat) : Inhabited (ItmAt w S g) := ⟨⟨((none, 0), (0, [])), Rd.nil _ _ _ _ _ (by decide), rfl⟩⟩
def encI {w : World} {S : Nat → Prop} {g : Nat} (x : ItmAt w S g) : List Value := [.int .i64 x.1.2.1, .slice x.1.1.1 x.1.2.2.length x.1.1.2]
def cfI {w : World} {S : Nat → Prop} {g : Nat} (x y : ItmAt w S g) : Int := cmpItem x.1.2 y.1.2
theorem swoI {w : World} {S : Nat → Prop} {g : Nat} : SWO (ltOf (cfI (w := w) (S := S) (g := g))) where
  irrefl := fun x => decide_eq_false (by show ¬ cmpItem _ _ < 0; have := cmpItem_neg x.1.2 x.1.2; omega)
  trans := fun x y z h1 h2 => decide_eq_true (itemO.ltt x.2.2 y.2.2 z.2.2 (of_decide_eq_true h1) (of_decide_eq_true h2))
  ntrans := fun x y z h1 h2 => decide_eq_false (by
    have h1 : ¬ cmpItem x.1.2 y.1.2 < 0 := of_decide_eq_false h1
    have h2 : ¬ cmpItem y.1.2 z.1.2 < 0 := of_decide_eq_false h2
    show ¬ cmpItem x.1.2 z.1.2 < 0
    have a1 := cmpItem_neg x.1.2 y.1.2
    have a2 := cmpItem_neg y.1.2 z.1.2
    have a3 := cmpItem_neg x.1.2 z.1.2
    have := itemO.trans _ _ _ z.2.2 y.2.2 x.2.2 (by omega) (by omega)
    omega)
theorem sortWKI_heap {α : Type} [Inhabited α] (enc : α → List Value) (k : Nat) (w : World) (g m : Nat) (dk : Array α) (os : Array Obj) {i : Nat} (hk : i < w.heap.size) (hne : i ≠ g) : (sortWorldK enc k w g 0 m dk os).heap[i]? = w.heap[i]? :=
  sortW_heap id w g 0 m (flatK enc k dk) os hk hne
theorem cmpIL {w : World} {S : Nat → Prop} {g : Nat} (n : Nat) : CmpLays Tryz.prog 61 #[] (encI (w := w) (S := S) (g := g)) 2 cfI g 0 n w := fun m os dk _ x y => by
  have hx := x.2.1.step' (w' := sortWorldK encI 2 w g 0 m dk os) (fun k hk => sortWKI_heap encI 2 w g m dk os hk.2 hk.1.2)
  have hy := y.2.1.step' (w' := sortWorldK encI 2 w g 0 m dk os) (fun k hk => sortWKI_heap encI 2 w g m dk os hk.2 hk.1.2)
  exact (itemCompare_c _ _ _ _ _ _ x.1.2 y.1.2 _ hx hy _ _ rfl rfl).mono fun e w' ⟨he, hg⟩ => ⟨he, hg.out⟩
theorem own_irow {w : World} {base n c : Nat} {e : TypeId} {A : Option Addr} {S : Nat → Prop} {xs : List Itm} (h : Own itemT e w base S (.slice A n c) xs) {k : Nat} (hk : k < xs.length) :
    ∃ g A1 c1, A = some ⟨g, 0, none⟩ ∧ base ≤ g ∧ g < w.heap.size ∧ w.cell? ⟨g, k * 2, none⟩ = some (.int .i64 xs[k].1) ∧ w.cell? ⟨g, k * 2 + 1, none⟩ = some (.slice A1 xs[k].2.length c1) ∧ Rd intT w (fun q => S q ∧ q ≠ g) A1 c1 xs[k].2 ∧ ∀ i, w.frozen? ⟨g, i, none⟩ = false := by
  obtain ⟨A', c', he, _⟩ := h.rd
  injection he with e1 e2 e3
  subst e1 e2 e3
  obtain ⟨g, rfl, hg1, hg2⟩ := h.addr (by omega)
  obtain ⟨inner, ho, hr⟩ := h
  have hil : inner.length = xs.length * 2 := ho.1
  obtain ⟨cs0, cs1, hcs, h0, ⟨A1, c1, rfl, r1⟩⟩ := hr k xs[k] (List.getElem?_eq_getElem hk)
  obtain rfl : cs0 = [.int .i64 xs[k].1] := h0
  have h1 : (inner.drop (k * 2)).take 2 = [.int .i64 xs[k].1, .slice A1 xs[k].2.length c1] := hcs
  have g0 : inner[k * 2 + 0]? = some (.int .i64 xs[k].1) := by
    have : ((inner.drop (k * 2)).take 2)[0]? = some (.int .i64 xs[k].1) := by rw [h1]; rfl
    rwa [List.getElem?_take, if_pos (by omega), List.getElem?_drop] at this
  have g1 : inner[k * 2 + 1]? = some (.slice A1 xs[k].2.length c1) := by
    have : ((inner.drop (k * 2)).take 2)[1]? = some (.slice A1 xs[k].2.length c1) := by rw [h1]; rfl
    rwa [List.getElem?_take, if_pos (by omega), List.getElem?_drop] at this
  have f0 := ho.cells (g := g) rfl _ _ g0
  have f1 := ho.cells (g := g) rfl _ _ g1
  rw [add_plain] at f0 f1
  exact ⟨g, A1, c1, rfl, hg1, hg2, f0, f1, r1.mono (fun q hq => ⟨hq.1, fun e => hq.2 (by rw [e]; rfl)⟩), fun i => World.ownsRow.frozenAt ho i⟩
set_option maxHeartbeats 2000000 in
set_option maxRecDepth 100000 in
theorem sortFnI_c {α : Type} [Inhabited α] (enc : α → List Value) (hk : ∀ x, (enc x).length = 2) (h1 : ∀ x, ∀ v ∈ enc x, v.oneCell' = true) (cf : α → α → Int) (hO : SWO (ltOf cf)) {g c : Nat} (d : Array α) (w : World) (hcmp : CmpLays Tryz.prog 61 #[] enc 2 cf g 0 d.size w) (hH : HoldsK enc 2 w g 0 d) (hblk : g < w.heap.size) (hsz : d.size < 4611686018427387904) :
    Calls Tryz.prog 60 #[.slice (some ⟨g, 0, none⟩) d.size c, .func (.func 61) #[] #[]] w fun e w' =>
      e = .returned (.tuple #[]) ∧ ∃ d' n os, PermIn 0 d.size d d' ∧ SortedIn (ltOf cf) 0 d.size d' ∧ w' = sortWorldK enc 2 w g 0 n d' os := by
  have hlim : Lib.bitLen d.size < 4611686018427387904 := Nat.lt_of_le_of_lt (Lib.bitLen_le d.size 62 (by omega) (by omega)) (by omega)
  have hp := AnyQ.pdqsortCmpFunc_all Tryz.pdqI 2 (fun _ => by kernel_rfl) (fun _ => by kernel_rfl) enc cf 61 #[] hO g 0 c d w (enters_of Tryz.func61 (by kernel_rfl) rfl) hcmp ⟨hk, h1, hH, hblk⟩ (d.size + 1) 0 d.size (Lib.bitLen d.size) d w (by omega) rfl (SWK.start hH) (Nat.zero_le _) (Nat.le_refl _) hsz hlim (Or.inl rfl)
  have hl : Calls Tryz.prog 26 #[.int .u64 (d.size : Int)] w fun e w' => e = .returned (.int .i64 (Lib.bitLen d.size : Nat)) ∧ w' = w := by
    have h := Any.bits_Len (SlLaysF0.n15.bits { Tryz.pdqI with }) (d.size : Int) w (by omega) (by omega)
    rwa [Int.toNat_natCast] at h
  change Calls Tryz.prog 84 _ _ _ at hp
  have wr : IntKind.u64.wrap (d.size : Int) = d.size := by simp [IntKind.wrap, IntKind.bits, IntKind.signed]; omega
  have HP := Lib.hid hp
  have HL := Lib.hid hl
  have HS := Lib.hid (pdq_sorts (ltOf cf) hO d 0 d.size (Lib.bitLen d.size) true true (Nat.zero_le _) (Nat.le_refl _) (Or.inl rfl))
  clear hp hl hH hcmp h1 hlim hk hO
  go_enter Tryz.func60, Tryz.ntmps60
  go_wp2_with fail
  refine HL.out.mono ?_
  rintro e w1 ⟨rfl, rfl⟩
  go_wp2_with fail
  refine HP.out.mono ?_
  rintro e w2 ⟨rfl, n, os, rfl⟩
  go_wp2
  go_end0
  exact ⟨rfl, _, n, os, HS.out.1, HS.out.2, rfl⟩
set_option maxHeartbeats 2000000 in
/-- slices.SortFunc(out, compare) over right items: what it held, sorted. -/
theorem sortI_c {w : World} {base g c n : Nat} {S : Nat → Prop} {xs : List Itm} (h : Own itemT 100 w base S (.slice (some ⟨g, 0, none⟩) n c) xs) (hn : n = xs.length) (hr : ∀ p ∈ xs, rightB p.2 = true) (hsm : n < 4611686018427387904) :
    Calls Tryz.prog 60 #[.slice (some ⟨g, 0, none⟩) n c, .func (.func 61) #[] #[]] w fun e w' =>
      e = .returned (.tuple #[]) ∧ ∃ ys, ys.Perm xs ∧ (ys.Pairwise fun x y => ¬ cmpItem y x < 0) ∧ Own itemT 100 w' base S (.slice (some ⟨g, 0, none⟩) n c) ys ∧ w.grownBy w' (some g) := by
  subst hn
  have hgl : g < w.heap.size := h.lt rfl
  have hex : ∀ i : Fin xs.length, ∃ a : ItmAt w S g, a.1.2 = xs[i] ∧ w.cell? ⟨g, i.1 * 2, none⟩ = (encI a)[0]? ∧ w.cell? ⟨g, i.1 * 2 + 1, none⟩ = (encI a)[1]? := fun i => by
    obtain ⟨g', A1, c1, e1, _, _, f0, f1, r1, _⟩ := own_irow h i.2
    obtain rfl : g = g' := by injection e1 with e1; injection e1
    exact ⟨⟨((A1, c1), xs[i]), r1.bound, hr _ (List.getElem_mem _)⟩, rfl, f0, f1⟩
  obtain ⟨f, hf⟩ := Classical.axiomOfChoice hex
  obtain ⟨d, hd⟩ : ∃ d : Array (ItmAt w S g), d = Array.ofFn f := ⟨_, rfl⟩
  have hds : d.size = xs.length := by rw [hd, Array.size_ofFn]
  have hdj : ∀ j (hj : j < xs.length), d[j]! = f ⟨j, hj⟩ := fun j hj => by rw [getElem!_pos d j (by omega)]; simp [hd]
  obtain ⟨inner, ho, hr2⟩ := h
  have hfz : ∀ j, w.frozen? ⟨g, j, none⟩ = false := fun j => World.ownsRow.frozenAt ho j
  have hH : HoldsK encI 2 w g 0 d := fun t ht => by
    rw [size_flatK] at ht
    obtain ⟨q, r, hr3, rfl⟩ : ∃ q r, r < 2 ∧ t = q * 2 + r := ⟨t / 2, t % 2, Nat.mod_lt _ (by omega), by omega⟩
    have hq : q < xs.length := by omega
    rw [get_flatK _ _ _ _ ht, Nat.zero_add, show (q * 2 + r) / 2 = q by omega, show (q * 2 + r) % 2 = r by omega, hdj q hq]
    refine ⟨?_, hfz _⟩
    obtain ⟨_, h0, h1⟩ := hf ⟨q, hq⟩
    have h01 : r = 0 ∨ r = 1 := by omega
    show w.cell? ⟨g, q * 2 + r, none⟩ = some (id _)
    rcases h01 with rfl | rfl
    · exact h0
    · exact h1
  have hcon := sortFnI_c encI (fun _ => rfl) (fun x v hv => by
    simp only [encI, List.mem_cons, List.not_mem_nil, or_false] at hv
    rcases hv with rfl | rfl <;> rfl) cfI swoI d w (cmpIL d.size) hH hgl (by omega) (c := c)
  rw [hds] at hcon
  refine hcon.mono ?_
  rintro e w' ⟨rfl, d', m, os, hp, hs, rfl⟩
  have hd's : d'.size = xs.length := by rw [hp.1, hds]
  have hmap : d.toList.map (fun a => a.1.2) = xs := by
    apply List.ext_getElem?
    intro k
    by_cases hk : k < xs.length
    · have e1 : d[k]'(by omega) = f ⟨k, hk⟩ := by rw [← hdj k hk, getElem!_pos d k (by omega)]
      rw [List.getElem?_map, Array.getElem?_toList, Array.getElem?_eq_getElem (by omega), e1, List.getElem?_eq_getElem hk]
      show some (f ⟨k, hk⟩).1.2 = _
      rw [(hf ⟨k, hk⟩).1]; rfl
    · rw [List.getElem?_eq_none (by rw [List.length_map, Array.length_toList]; omega), List.getElem?_eq_none (by omega)]
  have hperm : (d'.toList.map fun a => a.1.2).Perm xs := by
    have h3 := hp.2.2
    rw [show d'.extract 0 xs.length = d' by rw [← hd's]; simp, show d.extract 0 xs.length = d by rw [← hds]; simp] at h3
    have h4 := h3.map (fun a : ItmAt w S g => a.1.2)
    rw [hmap] at h4
    exact h4
  have hlen : (d'.toList.map fun a => a.1.2).length = xs.length := by rw [List.length_map, Array.length_toList]; exact hd's
  have hgrow : w.grownBy (sortWorldK encI 2 w g 0 m d' os) (some g) := ⟨rfl, rfl, rfl, by
    show w.heap.size ≤ ((putRow id (Sort.ahead w m) g 0 (flatK encI 2 d')).heap ++ os).size
    rw [Array.size_append, Go.Sort.size_putRow]
    show w.heap.size ≤ w.heap.size + os.size
    omega, fun k hk hne => sortWKI_heap encI 2 w g m d' os hk (fun e => hne (by rw [e]))⟩
  have hflat : ∀ j (hj : j < d'.size), ((flatK encI 2 d').toList.drop (j * 2)).take 2 = encI d'[j] := fun j hj => by
    have hsz := size_flatK encI 2 d'
    apply List.ext_getElem?
    intro i
    by_cases hi : i < 2
    · have hlt : j * 2 + i < (flatK encI 2 d').size := by rw [hsz]; omega
      have hi2 : i < (encI d'[j]).length := hi
      have e5 : (flatK encI 2 d')[j * 2 + i]! = (encI d'[j])[i] := by
        rw [get_flatK _ _ _ _ (by omega), show (j * 2 + i) / 2 = j by omega, show (j * 2 + i) % 2 = i by omega, getElem!_pos d' j hj, getElem!_pos (encI d'[j]) i hi2]
      rw [List.getElem?_take, if_pos hi, List.getElem?_drop, Array.getElem?_toList, Array.getElem?_eq_getElem hlt, List.getElem?_eq_getElem hi2, ← e5, getElem!_pos (flatK encI 2 d') (j * 2 + i) hlt]
    · rw [List.getElem?_eq_none (by simp; omega), List.getElem?_eq_none (show (encI d'[j]).length ≤ i by show 2 ≤ i; omega)]
  refine ⟨rfl, _, hperm, ?_, ⟨(flatK encI 2 d').toList, ?_, fun j x hj => ?_⟩, hgrow⟩
  · refine List.pairwise_iff_getElem.2 fun i j hi hj hij => ?_
    rw [hlen] at hi hj
    have h5 := hs i j (Nat.zero_le _) hij hj
    rw [getElem!_pos d' j (by omega), getElem!_pos d' i (by omega)] at h5
    have h6 : ¬ cmpItem (d'[j]'(by omega)).1.2 (d'[i]'(by omega)).1.2 < 0 := of_decide_eq_false h5
    simpa using h6
  · refine ⟨by rw [Array.length_toList, size_flatK, hd's, hlen]; rfl, ?_⟩
    rcases ho.2 with ⟨e1, e2⟩ | ⟨g', cap, cur, e1, b1, b2, b3, b4, b5, b6⟩
    · injection e1 with e1; cases e1
    · injection e1 with e1 _ e3
      injection e1 with e1
      injection e1 with e1
      subst e1 e3
      have hsz2 : itemT.sz = 2 := rfl
      rw [hsz2] at b5
      refine .inr ⟨g, c, _, by rw [hlen], b1, sortW_row id w g m (flatK encI 2 d') os b2, by rw [hlen]; exact b3, b4, ?_, ?_⟩
      · unfold putCells
        rw [Array.size_mapIdx, hsz2]; exact b5
      · rw [hlen, hsz2]
        have := putC_take id cur (flatK encI 2 d') (by rw [size_flatK]; omega)
        rw [size_flatK, hd's] at this
        rw [this]
        simp
  · rw [List.getElem?_map, Array.getElem?_toList] at hj
    obtain ⟨a, ha, rfl⟩ := Option.map_eq_some_iff.1 hj
    obtain ⟨hja, rfl⟩ := Array.getElem?_eq_some_iff.1 ha
    have e1 : ((flatK encI 2 d').toList.drop (j * itemT.sz)).take itemT.sz = encI d'[j] := hflat j hja
    rw [e1]
    have q1 := (d'[j].2.1.step' (fun k hk => sortWKI_heap encI 2 w g m d' os hk.2 hk.1.2)).mono (S' := fun k => S k ∧ some k ≠ (Value.slice (some ⟨g, 0, none⟩) xs.length c).ownBlock) (fun k hk => ⟨hk.1.1, fun e => hk.1.2 (Option.some.inj e)⟩)
    exact ⟨[_], [_], rfl, rfl, ⟨_, _, rfl, q1⟩⟩
end Go.Proofs.YtmdcgekiiopohaaGreat
