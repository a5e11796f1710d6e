/- Walks: do tags cover a set, the document's. -/
import Derived.Test.YtmdcgekiiopohaaGreatResid3
set_option linter.unusedVariables false
set_option linter.unusedSimpArgs false
set_option linter.all false
namespace Go.Cb
open Go.RowKit
theorem anyB_snoc {b : List Int} {tags : List Int} {k : Nat} {t : Int} (h : tags[k]? = some t) (h1 : anyB b (tags.take k) = false) (h2 : hasB b t = false) : anyB b (tags.take (k + 1)) = false := by
  unfold anyB at *
  rw [List.take_add_one, h, List.any_append, h1]
  simp [h2]
theorem anyB_yes {b : List Int} {tags : List Int} {k : Nat} {t : Int} (h : tags[k]? = some t) (h2 : hasB b t = true) : anyB b tags = true := List.any_eq_true.2 ⟨t, List.mem_of_getElem? h, h2⟩
theorem coverF_at {free : Bool} {tags : List Int} {s : SemS} {k : Nat} {x : Lin} (h : s[k]? = some x) : coverF free tags (s.drop k) = coverF free tags (x :: s.drop (k + 1)) := by
  have hlt := (List.getElem?_eq_some_iff.1 h).1
  rw [List.drop_eq_getElem_cons hlt, (List.getElem?_eq_some_iff.1 h).2]
theorem coverF_any {free : Bool} {tags : List Int} {r : SemS} {x : Lin} (h : anyB x.1 tags = true) : coverF free tags (x :: r) = coverF free tags r := by rw [coverF, if_pos h]
theorem coverF_base {free : Bool} {tags : List Int} {r : SemS} {x : Lin} (h : anyB x.1 tags = false) (h2 : 0 < x.1.length ∨ free = false) : coverF free tags (x :: r) = (false, x.1) := by
  rw [coverF, if_neg (by rw [h]; decide), if_pos]
  rcases h2 with h2 | h2
  · exact .inl (fun e => by rw [e] at h2; simp at h2)
  · exact .inr h2
theorem coverF_per {free : Bool} {tags : List Int} {r : SemS} {x : Lin} (h : anyB x.1 tags = false) (h2 : x.1.length = 0) (h3 : free = true) : coverF free tags (x :: r) = match x.2.find? fun p => !anyB p tags with
      | some p => (false, p)
      | none => coverF free tags r := by
  have h5 : ¬ (x.1 ≠ [] ∨ free = false) := by
    rintro (h4 | h4)
    · exact h4 (List.eq_nil_of_length_eq_zero h2)
    · rw [h3] at h4; cases h4
  exact (if_neg (by rw [h]; decide)).trans (if_neg h5)
theorem find_none {tags : List Int} {ps : List (List Int)} {k : Nat} {p : List Int} (h : ps[k]? = some p) (h1 : (ps.take k).find? (fun p => !anyB p tags) = none) (h2 : anyB p tags = true) : (ps.take (k + 1)).find? (fun p => !anyB p tags) = none := by
  rw [List.take_add_one, h, List.find?_append, h1]
  simp [h2]
theorem find_some {tags : List Int} {ps : List (List Int)} {k : Nat} {p : List Int} (h : ps[k]? = some p) (h1 : (ps.take k).find? (fun p => !anyB p tags) = none) (h2 : anyB p tags = false) : ps.find? (fun p => !anyB p tags) = some p := by
  have hlt := (List.getElem?_eq_some_iff.1 h).1
  have e : ps = ps.take k ++ p :: ps.drop (k + 1) := by
    conv => lhs; rw [← List.take_append_drop k ps, List.drop_eq_getElem_cons hlt, (List.getElem?_eq_some_iff.1 h).2]
  rw [e, List.find?_append, h1, List.find?_cons, h2]
  rfl
theorem coverS_no {s : SemS} {free : Bool} {tags : List Int} (h : rightS s = false) : coverS s free tags = (false, []) := by unfold coverS; rw [if_neg (by rw [h]; decide)]
theorem coverS_yes {s : SemS} {free : Bool} {tags : List Int} (h : rightS s = true) : coverS s free tags = coverF free tags s := by unfold coverS; rw [if_pos h]
/-- A word, read alone. -/
def AnyBag (w : World) (v : Value) (l : List Int) : Prop := ∃ A c, v = .slice A l.length c ∧ Rd intT w All A c l
end Go.Cb
namespace Go.Proofs.YtmdcgekiiopohaaGreat
open Go.RowKit Go.Cb Go.Sort
theorem cover11_c (T : Nat) (S : Nat → Prop) (A : Option Addr) (c : Nat) (b : List Int) (t : Int) (w : World) (h : Rd intT w S A c b) (hc : w.cell? ⟨T, 0, none⟩ = some (.slice A b.length c)) :
    Calls Tryz.prog 41 #[.int .i64 t, .pointer (some ⟨T, 0, none⟩)] w fun e w' => e = .returned (.bool (hasB b t)) ∧ w = w' := by
  have HQ := Lib.hid (hasP_c _ A c b t w h _ rfl)
  go_enter Tryz.func41, Tryz.ntmps41
  go_wp2_with fail
  refine HQ.out.mono ?_
  rintro e w1 ⟨rfl, rfl⟩
  go_wp2
  go_ret
  exact ⟨rfl, rfl⟩
set_option maxHeartbeats 4000000 in
theorem indexTag_c (T : Nat) (S S' : Nat → Prop) (A B : Option Addr) (c d : Nat) (b tags : List Int) (w : World) (h : Rd intT w S A c b) (hc : w.cell? ⟨T, 0, none⟩ = some (.slice A b.length c)) (ht : Rd intT w S' B d tags) (m : Nat) (hm : m = tags.length) :
    Calls Tryz.prog 72 #[.slice B m d, .func (.func 41) #[] #[.pointer (some ⟨T, 0, none⟩)]] w fun e w' => (∃ n : Int, e = .returned (.int .i64 n) ∧ (decide (0 ≤ n) = anyB b tags)) ∧ w = w' := by
  subst hm
  have lm := ht.lenMax
  have hcf : ∀ (args : Array Value) (w : World), (callFunc 41 args).run Tryz.prog w = .ok (.enter 41 args) w := fun _ _ => by kernel_rfl
  have HQ := Lib.hid (fun t => cover11_c T S A c b t w h hc)
  clear h hc
  go_enter Tryz.func72, Tryz.ntmps72
  go_wp2
  go_loopw [8] (fun v wr => ∃ (k : Nat) (W : World), W = wr ∧ k ≤ tags.length ∧ v = .int .i64 k ∧ Hid (anyB b (tags.take k) = false) ∧ w = W) (fun v _ => tags.length - (intOf v).toNat)
  case atStart => exact ⟨0, _, rfl, Nat.zero_le _, rfl, rfl, rfl⟩
  case round =>
    obtain ⟨k, W, rfl, hk, rfl, HA, rfl⟩ := hrel
    by_cases hlt : k < tags.length
    · obtain ⟨ad, rfl, hc⟩ := ht.int hlt
      obtain ⟨t, ht9⟩ : ∃ t, tags[k] = t := ⟨_, rfl⟩
      have ht? : tags[k]? = some t := by rw [List.getElem?_eq_getElem hlt, ht9]
      rw [ht9] at hc
      have HT := Lib.hid ht?
      have HQ2 := Lib.hid (HQ.out t)
      clear ht9 ht?
      cases hh : hasB b t with
      | true =>
        have HR := Lib.hid (anyB_yes HT.out hh)
        rw [hh] at HQ2
        clear hh
        go_wp2_with fail
        refine HQ2.out.mono ?_
        rintro e w1 ⟨rfl, rfl⟩
        go_wp2
        go_ret
        exact ⟨⟨_, rfl, by rw [HR.out]; exact decide_eq_true (by omega)⟩, rfl⟩
      | false =>
        have HR := Lib.hid (anyB_snoc HT.out HA.out hh)
        rw [hh] at HQ2
        clear hh
        go_wp2_with fail
        refine HQ2.out.mono ?_
        rintro e w1 ⟨rfl, rfl⟩
        go_wp2
        go_roundw
        case rel => exact ⟨k + 1, _, rfl, by omega, by go_num, HR.out, rfl⟩
        case measure => simp [intOf]; omega
    · obtain rfl : k = tags.length := by omega
      have HR := Lib.hid (show anyB b tags = false by have := HA.out; rwa [List.take_length] at this)
      go_wp2
      go_ret
      exact ⟨⟨_, rfl, by rw [HR.out]; exact decide_eq_false (by omega)⟩, rfl⟩
theorem containsTag_c (T : Nat) (S S' : Nat → Prop) (A B : Option Addr) (c d : Nat) (b tags : List Int) (w : World) (h : Rd intT w S A c b) (hc : w.cell? ⟨T, 0, none⟩ = some (.slice A b.length c)) (ht : Rd intT w S' B d tags) (m : Nat) (hm : m = tags.length) :
    Calls Tryz.prog 40 #[.slice B m d, .func (.func 41) #[] #[.pointer (some ⟨T, 0, none⟩)]] w fun e w' => e = .returned (.bool (anyB b tags)) ∧ w = w' := by
  have C := Lib.hid (indexTag_c T S S' A B c d b tags w h hc ht m hm)
  clear h ht hm hc
  generalize anyB b tags = r at *
  go_enter Tryz.func40, Tryz.ntmps40
  go_wp2_with fail
  refine C.out.mono ?_
  rintro e w' ⟨⟨q, rfl, hq⟩, rfl⟩
  go_wp2
  go_ret
  exact ⟨rfl, rfl⟩
/-- none: has this word none of the tags? -/
theorem cover1_c (T : Nat) (S S' : Nat → Prop) (A B : Option Addr) (c d : Nat) (b tags : List Int) (w : World) (h : Rd intT w S A c b) (hT : w.cell? ⟨T, 0, none⟩ = some (.slice B tags.length d)) (ht : Rd intT w S' B d tags) (n : Nat) (hn : n = b.length) :
    Calls Tryz.prog 39 #[.slice A n c, .pointer (some ⟨T, 0, none⟩)] w fun e w' => e = .returned (.bool (!anyB b tags)) ∧ Bel w w' := by
  subst hn
  have hal : Bel w (w.alloc (.cells #[.slice A b.length c] 27)) := (Bel.refl _).alloc _
  have hT2 := cell_keep hT (hal.block (World.block_lt_of_cell? _ _ hT))
  have hX : (w.alloc (.cells #[.slice A b.length c] 27)).cell? ⟨w.heap.size, 0, none⟩ = some (.slice A b.length c) := cellAt (heap_alloc_new w _) 0
  have C := Lib.hid (containsTag_c w.heap.size _ _ A B c d b tags _ (h.to hal) hX (ht.to hal) _ rfl)
  clear h ht hT hX
  generalize anyB b tags = r at *
  go_enter Tryz.func39, Tryz.ntmps39
  go_wp2_with fail
  refine C.out.mono ?_
  rintro e w' ⟨rfl, rfl⟩
  go_wp2
  go_ret
  exact ⟨rfl, hal⟩
end Go.Proofs.YtmdcgekiiopohaaGreat
