/- Plain laws: two linear sets together. -/
import Derived.Test.YtghdleofbkalbaaPure11
namespace Go.Cb
theorem normB_id {b : List Int} (hb : rightB b = true) : normB b = b := by
  have := normB_pad (zs := []) hb (fun x hx => by simp at hx)
  rwa [List.append_nil] at this
theorem badB_id {b : List Int} (hb : rightB b = true) : badB b = false := by
  have := badB_pad (zs := []) hb (fun x hx => by simp at hx)
  rwa [List.append_nil] at this
/-- Each word of one with each of the other. -/
def catL (x y : Lin) : Lin × Bool := if rightL x = true ∧ rightL y = true ∧ (addB x.1 y.1).2 = true then ofLin (addB x.1 y.1).1 (x.2 ++ y.2) else (([], []), false)
theorem catL_no1 {x y : Lin} (h : rightL x = false) : catL x y = (([], []), false) := by unfold catL; rw [if_neg (by simp [h])]
theorem catL_no2 {x y : Lin} (h : rightL y = false) : catL x y = (([], []), false) := by unfold catL; rw [if_neg (by simp [h])]
theorem catL_no3 {x y : Lin} (h : (addB x.1 y.1).2 = false) : catL x y = (([], []), false) := by unfold catL; rw [if_neg (by simp [h])]
theorem catL_of {x y : Lin} (h1 : rightL x = true) (h2 : rightL y = true) (h : (addB x.1 y.1).2 = true) : catL x y = ofLin (addB x.1 y.1).1 (x.2 ++ y.2) := by unfold catL; rw [if_pos ⟨h1, h2, h⟩]
theorem ofF_put : ∀ {ps acc : List (List Int)}, (∀ p ∈ ps, p.isEmpty = false ∧ rightB p = true) → ofF acc ps = some (ps.foldl putB acc)
  | [], acc, _ => rfl
  | p :: ps, acc, h => by
    have hp := h p (by simp)
    rw [ofF, if_neg (by rw [badB_id hp.2]; simp), normB_id hp.2, if_neg (by rw [hp.1]; simp), ofF_put (fun q hq => h q (by simp [hq]))]
    rfl
theorem nzB_id {ps : List (List Int)} (h : ∀ p ∈ ps, p.isEmpty = false ∧ rightB p = true) : nzB ps = ps := by
  unfold nzB
  have h1 : ps.map normB = ps := by
    conv => rhs; rw [← List.map_id ps]
    exact List.map_congr_left (fun p hp => normB_id (h p hp).2)
  rw [h1, List.filter_eq_self]
  intro p hp
  simp [(h p hp).1]
theorem lin_each {x y : Lin} (h1 : rightL x = true) (h2 : rightL y = true) : ∀ p ∈ x.2 ++ y.2, p.isEmpty = false ∧ rightB p = true := by
  obtain ⟨b, ps⟩ := x
  obtain ⟨c, qs⟩ := y
  intro p hp
  rcases List.mem_append.1 hp with hp | hp
  · exact (rightL_iff.1 h1).2.each p hp
  · exact (rightL_iff.1 h2).2.each p hp
/-- What two right sets are, together. -/
theorem catL_put {x y : Lin} (h1 : rightL x = true) (h2 : rightL y = true) (h : (addB x.1 y.1).2 = true) : catL x y = (((addB x.1 y.1).1, (x.2 ++ y.2).foldl putB []), true) := by
  rw [catL_of h1 h2 h, ofLin_yes (badB_id (addB_right h)) (ofF_put (lin_each h1 h2)), normB_id (addB_right h)]
theorem foldl_put {ps : List (List Int)} (h : ∀ p ∈ ps, p.isEmpty = false ∧ rightB p = true) : Good (ps.foldl putB []) ∧ (∀ x, x ∈ ps.foldl putB [] ↔ x ∈ ps) := by
  obtain ⟨g, m⟩ := ofF_mems Good.nil (ofF_put (acc := []) h)
  refine ⟨g, fun x => ?_⟩
  rw [m x, nzB_id h]
  simp
theorem foldl_put_len : ∀ (ps acc : List (List Int)), (ps.foldl putB acc).length ≤ acc.length + ps.length
  | [], acc => by simp
  | p :: ps, acc => by
    have := foldl_put_len ps (putB acc p)
    have h2 := putB_length acc p
    simp only [List.foldl_cons, List.length_cons]
    omega
theorem catL_right (x y : Lin) : rightL (catL x y).1 = true := by
  unfold catL
  split
  · exact ofLin_right _ _
  · decide
theorem catL_comm (x y : Lin) : catL x y = catL y x := by
  by_cases h : rightL x = true ∧ rightL y = true ∧ (addB x.1 y.1).2 = true
  · rw [catL_put h.1 h.2.1 h.2.2, catL_put h.2.1 h.1 (by rw [addB_comm]; exact h.2.2), addB_comm y.1 x.1]
    have e : (x.2 ++ y.2).foldl putB [] = (y.2 ++ x.2).foldl putB [] := by
      obtain ⟨g1, m1⟩ := foldl_put (lin_each h.1 h.2.1)
      obtain ⟨g2, m2⟩ := foldl_put (lin_each h.2.1 h.1)
      refine ext_rise g1.up g2.up (fun z => ?_)
      rw [m1, m2, List.mem_append, List.mem_append, or_comm]
    rw [e]
  · have h2 : ¬ (rightL y = true ∧ rightL x = true ∧ (addB y.1 x.1).2 = true) := fun k => h ⟨k.2.1, k.1, by rw [addB_comm]; exact k.2.2⟩
    unfold catL
    rw [if_neg h, if_neg h2]
theorem catL_assoc {x y z : Lin} (hx : rightL x = true) (hy : rightL y = true) (hz : rightL z = true) (h1 : (addB x.1 y.1).2 = true) (h2 : (addB (addB x.1 y.1).1 z.1).2 = true) (h3 : (addB y.1 z.1).2 = true) (h4 : (addB x.1 (addB y.1 z.1).1).2 = true) :
    catL (catL x y).1 z = catL x (catL y z).1 := by
  have r1 := catL_right x y
  have r2 := catL_right y z
  obtain ⟨g1, m1⟩ := foldl_put (lin_each hx hy)
  obtain ⟨g2, m2⟩ := foldl_put (lin_each hy hz)
  rw [catL_put hx hy h1] at r1 ⊢
  rw [catL_put hy hz h3] at r2 ⊢
  dsimp only at r1 r2 ⊢
  rw [catL_put r1 hz h2, catL_put hx r2 h4, addB_assoc h1 h2 h3 h4]
  obtain ⟨g3, m3⟩ := foldl_put (lin_each r1 hz)
  obtain ⟨g4, m4⟩ := foldl_put (lin_each hx r2)
  have e : ((x.2 ++ y.2).foldl putB [] ++ z.2).foldl putB [] = (x.2 ++ (y.2 ++ z.2).foldl putB []).foldl putB [] := by
    refine ext_rise g3.up g4.up (fun u => ?_)
    rw [m3, m4]
    dsimp only
    rw [List.mem_append, List.mem_append, m1, m2, List.mem_append, List.mem_append, or_assoc]
  dsimp only
  rw [e]
theorem catL_len (x y : Lin) : (catL x y).1.2.length ≤ x.2.length + y.2.length := by
  by_cases h : rightL x = true ∧ rightL y = true ∧ (addB x.1 y.1).2 = true
  · rw [catL_put h.1 h.2.1 h.2.2]
    have := foldl_put_len (x.2 ++ y.2) []
    simpa using this
  · unfold catL
    rw [if_neg h]
    simp
theorem catL_point {x y : Lin} (h1 : rightL x = true) (h2 : rightL y = true) (h : (addB x.1 y.1).2 = true) : (catL x y).1.2.isEmpty = (x.2.isEmpty && y.2.isEmpty) := by
  rw [catL_put h1 h2 h]
  obtain ⟨g, m⟩ := foldl_put (lin_each h1 h2)
  dsimp only
  rw [Bool.eq_iff_iff]
  simp only [Bool.and_eq_true, List.isEmpty_iff]
  constructor
  · intro e
    have : ∀ z, ¬ z ∈ x.2 ++ y.2 := fun z hz => by
      have := (m z).2 hz
      rw [e] at this; simp at this
    have h3 : x.2 ++ y.2 = [] := List.eq_nil_iff_forall_not_mem.2 this
    exact List.append_eq_nil_iff.1 h3
  · rintro ⟨e1, e2⟩
    rw [e1, e2]; rfl
theorem madeL_base (l : List Int) : ∀ i, (madeL l).1.getD i 0 < 40 := by
  intro i
  have h : (madeL l).1 = [] ∨ (madeL l).1 = playBag l := by
    unfold madeL ofLin
    split
    · exact .inl rfl
    · split
      · exact .inl rfl
      · exact .inr (normB_id (playBag_right l))
  rcases h with h | h <;> rw [h]
  · simp
  · by_cases hi : i < (playBag l).length
    · rw [getD_of hi]; exact (playBag_small l _ (List.getElem_mem hi)).2
    · rw [getD_out (by omega)]; omega
theorem ofF_len2 (ps acc q : List (List Int)) (h : ofF acc ps = some q) : q.length ≤ acc.length + ps.length := by
  induction ps generalizing acc with
  | nil => unfold ofF at h; injection h with h; subst h; simp
  | cons p ps ih =>
    unfold ofF at h
    split at h
    · exact nomatch h
    · have := ih _ h
      have hp := putB_length acc (normB p)
      split at this <;> simp only [List.length_cons] <;> omega
theorem ofLin_len (b : List Int) (ps : List (List Int)) : (ofLin b ps).1.2.length ≤ ps.length := by
  unfold ofLin
  split
  · simp
  · split
    · simp
    · rename_i q h
      have := ofF_len2 _ _ _ h
      simpa using this
theorem madeL_len3 (l : List Int) : (madeL l).2.length ≤ 3 := by
  unfold madeL
  have := ofLin_len (playBag l) (madeTo l (madeN l))
  rw [madeTo_length] at this
  have h3 : madeN l ≤ 3 := by unfold madeN; (split; · omega); (split; · omega); (split; · omega); omega
  omega
theorem small_add {x y : Lin} (hx : rightL x = true) (hy : rightL y = true) {m n : Int} (h1 : ∀ i, x.1.getD i 0 < m) (h2 : ∀ i, y.1.getD i 0 < n) (h : m + n ≤ 1000) : (addB x.1 y.1).2 = true := by
  obtain ⟨b, ps⟩ := x
  obtain ⟨c, qs⟩ := y
  refine addB_small (rightL_iff.1 hx).1 (rightL_iff.1 hy).1 (fun i => ?_)
  have := h1 i
  have := h2 i
  unfold far
  dsimp only at *
  omega
theorem cat_fst {x y : Lin} (hx : rightL x = true) (hy : rightL y = true) (h : (addB x.1 y.1).2 = true) : (catL x y).1.1 = (addB x.1 y.1).1 ∧ (catL x y).2 = true := by
  rw [catL_put hx hy h]; exact ⟨rfl, rfl⟩
theorem cat_small {x y : Lin} (hx : rightL x = true) (hy : rightL y = true) {m n : Int} (h1 : ∀ i, x.1.getD i 0 < m) (h2 : ∀ i, y.1.getD i 0 < n) (h : m + n ≤ 1000) : ∀ i, (catL x y).1.1.getD i 0 < m + n := fun i => by
  have hs := small_add hx hy h1 h2 h
  rw [(cat_fst hx hy hs).1, addB_getD hs]
  have := h1 i
  have := h2 i
  omega
theorem cat_law {x y z : Lin} (hx : rightL x = true) (hy : rightL y = true) (hz : rightL z = true) (bx : ∀ i, x.1.getD i 0 < 40) (by_ : ∀ i, y.1.getD i 0 < 40) (bz : ∀ i, z.1.getD i 0 < 40) (lx : x.2.length ≤ 3) (ly : y.2.length ≤ 3) (lz : z.2.length ≤ 3) :
    ∃ p l yz : Lin, catL x y = (p, true) ∧ catL y x = (p, true) ∧ catL p z = (l, true) ∧ catL y z = (yz, true) ∧ catL x yz = (l, true) ∧ addB x.1 y.1 = (p.1, true) ∧ rightL p = true ∧ p.2.length ≤ x.2.length + y.2.length ∧
      p.2.isEmpty = (x.2.isEmpty && y.2.isEmpty) ∧ yz.2.length ≤ 6 := by
  have s1 := small_add hx hy bx by_ (by omega)
  have s3 := small_add hy hz by_ bz (by omega)
  have r1 := catL_right x y
  have r3 := catL_right y z
  have s2 := small_add r1 hz (cat_small hx hy bx by_ (by omega)) bz (by omega)
  have s4 := small_add hx r3 bx (cat_small hy hz by_ bz (by omega)) (by omega)
  rw [(cat_fst hx hy s1).1] at s2
  rw [(cat_fst hy hz s3).1] at s4
  have e1 : catL x y = ((catL x y).1, true) := by rw [← (cat_fst hx hy s1).2]
  have e3 : catL y z = ((catL y z).1, true) := by rw [← (cat_fst hy hz s3).2]
  have e2 : catL (catL x y).1 z = ((catL (catL x y).1 z).1, true) := by
    have := (cat_fst r1 hz (by rw [(cat_fst hx hy s1).1]; exact s2)).2
    rw [← this]
  refine ⟨(catL x y).1, (catL (catL x y).1 z).1, (catL y z).1, e1, by rw [catL_comm y x]; exact e1, e2, e3, ?_, ?_, r1, catL_len x y, catL_point hx hy s1, by have := catL_len y z; omega⟩
  · rw [← catL_assoc hx hy hz s1 s2 s3 s4]; exact e2
  · rw [(cat_fst hx hy s1).1, ← s1]
end Go.Cb
