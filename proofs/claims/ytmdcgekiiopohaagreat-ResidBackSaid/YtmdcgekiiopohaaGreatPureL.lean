/- Plain laws: sets together, in whatever order. -/
import Derived.Test.YtmdcgekiiopohaaGreatMK
set_option linter.unusedVariables false
set_option linter.unusedSimpArgs false
set_option linter.all false
namespace Go.Cb
theorem semi_ext {s t : SemS} (hs : rightS s = true) (ht : rightS t = true) (h : ∀ u, u ∈ s ↔ u ∈ t) : s = t := ext_riseO linO (rightS_iff.1 hs).up (rightS_iff.1 ht).up h
theorem ofS_mem_iff {l : SemS} (h : ∀ x ∈ l, rightL x = true) {u : Lin} : u ∈ (ofS l).1 ↔ u ∈ l := by
  rw [ofS_yes h, (foldl_putO linO GoodO.nil h).2 u]; simp
theorem union_mem {a b : SemS} (ha : rightS a = true) (hb : rightS b = true) {u : Lin} : u ∈ unionS a b ↔ u ∈ a ∨ u ∈ b := by
  rw [unionS_yes ha hb, ofS_mem_iff (fun x hx => by
    rcases List.mem_append.1 hx with h | h
    · exact rightS_each ha h
    · exact rightS_each hb h), List.mem_append]
theorem union_comm {a b : SemS} (ha : rightS a = true) (hb : rightS b = true) : unionS a b = unionS b a :=
  semi_ext (unionS_right _ _) (unionS_right _ _) (fun u => by rw [union_mem ha hb, union_mem hb ha, or_comm])
theorem union_self {a : SemS} (ha : rightS a = true) : unionS a a = a :=
  semi_ext (unionS_right _ _) ha (fun u => by rw [union_mem ha ha, or_self])
/-- The product of two small ones: done, and its linear sets. -/
theorem cat_none {tags Ea Eb : Int} {Na Nb Ma Mb : Nat} {sa sb : Bool} {a b : SemS} (ha : SetOk tags Ea Na Ma sa a) (hb : SetOk tags Eb Nb Mb sb b) (h1 : 1 ≤ Na) (h2 : 1 ≤ Nb) (e0 : 0 ≤ Ea) (e1 : 0 ≤ Eb) (hf : Ea + Eb ≤ far) :
    ∃ p, catS none a b = (none, p, 0) ∧ SetOk tags (Ea + Eb) (Na + Nb + 1) (Ma + Mb) (sa || sb) p ∧ ∀ u, u ∈ p ↔ ∃ x ∈ a, ∃ y ∈ b, u = (catL x y).1 := by
  obtain ⟨q1, q2, q3⟩ := SetOk.cat ha hb h1 h2 e0 e1 hf none
  have hz : (catS none a b).2.2 = 0 := by
    rcases q1 with q | q
    · exact q.1
    · exact absurd q.2 (by simp [spendM])
  obtain ⟨q4, q5⟩ := q3 hz
  refine ⟨(catS none a b).2.1, Prod.ext q2 (Prod.ext rfl hz), q5, fun u => ?_⟩
  rw [q4, ofS_mem_iff (fun x hx => by
    obtain ⟨p, hp, rfl⟩ := List.mem_map.1 hx
    obtain ⟨y, _, z, _, rfl⟩ := prodL_mem hp
    exact catL_right y z)]
  constructor
  · intro hu
    obtain ⟨p, hp, rfl⟩ := List.mem_map.1 hu
    obtain ⟨y, hy, z, hz, rfl⟩ := prodL_mem hp
    exact ⟨y, hy, z, hz, rfl⟩
  · rintro ⟨x, hx, y, hy, rfl⟩
    exact List.mem_map.2 ⟨catL x y, List.mem_flatMap.2 ⟨x, hx, List.mem_map.2 ⟨y, hy, rfl⟩⟩, rfl⟩
theorem addB_nil {b : List Int} (h : rightB b = true) : addB [] b = (b, true) := by
  have := addB_all (a := []) (b := b) rfl h (fun i _ => by have := (right_getD h i).2; simp; exact this)
  rw [this]
  cases b <;> rfl
theorem Good.foldl {q : List (List Int)} (h : Good q) : q.foldl putB [] = q := by
  obtain ⟨g, m⟩ := foldl_put (ps := q) (fun p hp => h.each p hp)
  exact ext_rise g.up h.up m
/-- With the empty word: itself. -/
theorem catL_one {x : Lin} (h : rightL x = true) : catL ([], []) x = (x, true) := by
  obtain ⟨b, ps⟩ := x
  obtain ⟨rb, g⟩ := rightL_iff.1 h
  have ha := addB_nil rb
  rw [catL_put rfl h (by rw [ha]), ha]
  simp only [List.nil_append]
  rw [g.foldl]
theorem oneS_ok (tags E : Int) (h : 0 ≤ tags) (hE : 0 ≤ E) : SetOk tags E 1 0 false oneS := SetOk.point _ _ _ rfl (fun j => by simpa using hE) (by simpa using h)
theorem pow_one {tags E : Int} {N M : Nat} {b : Bool} {x : SemS} (hx : SetOk tags E N M b x) (h1 : 1 ≤ N) (t0 : 0 ≤ tags) (e0 : 0 ≤ E) (hf : E ≤ far) : powS none x 1 = (none, x, 0) ∧ powS none x 0 = (none, oneS, 0) := by
  obtain ⟨p, hp, ok, hm⟩ := cat_none (oneS_ok tags 0 t0 (Int.le_refl _)) hx (Nat.le_refl _) h1 (Int.le_refl _) e0 (by omega)
  have he : p = x := semi_ext ok.right hx.right (fun u => by
    rw [hm u]
    constructor
    · rintro ⟨v, hv, y, hy, rfl⟩
      obtain rfl : v = ([], []) := by simpa [oneS] using hv
      rw [catL_one (rightS_each hx.right hy)]
      exact hy
    · intro hu
      exact ⟨([], []), by simp [oneS], u, hu, by rw [catL_one (rightS_each hx.right hu)]⟩)
  subst he
  refine ⟨powS_end (n := 1) hx.right (by decide) ?_, powS_end (n := 0) hx.right (by decide) rfl⟩
  simp only [powF, hp]
  rfl
/-- The laws of three small ones. -/
theorem semi_laws {x y z : SemS} (hx : SetOk 4 120 24 8 true x) (hy : SetOk 4 120 24 8 true y) (hz : SetOk 4 120 24 8 true z) :
    ∃ p l xz yz u, catS none x y = (none, p, 0) ∧ catS none y x = (none, p, 0) ∧ powS none x 1 = (none, x, 0) ∧ powS none x 0 = (none, oneS, 0) ∧ unionS x y = u ∧ unionS y x = u ∧ catS none u z = (none, l, 0) ∧
      catS none x z = (none, xz, 0) ∧ catS none y z = (none, yz, 0) ∧ unionS xz yz = l ∧ unionS x x = x ∧ rightS p = true ∧ rightS l = true ∧ (∀ v ∈ u, v.2.length ≤ 16) ∧ (∀ v ∈ xz, v.2.length ≤ 16) ∧ (∀ v ∈ yz, v.2.length ≤ 16) ∧ u.length ≤ x.length + y.length ∧ xz.length ≤ x.length * z.length ∧ yz.length ≤ y.length * z.length := by
  have rx := hx.right
  have ry := hy.right
  have rz := hz.right
  obtain ⟨p, p1, p2, p3⟩ := cat_none hx hy (by decide) (by decide) (by decide) (by decide) (by decide)
  obtain ⟨q, q1, q2, q3⟩ := cat_none hy hx (by decide) (by decide) (by decide) (by decide) (by decide)
  have hu := SetOk.union hx hy (by decide) (by decide) (by decide) (by decide)
  obtain ⟨l, l1, l2, l3⟩ := cat_none hu hz (by decide) (by decide) (by decide) (by decide) (by decide)
  obtain ⟨xz, x1, x2, x3⟩ := cat_none hx hz (by decide) (by decide) (by decide) (by decide) (by decide)
  obtain ⟨yz, y1, y2, y3⟩ := cat_none hy hz (by decide) (by decide) (by decide) (by decide) (by decide)
  have hpq : q = p := semi_ext q2.right p2.right (fun u => by
    rw [p3 u, q3 u]
    constructor
    · rintro ⟨a, ha, b, hb, rfl⟩; exact ⟨b, hb, a, ha, by rw [catL_comm]⟩
    · rintro ⟨a, ha, b, hb, rfl⟩; exact ⟨b, hb, a, ha, by rw [catL_comm]⟩)
  have hl : unionS xz yz = l := semi_ext (unionS_right _ _) l2.right (fun u => by
    rw [union_mem x2.right y2.right, l3 u, x3 u, y3 u]
    constructor
    · rintro (⟨a, ha, b, hb, rfl⟩ | ⟨a, ha, b, hb, rfl⟩)
      · exact ⟨a, (union_mem rx ry).2 (.inl ha), b, hb, rfl⟩
      · exact ⟨a, (union_mem rx ry).2 (.inr ha), b, hb, rfl⟩
    · rintro ⟨a, ha, b, hb, rfl⟩
      rcases (union_mem rx ry).1 ha with h | h
      · exact .inl ⟨a, h, b, hb, rfl⟩
      · exact .inr ⟨a, h, b, hb, rfl⟩)
  obtain ⟨w1, w0⟩ := pow_one hx (by decide) (by decide) (by decide) (by decide)
  have hlen : ∀ {a b p : SemS}, catS none a b = (none, p, 0) → p.length ≤ a.length * b.length := fun {a b p} h => by
    have h1 : (catS none a b).2.1 = p := by rw [h]
    unfold catS at h1
    split at h1
    · split at h1
      · split at h1
        · rw [← h1]
          have := ofS_length ((prodL a b).map (fun p => p.1))
          rwa [List.length_map, prodL_length] at this
        · rw [← h1]; exact Nat.zero_le _
      · rw [← h1]; exact Nat.zero_le _
    · rw [← h1]; exact Nat.zero_le _
  refine ⟨p, l, xz, yz, unionS x y, p1, by rw [q1, hpq], w1, w0, rfl, union_comm ry rx, l1, x1, y1, hl, union_self rx, p2.right, l2.right, fun v hv => hu.per v hv, fun v hv => x2.per v hv, fun v hv => y2.per v hv, ?_, hlen x1, hlen y1⟩
  rw [unionS_yes rx ry]
  have := ofS_length (x ++ y)
  rwa [List.length_append] at this
/-- What the powers of a small one ask for. -/
theorem pow_fit {x : SemS} (hx : SetOk 4 120 24 8 true x) (h6 : x.length ≤ 6) : ∀ k : Nat, k < 1 → CatFit (powF x k none).1 (powF x k none).2.1 x := fun k hk => by
  obtain rfl : k = 0 := by omega
  refine ⟨show 1 ≤ 2147483648 by decide, by omega, fun _ => ?_, fun u hu v hv => ?_⟩
  · show 1 * x.length ≤ _
    omega
  · obtain rfl : u = ([], []) := by simpa [powF, oneS] using hu
    have := hx.per v hv
    show 0 + v.2.length ≤ _
    omega
end Go.Cb
