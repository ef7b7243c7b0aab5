/- What the made table says of distances: there and back alike, no way round is shorter. Plain Lean. -/
import Derived.Test.YtbjdiikjnlgmiaaGreatRouteL
namespace Go.Proofs.YtbjdiikjnlgmiaaGreat
open Go.RowKit Go.Shelf

section
variable {n : Int} {ls : List Lnk} {T : Nat → Int}

theorem Good.row {b : Nat} (h : Good n ls T) (hb : (b : Int) < n) : FarOK n ls b (rowF T b) := (h.1.old b (by omega)).far
theorem rowF_at {b v : Nat} (hv : v < 16) : rowF T b v = T (b * 16 + v) := by unfold rowF; rw [if_pos hv]

theorem Good.tri (h : Good n ls T) {b c : Nat} (hb : (b : Int) < n) (hc : (c : Int) < n) (h0 : 0 < rowF T c b) :
    ∀ (j : Nat) (v : Nat), rowF T b v = j + 1 → 0 < rowF T c v ∧ rowF T c v ≤ rowF T c b + j
  | 0, v, hv => by
    obtain rfl := (h.row hb).one v (by omega)
    omega
  | j + 1, v, hv => by
    obtain ⟨x, hx, hs, hd⟩ := (h.row hb).step v (by omega)
    have ih := h.tri hb hc h0 j x.dst.toNat (by omega)
    have := (h.row hc).all x hx ih.1
    rw [hs] at this
    omega

theorem back_of (he : newErr n ls = 0) {x : Lnk} (hx : x ∈ ls) : ∃ y ∈ ls, y.src = x.dst ∧ y.dst = x.src := by
  have hn := (newErr_zero he).2.2.2.2.2
  unfold noBack at hn
  have h1 := List.any_eq_false.1 hn x hx
  have h2 : (lookupK (x.dst, x.src) (byList ls)).isSome = true := by
    cases hh : lookupK (x.dst, x.src) (byList ls) with
    | none => rw [hh] at h1; simp at h1
    | some v => rfl
  rw [lookupK_isSome, byList_keys] at h2
  obtain ⟨y, hy, hk⟩ := List.mem_map.1 h2
  unfold Lnk.key at hk
  injection hk with k1 k2
  exact ⟨y, hy, k1, k2⟩

theorem Good.sym (h : Good n ls T) (he : newErr n ls = 0) {b : Nat} (hb : (b : Int) < n) :
    ∀ (j : Nat) (v : Nat), (v : Int) < n → rowF T b v = j + 1 → 0 < rowF T v b ∧ rowF T v b ≤ j + 1
  | 0, v, hv, hf => by
    obtain rfl := (h.row hb).one v (by omega)
    have := (h.row hb).at_
    omega
  | j + 1, v, hv, hf => by
    obtain ⟨x, hx, hs, hd⟩ := (h.row hb).step v (by omega)
    obtain ⟨x1, x2, x3, x4, _, _⟩ := link_range he hx
    obtain ⟨y, hy, ys, yd⟩ := back_of he hx
    have ih := h.sym he hb j x.dst.toNat (by omega) (by omega)
    have hvv := (h.row hv).at_
    have hl := (h.row hv).all y hy (by rw [yd, hs]; omega)
    rw [ys, yd, hs, hvv] at hl
    obtain ⟨k, hk⟩ : ∃ k : Nat, rowF T x.dst.toNat b = k + 1 := ⟨(rowF T x.dst.toNat b - 1).toNat, by omega⟩
    have ht := h.tri (b := x.dst.toNat) (c := v) (by omega) hv hl.1 k b hk
    omega

theorem Good.symEq (h : Good n ls T) (he : newErr n ls = 0) {a b : Nat} (ha : (a : Int) < n) (hb : (b : Int) < n) : rowF T a b = rowF T b a := by
  have la := (h.row ha).lo b
  have lb := (h.row hb).lo a
  by_cases h1 : rowF T b a = 0
  · by_cases h2 : rowF T a b = 0
    · omega
    · have := h.sym he ha (rowF T a b - 1).toNat b hb (by omega)
      omega
  · have s1 := h.sym he hb (rowF T b a - 1).toNat a ha (by omega)
    have s2 := h.sym he ha (rowF T a b - 1).toNat b hb (by omega)
    omega
end

theorem askRes_bd {n : Int} {ls : List Lnk} {T : Nat → Int} (h : Good n ls T) (a b : Int) : 0 ≤ (askRes n T a b).1 ∧ (askRes n T a b).1 ≤ 100 := by
  unfold askRes
  have := h.2 (b.toNat * 16 + a.toNat)
  split
  · split
    · exact ⟨Int.le_refl 0, by decide⟩
    · dsimp only; omega
  · exact ⟨Int.le_refl 0, by decide⟩

theorem askRes_sym {n : Int} {ls : List Lnk} {T : Nat → Int} (h : Good n ls T) (he : newErr n ls = 0) (a b : Int) : askRes n T a b = askRes n T b a := by
  have hn := (newErr_zero he).2.1
  unfold askRes
  by_cases ho : okp n a b
  · have ho' : okp n b a := ⟨ho.2, ho.1⟩
    rw [if_pos ho, if_pos ho']
    obtain ⟨⟨a0, a1⟩, b0, b1⟩ := ho
    have := h.symEq he (a := a.toNat) (b := b.toNat) (by omega) (by omega)
    rw [rowF_at (by omega), rowF_at (by omega)] at this
    rw [this]
  · have ho' : ¬ okp n b a := fun hh => ho ⟨hh.2, hh.1⟩
    rw [if_neg ho, if_neg ho']

theorem askRes_tri {n : Int} {ls : List Lnk} {T : Nat → Int} (h : Good n ls T) (he : newErr n ls = 0) (a b c : Int) (h1 : (askRes n T a b).2 = 0) (h2 : (askRes n T b c).2 = 0) :
    (askRes n T a c).2 = 0 ∧ (askRes n T a c).1 ≤ (askRes n T a b).1 + (askRes n T b c).1 := by
  have hn := (newErr_zero he).2.1
  obtain ⟨t1, d1⟩ := askRes_zero h1
  obtain ⟨t2, d2⟩ := askRes_zero h2
  obtain ⟨⟨a0, a1⟩, b0, b1⟩ := askRes_ok h1
  obtain ⟨_, c0, c1⟩ := askRes_ok h2
  have p1 := (h.2 (b.toNat * 16 + a.toNat)).1
  have p2 := (h.2 (c.toNat * 16 + b.toNat)).1
  have e1 : rowF T b.toNat a.toNat = T (b.toNat * 16 + a.toNat) := rowF_at (by omega)
  have e2 : rowF T c.toNat b.toNat = T (c.toNat * 16 + b.toNat) := rowF_at (by omega)
  have e3 : rowF T c.toNat a.toNat = T (c.toNat * 16 + a.toNat) := rowF_at (by omega)
  have ht := h.tri (b := b.toNat) (c := c.toNat) (by omega) (by omega) (by omega) (T (b.toNat * 16 + a.toNat) - 1).toNat a.toNat (by omega)
  rw [d1, d2]
  unfold askRes
  rw [if_pos ⟨⟨a0, a1⟩, c0, c1⟩, if_neg (by omega)]
  dsimp only
  omega

theorem askRes_id {n : Int} {ls : List Lnk} {T : Nat → Int} (h : Good n ls T) (he : newErr n ls = 0) (a b : Int) (h1 : (askRes n T a b).2 = 0) : (askRes n T a b).1 = 0 ↔ a = b := by
  have hn := (newErr_zero he).2.1
  obtain ⟨t1, d1⟩ := askRes_zero h1
  obtain ⟨⟨a0, a1⟩, b0, b1⟩ := askRes_ok h1
  have hr := h.row (b := b.toNat) (by omega)
  have e1 : rowF T b.toNat a.toNat = T (b.toNat * 16 + a.toNat) := rowF_at (by omega)
  rw [d1]
  constructor
  · intro hz
    have := hr.one a.toNat (by omega)
    omega
  · rintro rfl
    have := hr.at_
    omega

theorem res_final {n : Int} {o' o4 : Option (Nat → Int)} {a b : Int} (hm : okp n a b → ∃ T, o' = some T) (hx : ∀ T, o' = some T → o4 = some T) : askRes n (tabO o') a b = askRes n (tabO o4) a b := by
  by_cases ho : okp n a b
  · obtain ⟨T, rfl⟩ := hm ho
    rw [hx T rfl]
  · unfold askRes
    rw [if_neg ho, if_neg ho]
end Go.Proofs.YtbjdiikjnlgmiaaGreat
