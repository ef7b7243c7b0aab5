/- The terms of a link: the program's and the document's. -/
import Derived.Test.YtbjdiikjnlgmiaaGreatRouteL
import Derived.Deep.RegionHeld3
import Derived.IntWalk
namespace Go.Proofs.YtbjdiikjnlgmiaaGreat
open Go.RowKit Go.Shelf

theorem bwithin_c (n a b : Int) (w : World) :
    Calls Tryz.prog 62 #[.int .i64 n, .int .i64 a, .int .i64 b] w fun e w' => e = .returned (.bool (wi n a b)) ∧ w = w' := by
  unfold wi
  by_cases h1 : a ≤ n
  · by_cases h2 : n ≤ b
    · go_enter Tryz.func62, Tryz.ntmps62
      go_wp2
      go_ret
      simp [h1, h2]
    · go_enter Tryz.func62, Tryz.ntmps62
      go_wp2
      go_ret
      simp; omega
  · go_enter Tryz.func62, Tryz.ntmps62
    go_wp2
    go_ret
    simp; omega

/-- A number by another one, rounded up. -/
def upI (n d : Int) : Int := (n + d - 1) / d
theorem upI_split {n d : Int} (hd : 0 < d) : upI n d = if 0 < n % d then n / d + 1 else n / d := by
  unfold upI
  have h1 := Int.emod_nonneg n (by omega : d ≠ 0)
  have h2 := Int.emod_lt_of_pos n hd
  have h3 := Int.mul_ediv_add_emod n d
  split
  · have e : n + d - 1 = (n % d - 1) + d * (n / d + 1) := by rw [Int.mul_add]; omega
    rw [e, Int.add_mul_ediv_left _ _ (by omega), Int.ediv_eq_zero_of_lt (by omega) (by omega)]
    omega
  · have e : n + d - 1 = (d - 1) + d * (n / d) := by omega
    rw [e, Int.add_mul_ediv_left _ _ (by omega), Int.ediv_eq_zero_of_lt (by omega) (by omega)]
    omega
theorem upI_bd {n d : Int} (hn : 1 ≤ n) (hn2 : n ≤ 2000) (hd : 1 ≤ d) : 0 ≤ upI n d ∧ upI n d ≤ 2000 := by
  unfold upI
  constructor
  · exact Int.ediv_nonneg (by omega) (by omega)
  · have : (n + d - 1) / d < 2001 := by
      rw [Int.ediv_lt_iff_lt_mul (by omega)]
      omega
    omega

theorem up_c (n d : Int) (w : World) (h1 : 1 ≤ n) (h2 : n ≤ 2000) (h3 : 1 ≤ d) (h4 : d ≤ 1000000) :
    Calls Tryz.prog 63 #[.int .i64 n, .int .i64 d] w fun e w' => e = .returned (.int .i64 (upI n d)) ∧ w = w' := by
  unfold upI
  go_enter Tryz.func63, Tryz.ntmps63
  go_wp2
  go_ret
  exact ⟨rfl, rfl⟩

theorem refUp_c (n d : Int) (w : World) (h1 : 1 ≤ n) (h2 : n ≤ 2000) (h3 : 1 ≤ d) (h4 : d ≤ 1000000) :
    Calls Tryz.prog 48 #[.int .i64 n, .int .i64 d] w fun e w' => e = .returned (.int .i64 (upI n d)) ∧ w = w' := by
  have hq : 0 ≤ n / d := Int.ediv_nonneg (by omega) (by omega)
  have hq2 : n / d ≤ n := Int.ediv_le_self _ (by omega)
  have hs := upI_split (n := n) (d := d) (by omega)
  have hm := Int.emod_nonneg n (by omega : d ≠ 0)
  have HS := Lib.hid hs
  clear hs
  by_cases hr : 0 < n % d
  · have HR := Lib.hid hr
    go_enter Tryz.func48, Tryz.ntmps48
    go_wp2
    go_ret
    exact ⟨by rw [HS.out, if_pos HR.out]; rfl, rfl⟩
  · have HR := Lib.hid hr
    have hz : n % d ≤ 0 := by omega
    clear hr
    go_enter Tryz.func48, Tryz.ntmps48
    go_wp2
    go_ret
    exact ⟨by rw [HS.out, if_neg (by have := HR.out; omega)]; rfl, rfl⟩

/-- A link's terms. -/
structure Trm where
  c : Int
  d : Int
def Trm.cells (t : Trm) : List Value := [.int .i64 t.c, .int .i64 t.d]
def Trm.ok (t : Trm) : Prop := (0 ≤ t.c ∧ t.c ≤ 2000) ∧ (0 ≤ t.d ∧ t.d ≤ 4000)
def Lnk.trm (x : Lnk) : Trm := ⟨x.most, upI x.most x.rate + 1 + x.far⟩
structure TrmIn (x : Lnk) : Prop where
  r1 : 1 ≤ x.rate
  r2 : x.rate ≤ 1000000
  m1 : 1 ≤ x.most
  m2 : x.most ≤ 2000
  f1 : 0 ≤ x.far
  f2 : x.far ≤ 1000
theorem trm_in {n : Int} {ls : List Lnk} (he : newErr n ls = 0) {x : Lnk} (hx : x ∈ ls) : TrmIn x := by
  have hb := (newErr_zero he).2.2.2.1 x hx
  unfold linkBad flaw1 flaw2 flaw3 flaw4 wi at hb
  simp only [Bool.or_eq_false_iff, Bool.not_eq_false', Bool.and_eq_true, decide_eq_true_eq, beq_eq_false_iff_ne] at hb
  constructor <;> omega
theorem TrmIn.ok {x : Lnk} (h : TrmIn x) : x.trm.ok := by
  have := upI_bd h.m1 h.m2 h.r1
  have := h.m1
  have := h.m2
  have := h.f1
  have := h.f2
  unfold Lnk.trm Trm.ok
  dsimp only
  omega

theorem blink_c (x : Lnk) (w : World) (h : TrmIn x) :
    Calls Tryz.prog 46 #[.int .i64 x.rate, .int .i64 x.most, .int .i64 x.far] w fun e w' => e = .returned (.tuple #[.agg #[.int .i64 x.trm.c, .int .i64 x.trm.d], .int .i64 0]) ∧ Below w.heap.size w w' := by
  obtain ⟨r1, r2, m1, m2, f1, f2⟩ := h
  have hw1 : wi x.rate 1 1000000 = true := by unfold wi; simp [r1, r2]
  have hw2 : wi x.most 1 2000 = true := by unfold wi; simp [m1, m2]
  have hw3 : wi x.far 0 100000 = true := by unfold wi; simp; omega
  obtain ⟨u1, u2⟩ := upI_bd m1 m2 r1
  have ku := fun w => up_c x.most x.rate w m1 m2 r1 r2
  unfold Lnk.trm
  dsimp only
  generalize upI x.most x.rate = u at *
  generalize x.rate = xr at *
  generalize x.most = xm at *
  generalize x.far = xf at *
  go_enter Tryz.func46, Tryz.ntmps46
  go_upto_region 1 with fail
  refine wp_scope_jumps 0 (fun _ _ => False) (fun _ _ => 0) rfl ?first ?pass
  case pass => rintro a wx h; exact h.elim
  case first =>
  go_wp2_with (first | (go_at_call 62; refine (bwithin_c _ _ _ _).mono ?_; rintro e w1 ⟨rfl, rfl⟩) | (go_at_call 63; refine (ku _).mono ?_; rintro e w1 ⟨rfl, rfl⟩))
  simp only [Exit.then, Exit.jump]
  refine bodyPost_ret (v := .tuple #[.agg #[.int .i64 xm, .int .i64 (u + 1 + xf)], .int .i64 0]) (by simp [results, Tryz.results46, go_sem]) rfl ⟨rfl, ?_⟩
  (repeat (first | exact Below.refl _ _ | refine bl_drew ?_ | refine bl_alloc ?_ _ | refine bl_drewN ?_ _))

theorem rlink_c (x : Lnk) (w : World) (h : TrmIn x) :
    Calls Tryz.prog 34 #[.int .i64 x.rate, .int .i64 x.most, .int .i64 x.far] w fun e w' => e = .returned (.tuple #[.agg #[.int .i64 x.trm.c, .int .i64 x.trm.d], .bool true]) ∧ Below w.heap.size w w' := by
  obtain ⟨r1, r2, m1, m2, f1, f2⟩ := h
  have f3 : x.far ≤ 100000 := by omega
  obtain ⟨u1, u2⟩ := upI_bd m1 m2 r1
  have ku := fun w => refUp_c x.most x.rate w m1 m2 r1 r2
  unfold Lnk.trm
  dsimp only
  generalize upI x.most x.rate = u at *
  generalize x.rate = xr at *
  generalize x.most = xm at *
  generalize x.far = xf at *
  go_enter Tryz.func34, Tryz.ntmps34
  go_wp2_with (go_at_call 48; refine (ku _).mono ?_; rintro e w1 ⟨rfl, rfl⟩)
  refine bodyPost_ret (v := .tuple #[.agg #[.int .i64 xm, .int .i64 (u + 1 + xf)], .bool true]) (by simp [results, Tryz.results34, go_sem]) rfl ⟨rfl, ?_⟩
  (repeat (first | exact Below.refl _ _ | refine bl_drew ?_ | refine bl_alloc ?_ _ | refine bl_drewN ?_ _))

theorem bcheck_c (c d : Int) (w : World) (h1 : 0 ≤ c) (h2 : c ≤ 10000000) (h3 : 0 ≤ d) (h4 : d ≤ 1000000) :
    Calls Tryz.prog 47 #[.agg #[.int .i64 c, .int .i64 d]] w fun e w' => e = .returned (.int .i64 0) ∧ Below w.heap.size w w' := by
  have hw1 : wi c 0 10000000 = true := by unfold wi; simp [h1, h2]
  have hw2 : wi d 0 1000000 = true := by unfold wi; simp [h3, h4]
  go_enter Tryz.func47, Tryz.ntmps47
  go_wp2_with (go_at_call 62; refine (bwithin_c _ _ _ _).mono ?_; rintro e w1 ⟨rfl, rfl⟩)
  go_ret
  exact ⟨rfl, (Below.refl _ _).alloc (Nat.le_refl _) _⟩
theorem tright_c (c d : Int) (w : World) (h1 : 0 ≤ c) (h2 : c ≤ 10000000) (h3 : 0 ≤ d) (h4 : d ≤ 1000000) :
    Calls Tryz.prog 49 #[.agg #[.int .i64 c, .int .i64 d]] w fun e w' => e = .returned (.bool true) ∧ Below w.heap.size w w' := by
  go_enter Tryz.func49, Tryz.ntmps49
  go_wp2
  go_ret
  exact ⟨rfl, (Below.refl _ _).alloc (Nat.le_refl _) _⟩

theorem elemT : ElemAt Tryz.prog 91 42 Trm.cells 2 16 where
  slice := Tryz.underlying91
  info := by
    have h : (Tryz.prog.info? 42).map (fun i => (i.zero, i.size, i.bytes)) = some (some (.agg #[.int .i64 0, .int .i64 0]), 2, 16) := by kernel_rfl
    obtain ⟨i, hi, hz0, hz1, hz2⟩ := info_parts h
    exact ⟨i, _, hi, hz0, hz1, hz2, rfl⟩
  pos := by decide
  bpos := by decide
  len := fun _ => rfl
  one := fun x u hu => by
    simp only [Trm.cells, List.mem_cons, List.not_mem_nil, or_false] at hu
    rcases hu with rfl | rfl <;> rfl
theorem sl_trm {w : World} {b : Nat} {t : TypeId} {x : Trm} (h : Blk w b t #[.int .i64 x.c, .int .i64 x.d]) : SlAt w Trm.cells 2 (some ⟨b, 0, none⟩) [x] := by
  refine .inr ⟨b, 0, rfl, h.lt, fun k y hy j v hv => ?_⟩
  have hk : k = 0 := by have := (List.getElem?_eq_some_iff.1 hy).1; simpa using this
  subst hk
  simp only [List.getElem?_cons_zero, Option.some.injEq] at hy
  subst hy
  have hj : j = 0 ∨ j = 1 := by have := (List.getElem?_eq_some_iff.1 hv).1; simp only [Trm.cells, List.length_cons, List.length_nil] at this; omega
  rw [h.cell]
  rcases hj with rfl | rfl <;> exact hv

/-- The sums of the first k. -/
def sumC (l : List Trm) (k : Nat) : Int := ((l.take k).map Trm.c).sum
def sumD (l : List Trm) (k : Nat) : Int := ((l.take k).map Trm.d).sum
theorem sum_succ {l : List Trm} {k : Nat} {x : Trm} (hx : l[k]? = some x) : sumC l (k + 1) = sumC l k + x.c ∧ sumD l (k + 1) = sumD l k + x.d := by
  unfold sumC sumD
  rw [List.take_add_one, hx]
  simp
theorem sum_bd {l : List Trm} (hok : ∀ t ∈ l, t.ok) : ∀ k : Nat, (0 ≤ sumC l k ∧ sumC l k ≤ 2000 * k) ∧ 0 ≤ sumD l k ∧ sumD l k ≤ 4000 * k
  | 0 => by simp [sumC, sumD]
  | k + 1 => by
    have ih := sum_bd hok k
    by_cases hk : k < l.length
    · obtain ⟨e1, e2⟩ := sum_succ (l := l) (k := k) (List.getElem?_eq_getElem hk)
      obtain ⟨⟨c1, c2⟩, d1, d2⟩ := hok l[k] (List.getElem_mem hk)
      rw [e1, e2]
      omega
    · have e : l.take (k + 1) = l.take k := by rw [List.take_of_length_le (by omega), List.take_of_length_le (by omega)]
      have e1 : sumC l (k + 1) = sumC l k := by unfold sumC; rw [e]
      have e2 : sumD l (k + 1) = sumD l k := by unfold sumD; rw [e]
      rw [e1, e2]
      omega
end Go.Proofs.YtbjdiikjnlgmiaaGreat
