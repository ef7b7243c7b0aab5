/- The document's far: all ways are tried, link by link: it tells what the table tells. -/
import Derived.Test.YtbjdiikjnlgmiaaGreatWaysB
import Derived.Test.YtbjdiikjnlgmiaaGreatDist
namespace Go.Proofs.YtbjdiikjnlgmiaaGreat
open Go.RowKit Go.Shelf

/-- Is node v reached from a in so many links? -/
def hB (T : Nat → Int) (a m v : Nat) : Bool := decide (0 < T (v * 16 + a)) && decide (T (v * 16 + a) ≤ m + 1)

section
variable {n : Int} {ls : List Lnk} {T : Nat → Int}
theorem hB_start (h : Good n ls T) (he : newErr n ls = 0) {a v : Nat} (ha : (a : Int) < n) (hv : (v : Int) < n) : hB T a 0 v = decide (v = a) := by
  have hn := (newErr_zero he).2.1
  have hr := h.row hv
  have e : rowF T v a = T (v * 16 + a) := rowF_at (by omega)
  unfold hB
  rw [← e, Bool.eq_iff_iff]
  simp only [Bool.and_eq_true, decide_eq_true_eq]
  constructor
  · rintro ⟨h1, h2⟩
    exact (hr.one a (by omega)).symm
  · rintro rfl
    rw [hr.at_]
    exact ⟨by decide, by omega⟩

theorem hB_step (h : Good n ls T) (he : newErr n ls = 0) {a v : Nat} (m : Nat) (ha : (a : Int) < n) (hv : (v : Int) < n) :
    hB T a (m + 1) v = (hB T a m v || ls.any fun x => hB T a m x.src.toNat && x.dst.toNat == v) := by
  have hn := (newErr_zero he).2.1
  have hr := h.row hv
  have e : rowF T v a = T (v * 16 + a) := rowF_at (by omega)
  rw [Bool.eq_iff_iff]
  simp only [Bool.or_eq_true, List.any_eq_true, Bool.and_eq_true, beq_iff_eq]
  unfold hB
  simp only [Bool.and_eq_true, decide_eq_true_eq]
  rw [← e]
  constructor
  · rintro ⟨h1, h2⟩
    by_cases hm : rowF T v a ≤ m + 1
    · exact .inl ⟨h1, hm⟩
    · right
      have hs := h.symEq he ha hv
      obtain ⟨x, hx, xs, xd⟩ := (h.row ha).step v (by omega)
      obtain ⟨x1, x2, x3, x4, _, _⟩ := link_range he hx
      obtain ⟨y, hy, ys, yd⟩ := back_of he hx
      refine ⟨y, hy, ?_, by rw [yd]; exact xs⟩
      have hs2 := h.symEq he (a := x.dst.toNat) (b := a) (by omega) ha
      have e2 : rowF T x.dst.toNat a = T (x.dst.toNat * 16 + a) := rowF_at (by omega)
      rw [ys, ← e2]
      omega
  · rintro (⟨h1, h2⟩ | ⟨x, hx, ⟨h1, h2⟩, h3⟩)
    · exact ⟨h1, by omega⟩
    · obtain ⟨x1, x2, x3, x4, _, _⟩ := link_range he hx
      have e2 : rowF T x.src.toNat a = T (x.src.toNat * 16 + a) := rowF_at (by omega)
      rw [← e2] at h1 h2
      have hvv := hr.at_
      have hl := hr.all x hx (by rw [h3, hvv]; decide)
      rw [h3, hvv] at hl
      have ht := h.tri (b := x.src.toNat) (c := v) (by omega) hv hl.1 (rowF T x.src.toNat a - 1).toNat a (by omega)
      omega
end

def boolCells (b : Bool) : List Value := [.bool b]
theorem elemB : ElemAt Tryz.prog 110 4 boolCells 1 1 where
  slice := Tryz.underlying110
  info := by
    have h : (Tryz.prog.info? 4).map (fun i => (i.zero, i.size, i.bytes)) = some (some (.bool false), 1, 1) := by kernel_rfl
    obtain ⟨i, hi, hz0, hz1, hz2⟩ := info_parts h
    exact ⟨i, _, hi, hz0, hz1, hz2, rfl⟩
  pos := by decide
  bpos := by decide
  len := fun _ => rfl
  one := fun x u hu => by
    simp only [boolCells, List.mem_cons, List.not_mem_nil, or_false] at hu
    rcases hu with rfl; rfl

theorem flatB (l : List Bool) : l.flatMap boolCells = l.map Value.bool := by
  induction l with
  | nil => rfl
  | cons b l ih => rw [List.flatMap_cons, ih]; rfl

/-- A row of bools. -/
def BRow (w : World) (base g c n : Nat) (f : Nat → Bool) : Prop := OwnsL w base 4 boolCells 1 (.slice (some ⟨g, 0, none⟩) n c) ((List.range n).map f)
def updB (f : Nat → Bool) (u : Nat) : Nat → Bool := fun v => if v = u then true else f v

theorem BRow.own {w : World} {base g c n : Nat} {f : Nat → Bool} (h : BRow w base g c n f) : w.ownsRow base 4 1 (.slice (some ⟨g, 0, none⟩) n c) n (((List.range n).map f).map Value.bool) := by
  unfold BRow OwnsL at h
  rw [flatB, List.length_map, List.length_range] at h
  exact h
theorem BRow.of {w : World} {base g c n : Nat} {f : Nat → Bool} (h : w.ownsRow base 4 1 (.slice (some ⟨g, 0, none⟩) n c) n (((List.range n).map f).map Value.bool)) : BRow w base g c n f := by
  unfold BRow OwnsL
  rw [flatB, List.length_map, List.length_range]
  exact h
theorem BRow.cell {w : World} {base g c n : Nat} {f : Nat → Bool} (h : BRow w base g c n f) {v : Nat} (hv : v < n) : w.cell? ⟨g, v, none⟩ = some (.bool (f v)) := by
  rw [h.own.cellAt v (by omega), List.getElem?_map, List.getElem?_map, List.getElem?_range hv]
  rfl
theorem BRow.frozen {w : World} {base g c n : Nat} {f : Nat → Bool} (h : BRow w base g c n f) (v : Nat) : w.frozen? ⟨g, v, none⟩ = false := h.own.frozenAt v
theorem BRow.set {w : World} {base g c n : Nat} {f : Nat → Bool} (h : BRow w base g c n f) (u : Nat) : BRow (w.setCell ⟨g, u, none⟩ (.bool true)) base g c n (updB f u) := by
  refine BRow.of ?_
  have := (h.own.stored u (.bool true)).1
  have e : ((List.range n).map (updB f u)).map Value.bool = (((List.range n).map f).map Value.bool).set u (.bool true) := by
    apply List.ext_getElem?
    intro i
    rw [List.getElem?_set]
    simp only [List.getElem?_map, List.length_map, List.length_range]
    by_cases hi : i < n
    · rw [List.getElem?_range hi]
      simp only [Option.map_some]
      unfold updB
      by_cases hu : u = i
      · subst hu; rw [if_pos rfl, if_pos rfl, if_pos hi]
      · rw [if_neg hu, if_neg (fun e => hu e.symm)]
    · rw [List.getElem?_eq_none (by simp; omega)]
      simp only [Option.map_none]
      split
      · rw [if_neg (by omega)]
      · rfl
  rw [e]
  exact this
theorem BRow.lt {w : World} {base g c n : Nat} {f : Nat → Bool} (h : BRow w base g c n f) : base ≤ g ∧ g < w.heap.size := World.ownsRow.lt h.own g rfl
theorem BRow.congr {w : World} {base g c n : Nat} {f f' : Nat → Bool} (h : BRow w base g c n f) (e : ∀ v, v < n → f v = f' v) : BRow w base g c n f' := by
  have : (List.range n).map f = (List.range n).map f' := List.map_congr_left fun v hv => e v (List.mem_range.1 hv)
  unfold BRow at h ⊢
  rw [← this]
  exact h

/-- What the inner loop has made behind so many links. -/
def nxB (ls : List Lnk) (f : Nat → Bool) (i v : Nat) : Bool := f v || (ls.take i).any fun x => f x.src.toNat && x.dst.toNat == v
theorem nxB_zero (ls : List Lnk) (f : Nat → Bool) (v : Nat) : nxB ls f 0 v = f v := by simp [nxB]
theorem nxB_skip {ls : List Lnk} {f : Nat → Bool} {i : Nat} {x : Lnk} (hx : ls[i]? = some x) (hf : f x.src.toNat = false) (v : Nat) : nxB ls f (i + 1) v = nxB ls f i v := by
  unfold nxB
  rw [List.take_add_one, hx]
  simp [hf]
theorem nxB_put {ls : List Lnk} {f : Nat → Bool} {i : Nat} {x : Lnk} (hx : ls[i]? = some x) (hf : f x.src.toNat = true) (v : Nat) : nxB ls f (i + 1) v = updB (nxB ls f i) x.dst.toNat v := by
  unfold nxB updB
  rw [List.take_add_one, hx]
  simp only [Option.toList_some, List.any_append, List.any_cons, List.any_nil, Bool.or_false, hf, Bool.true_and]
  by_cases hv : v = x.dst.toNat
  · subst hv; simp
  · rw [if_neg hv, beq_eq_false_iff_ne.2 (fun e => hv e.symm), Bool.or_false]
end Go.Proofs.YtbjdiikjnlgmiaaGreat
