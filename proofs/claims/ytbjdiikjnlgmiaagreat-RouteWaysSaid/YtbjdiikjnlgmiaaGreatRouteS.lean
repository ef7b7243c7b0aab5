/- The sort of a node's links does what the route's table wants. -/
import Derived.Test.YtbjdiikjnlgmiaaGreatRouteC
import Derived.Test.YtbjdiikjnlgmiaaGreatSortLay
namespace Go.Proofs.YtbjdiikjnlgmiaaGreat
open Go.RowKit Go.Shelf Go.Sort

theorem below_sort {α : Type} [Inhabited α] (enc : α → Value) (w : World) (B blk off m : Nat) (dk : Array α) (os : Array Obj) (hB : B ≤ blk) (hblk : blk < w.heap.size) : Below B w (sortWorld enc w blk off m dk os) := by
  refine ⟨rfl, rfl, rfl, ?_, fun k hk => ?_⟩
  · unfold sortWorld
    rw [size_grow]
    simp [Sort.ahead]
  · unfold sortWorld
    rw [heap_grow_old _ _ (by simp [Sort.ahead]; omega)]
    simp only [putRow, mapBlock, Sort.ahead]
    rw [Array.getElem?_modify, if_neg (by omega)]

theorem outI_link {ls : List Lnk} {node : Int} (a : OutI ls node) : ∃ x, ls[a.1]? = some x ∧ x.src = node ∧ a.dst = x.dst := by
  obtain ⟨i, hi⟩ := a
  obtain ⟨x, h⟩ : ∃ x, ls[i]? = some x := by
    cases h : ls[i]? with
    | none => rw [h] at hi; cases hi
    | some x => exact ⟨x, rfl⟩
  refine ⟨x, h, ?_, ?_⟩
  · rw [h] at hi; simpa using hi
  · unfold OutI.dst; dsimp only; rw [h]; rfl

theorem outI_eq {ls : List Lnk} {node : Int} (hd : dups ls = false) (a b : OutI ls node) (h : a.dst = b.dst) : a = b := by
  obtain ⟨x, hx, hxs, hxd⟩ := outI_link a
  obtain ⟨y, hy, hys, hyd⟩ := outI_link b
  unfold dups at hd
  simp only [Bool.not_eq_false', decide_eq_true_eq] at hd
  have h1 := List.getElem?_eq_some_iff.1 hx
  have h2 := List.getElem?_eq_some_iff.1 hy
  obtain ⟨l1, g1⟩ := h1
  obtain ⟨l2, g2⟩ := h2
  apply Subtype.ext
  have hk : x.key = y.key := by unfold Lnk.key; rw [hxs, hys, ← hxd, ← hyd, h]
  unfold List.Nodup at hd
  rw [List.pairwise_iff_getElem] at hd
  rcases Nat.lt_trichotomy a.1 b.1 with hlt | heq | hgt
  · exact absurd (by rw [List.getElem_map, List.getElem_map, g1, g2]; exact hk) (hd a.1 b.1 (by simpa using l1) (by simpa using l2) hlt)
  · exact heq
  · exact absurd (by rw [List.getElem_map, List.getElem_map, g1, g2]; exact hk.symm) (hd b.1 a.1 (by simpa using l2) (by simpa using l1) hgt)

def cfO {ls : List Lnk} {node : Int} (a b : OutI ls node) : Int := cmpI a.dst b.dst
theorem ltO {ls : List Lnk} {node : Int} (a b : OutI ls node) : ltOf cfO a b = decide (a.dst < b.dst) := by
  unfold ltOf cfO cmpI
  by_cases h1 : a.dst < b.dst
  · simp [h1]
  · by_cases h2 : b.dst < a.dst
    · simp [h1, h2]
    · simp [h1, h2]

theorem sort_c (ls : List Lnk) (node : Int) : SortC ls node := by
  intro w B p bm nodes A n c l hm hbm hc hl ho
  have hd := (newErr_zero hm.ok).2.2.2.2.1
  cases l with
  | nil =>
    have hz : n = 0 := by
      rcases ho.form' with ⟨h, _⟩ | ⟨g, c', h, _⟩
      · injection h
      · injection h
    subst hz
    have hk := AnyF.slices_SortFunc_none (have L := sortL; { L with }) A c (.func (.func 70) #[] #[.pointer (some ⟨bm, 0, none⟩)]) w
    refine hk.mono ?_
    rintro e w' ⟨rfl, rfl⟩
    exact ⟨rfl, Below.refl _ _, .inl (by unfold sortOut; simp)⟩
  | cons y r =>
    letI : Inhabited (OutI ls node) := ⟨y⟩
    obtain ⟨g, cap, hv, hBg, hg⟩ : ∃ g cap, Value.slice A n c = .slice (some ⟨g, 0, none⟩) (y :: r).length cap ∧ B ≤ g ∧ g < w.heap.size := by
      rcases ho.form' with ⟨_, h⟩ | h
      · cases h
      · exact h
    injection hv with h1 h2 h3
    subst h1 h2 h3
    have hH : Holds (fun a : OutI ls node => Value.int .i64 a.1) w g 0 (y :: r).toArray := by
      rcases ho.2 with ⟨h, _⟩ | ⟨g', cap', cur, hv, _, hh, _, _, _, hcur⟩
      · cases h
      · injection hv with h1 _ _
        injection h1 with h1
        injection h1 with h1
        subst h1
        intro j hj
        have hj' : j < (y :: r).length := by simpa using hj
        refine ⟨?_, by simp [World.frozen?, hh]⟩
        obtain ⟨z, hz⟩ : ∃ z, (y :: r)[j]? = some z := ⟨_, List.getElem?_eq_getElem hj'⟩
        have hf := flat_at (enc := OutI.cells) (k := 1) (fun _ => rfl) (y :: r) j 0 (by decide)
        rw [hz] at hf
        simp only [Nat.mul_one, Nat.add_zero, Option.bind_some, OutI.cells, List.getElem?_cons_zero] at hf
        have hcell := cell_of_row w g (0 + j) cur 3 (0, 0) hh
        rw [hcell, Nat.zero_add]
        have hb : (y :: r).toArray[j]! = z := by
          rw [getElem!_pos (y :: r).toArray j hj]
          have := (List.getElem?_eq_some_iff.1 hz).2
          simpa using this
        rw [hb]
        have hcl : cur[j]? = cur.toList[j]? := by simp
        rw [hcl]
        have : (cur.toList.take ((y :: r).length * 1))[j]? = cur.toList[j]? := by rw [List.getElem?_take, if_pos (by omega)]
        rw [← this, hcur]
        exact hf
    have hcmp : CmpLays1 Tryz.prog 70 #[.pointer (some ⟨bm, 0, none⟩)] (fun a : OutI ls node => Value.int .i64 a.1) cfO g 0 (y :: r).toArray.size w := by
      intro m os dk _ a b
      have hB := below_sort (fun a : OutI ls node => Value.int .i64 a.1) w B g 0 m dk os hBg hg
      obtain ⟨x, hx, _, hxd⟩ := outI_link a
      obtain ⟨z, hz, _, hzd⟩ := outI_link b
      have := out11_c bm p nodes ls a.1 b.1 x z hx hz (sortWorld (fun a : OutI ls node => Value.int .i64 a.1) w g 0 m dk os) (hm.below hB).st ((hB.cell (p := ⟨bm, 0, none⟩) hbm).trans hc)
      refine this.mono ?_
      rintro e w' ⟨rfl, q, rfl⟩
      refine ⟨?_, q, #[], by rw [grow_empty]⟩
      unfold cfO
      rw [hxd, hzd]
    have hk := Any.slices_SortFunc_total sortL (fun a : OutI ls node => Value.int .i64 a.1) (fun _ => rfl) cfO ⟨fun x => by rw [ltO]; simp, fun x y z h1 h2 => by rw [ltO] at *; simp at *; omega, fun x y z h1 h2 => by rw [ltO] at *; simp at *; omega⟩
      70 #[.pointer (some ⟨bm, 0, none⟩)] g 0 c (y :: r).toArray w (enters_of Tryz.func70 (by kernel_rfl) rfl) hcmp hH hg (by simp; simp at hl; omega) (fun a b h1 h2 => outI_eq hd a b (by rw [ltO] at h1 h2; simp at h1 h2; omega))
    refine hk.mono ?_
    rintro e w' ⟨rfl, m, os, rfl⟩
    refine ⟨rfl, below_sort _ w B g 0 m _ os hBg hg, ?_⟩
    have hso : (y :: r).toArray.toList.mergeSort (fun a b => !(ltOf cfO) b a) = sortOut (y :: r) := by
      unfold sortOut
      congr 1
      funext a b
      rw [ltO]
      by_cases h : b.dst < a.dst
      · simp [h]; try omega
      · simp [h]; try omega
    rw [hso]
    have hlen : (sortOut (y :: r)).toArray.size = (y :: r).toArray.size := by unfold sortOut; simp
    have hh := holds_sortWorld (fun a : OutI ls node => Value.int .i64 a.1) w g 0 m (y :: r).toArray (sortOut (y :: r)).toArray os hg hH hlen
    refine .inr ⟨g, 0, rfl, lt_sortWorld _ w g 0 m _ os hg, fun i x hx j v hv => ?_⟩
    have hj : j = 0 := by have := (List.getElem?_eq_some_iff.1 hv).1; simpa [OutI.cells] using this
    subst hj
    simp only [OutI.cells, List.getElem?_cons_zero, Option.some.injEq] at hv
    subst hv
    have hi : i < (sortOut (y :: r)).toArray.size := by simpa using (List.getElem?_eq_some_iff.1 hx).1
    have := (hh i hi).1
    rw [Nat.mul_one, Nat.add_zero, this]
    have hb : (sortOut (y :: r)).toArray[i]! = x := by
      rw [getElem!_pos (sortOut (y :: r)).toArray i hi]
      have := (List.getElem?_eq_some_iff.1 hx).2
      simpa using this
    rw [hb]
end Go.Proofs.YtbjdiikjnlgmiaaGreat
