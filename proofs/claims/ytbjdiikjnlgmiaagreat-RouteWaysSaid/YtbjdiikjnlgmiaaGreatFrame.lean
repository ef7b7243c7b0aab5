/- Arguments opened: a slice of links, an array of two and of three numbers. -/
import Derived.Test.YtbjdiikjnlgmiaaGreatTopoC
import Derived.Deep.Slices
import Derived.Deep.Fields
import Derived.ChangeSame
import Derived.ProofKit
import Derived.OpenShut
namespace Go.Proofs.YtbjdiikjnlgmiaaGreat
open Go.ChangeShapes Go.WideShapes Go.Deep Go.RowKit

section
variable {H : Type} {enc : TypeId × Value → H} {P : Program} {w : World} {base : Nat} {spare : Nat → Bool} {held : Bool}
theorem open_slice_fields {t e : TypeId} {fs : Array Field} {fuel : Nat} {cs : List Value} {x : DataW H × List MemPlace} (ht : P.underlying t = some (.slice e)) (he : P.underlying e = some (.struct fs))
    (hone : oneCellFields P fs = true) (hC : P.cellsOf e = fs.size) (h : DataW.trod enc P w base spare held fuel t cs = some x) :
    (cs = [.slice none 0 0] ∧ x = (.nil, [])) ∨
    ∃ (a : Addr) (len cap m : Nat) (D : Nat → DataW H) (Pl : Nat → List MemPlace), cs = [.slice (some a) len cap] ∧ base ≤ a.block ∧ len ≤ cap ∧ cap ≤ maxLen ∧ m = (if spare a.block then cap else len) ∧
      x = (.slice ((List.range len).map D) ((List.range (m - len)).map fun j => D (len + j)), MemPlace.row a (m * fs.size) ++ (List.range m).flatMap Pl) ∧
      ∀ i, i < m → ∃ (ys : List (DataW H × List MemPlace)) (n : Nat), D i = .agg (ys.map (·.1)) ∧ Pl i = ys.flatMap (·.2) ∧ ys.length = fs.size ∧
        ∀ (j : Nat) (f : Field), fs[j]? = some f → ∃ (v : Value) (y : DataW H × List MemPlace), w.cell? (a.add (i * fs.size + j)) = some v ∧ ys[j]? = some y ∧ DataW.trod enc P w base spare held n f.type [v] = some y := by
  rcases open_slice ht h with h0 | ⟨a, len, cap, m, n, D, Pl, hcs, hb, hl, hm, hmm, hx, hi⟩
  · exact .inl h0
  · refine .inr ⟨a, len, cap, m, D, Pl, hcs, hb, hl, hm, hmm, by rw [hC] at hx; exact hx, fun i him => ?_⟩
    obtain ⟨cs', hc, ht'⟩ := hi i him
    rw [hC] at hc
    obtain ⟨ys, n', hn', hy, hlen, hyl, hf⟩ := DataW.trod_struct he ht'
    obtain ⟨_, hcl, hat⟩ := World.cells?_some hc
    simp only [Prod.mk.injEq] at hy
    refine ⟨ys, n', hy.1, hy.2, hyl, fun j f hj => ?_⟩
    obtain ⟨ho, hk⟩ := hone_of hone j f hj
    have hjl : j < fs.size := (Array.getElem?_eq_some_iff.1 hj).1
    have hcell := hat j hjl
    have hv : cs'[j]? = some (cs'[j]'(by omega)) := List.getElem?_eq_getElem (by omega)
    have h1 := hf j f hj
    rw [ho, hk] at h1
    have hone' : (cs'.drop j).take 1 = [cs'[j]'(by omega)] := by
      rw [List.drop_eq_getElem_cons (by omega)]
      rfl
    rw [hone'] at h1
    have hys : ys[j]? = some (ys[j]'(by omega)) := List.getElem?_eq_getElem (by omega)
    refine ⟨_, _, ?_, hys, h1.trans hys⟩
    rw [← Go.Deep.add_add, hcell, hv]
end

theorem laidOutN : laidOutB Tryz.prog = true := by kernel_rfl
def numOf : Option Value → Int
  | some (.int .i64 n) => n
  | _ => 0
theorem numOf_at {o : Option Value} (h : ∃ n : Int, o = some (.int .i64 n)) : o = some (.int .i64 (numOf o)) := by
  obtain ⟨n, rfl⟩ := h
  rfl
set_option maxRecDepth 100000 in
theorem oneL : ∃ fs : Array Field, Tryz.prog.underlying 51 = some (.struct fs) ∧ oneCellFields Tryz.prog fs = true ∧ Tryz.prog.cellsOf 51 = fs.size ∧ fs.size = 8 ∧ ∀ (j : Nat) (f : Field), fs[j]? = some f → Tryz.prog.underlying f.type = some (.int .i64) := by
  refine ⟨_, Tryz.underlying51, by kernel_rfl, by kernel_rfl, rfl, fun j f hj => ?_⟩
  have hj8 : j < 8 := by
    have := (Array.getElem?_eq_some_iff.1 hj).1
    exact this
  have hc : j = 0 ∨ j = 1 ∨ j = 2 ∨ j = 3 ∨ j = 4 ∨ j = 5 ∨ j = 6 ∨ j = 7 := by omega
  rcases hc with rfl | rfl | rfl | rfl | rfl | rfl | rfl | rfl <;> (injection hj with hj; subst hj; first | exact Tryz.underlying3 | exact Tryz.underlying2)

section
variable {H : Type} {enc : TypeId × Value → H} {w : World} {base : Nat} {spare : Nat → Bool} {held : Bool}

set_option maxRecDepth 100000 in
theorem open_links {A : Option Addr} {len cap : Nat} {d : DataW H} {p : List MemPlace} (h : DataW.Trod enc Tryz.prog w base spare held 22 (.slice A len cap) d p) :
    ∃ ls : List Lnk, ls.length = len ∧ SlAt w Lnk.cells 8 A ls := by
  obtain ⟨fuel, hf⟩ := h
  obtain ⟨fs, hu, hone, hC, h8, hint⟩ := oneL
  rcases open_slice_fields Tryz.underlying22 hu hone hC hf with ⟨hcs, _⟩ | ⟨a, len', cap', m, D, Pl, hcs, _, hl, _, hm, _, hi⟩
  · have hcs' : (Value.slice A len cap).cells.toList = [Value.slice A len cap] := rfl
    rw [hcs'] at hcs
    injection hcs with hcs _
    injection hcs with _ h2 _
    exact ⟨[], by rw [h2]; rfl, .inl rfl⟩
  · have hcs' : (Value.slice A len cap).cells.toList = [Value.slice A len cap] := rfl
    rw [hcs'] at hcs
    injection hcs with hcs _
    injection hcs with h1 h2 h3
    subst h1 h2 h3
    have hlm : len ≤ m := by rw [hm]; split <;> omega
    have hcell : ∀ i, i < len → ∀ j, j < 8 → ∃ n : Int, w.cell? (a.add (i * 8 + j)) = some (.int .i64 n) := fun i hil j hj => by
      obtain ⟨ys, n, _, _, _, hf2⟩ := hi i (by omega)
      obtain ⟨f, hfj⟩ : ∃ f, fs[j]? = some f := ⟨_, Array.getElem?_eq_getElem (by omega)⟩
      obtain ⟨v, y, hcv, _, ht⟩ := hf2 j f hfj
      obtain ⟨x, hx, _⟩ := DataW.trod_int (hint j f hfj) ht
      injection hx with hx _
      subst hx
      rw [h8] at hcv
      exact ⟨x, hcv⟩
    obtain ⟨val, hval⟩ : ∃ val : Nat → Nat → Int, ∀ i, i < len → ∀ j, j < 8 → w.cell? (a.add (i * 8 + j)) = some (.int .i64 (val i j)) := ⟨fun i j => numOf (w.cell? (a.add (i * 8 + j))), fun i hil j hj => numOf_at (hcell i hil j hj)⟩
    obtain ⟨lk, hlk⟩ : ∃ lk : Nat → Lnk, ∀ i, lk i = ⟨val i 0, val i 1, val i 2, val i 3, val i 4, val i 5, val i 6, val i 7⟩ := ⟨_, fun _ => rfl⟩
    refine ⟨(List.range len).map lk, by simp, ?_⟩
    by_cases h0 : len = 0
    · subst h0
      exact .inl rfl
    · have hc0 := hval 0 (by omega) 0 (by omega)
      obtain ⟨ab, ao, au⟩ := a
      have hadd0 : (⟨ab, ao, au⟩ : Addr).add (0 * 8 + 0) = ⟨ab, ao, au⟩ := rfl
      rw [hadd0] at hc0
      have hsp : au = none := by
        cases au with
        | none => rfl
        | some s =>
          unfold World.cell? at hc0
          split at hc0
          · simp at hc0
          · cases hc0
      subst hsp
      have hadd : ∀ k, (⟨ab, ao, none⟩ : Addr).add k = ⟨ab, ao + k, none⟩ := fun k => by
        unfold Addr.add
        split
        · rename_i h; subst h; rfl
        · rfl
      refine .inr ⟨ab, ao, rfl, World.block_lt_of_cell? _ _ hc0, fun i x hx j v hv => ?_⟩
      have hil : i < len := by have := (List.getElem?_eq_some_iff.1 hx).1; simpa using this
      rw [List.getElem?_map, List.getElem?_range hil] at hx
      simp only [Option.map_some, Option.some.injEq] at hx
      rw [hlk] at hx
      subst hx
      have hj : j < 8 := (List.getElem?_eq_some_iff.1 hv).1
      have hcv := hval i hil j hj
      rw [hadd, ← Nat.add_assoc] at hcv
      rw [hcv]
      have hc : j = 0 ∨ j = 1 ∨ j = 2 ∨ j = 3 ∨ j = 4 ∨ j = 5 ∨ j = 6 ∨ j = 7 := by omega
      rcases hc with rfl | rfl | rfl | rfl | rfl | rfl | rfl | rfl <;> exact hv

set_option maxRecDepth 100000 in
theorem open_cells {n : Nat} {t : TypeId} {r : Reach} {b0 : Nat} {v : Value} {d : DataW H} {p : List MemPlace} (ht : Tryz.prog.underlying t = some (.array n 3)) (hC : Tryz.prog.cellsOf t = n) (hv : Value.okWide Tryz.prog w r b0 t v) (h : DataW.Trod enc Tryz.prog w base spare held t v d p) :
    ∃ xs : List Int, v = .agg (xs.map (Value.int .i64)).toArray ∧ xs.length = n := by
  simp only [Value.okWide, ht] at hv
  obtain ⟨cs, rfl, hsz, _⟩ := hv
  obtain ⟨fuel, hf⟩ := h
  obtain ⟨ys, m, _, _, hlen, hyl, hi⟩ := DataW.trod_array ht hf
  have hce : Tryz.prog.cellsOf 3 = 1 := by kernel_rfl
  have hcl : (Value.agg cs).cells.toList = cs.toList := rfl
  rw [hcl] at hlen hi
  have hall : ∀ i, i < n → ∃ x : Int, cs.toList[i]? = some (.int .i64 x) := fun i hin => by
    have h1 := hi i hin
    rw [hce, Nat.mul_one] at h1
    have hl : i < cs.toList.length := by rw [hlen, hC]; exact hin
    have h2 : (cs.toList.drop i).take 1 = [cs.toList[i]] := by rw [List.drop_eq_getElem_cons hl]; rfl
    rw [h2, List.getElem?_eq_getElem (by omega)] at h1
    obtain ⟨x, hx, _⟩ := DataW.trod_int Tryz.underlying3 h1
    injection hx with hx _
    exact ⟨x, by rw [List.getElem?_eq_getElem hl, hx]⟩
  obtain ⟨f, hf2⟩ : ∃ f : Nat → Int, ∀ i, i < n → cs.toList[i]? = some (.int .i64 (f i)) := ⟨fun i => numOf (cs.toList[i]?), fun i hin => numOf_at (hall i hin)⟩
  refine ⟨(List.range n).map f, ?_, by simp⟩
  refine congrArg Value.agg ?_
  apply Array.ext'
  rw [List.map_map]
  apply List.ext_getElem?
  intro i
  by_cases hin : i < n
  · rw [hf2 i hin, List.getElem?_map, List.getElem?_range hin]
    rfl
  · rw [List.getElem?_eq_none (by rw [hlen, hC]; omega), List.getElem?_eq_none (by simp; omega)]
end
end Go.Proofs.YtbjdiikjnlgmiaaGreat
