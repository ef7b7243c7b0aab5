/- What New answers, in plain Lean. -/
import Derived.Test.YtbjdiikjnlgmiaaGreatTopoD
namespace Go.Proofs.YtbjdiikjnlgmiaaGreat

def Lnk.key (L : Lnk) : Int × Int := (L.src, L.dst)
/-- Which link leads from node to node. -/
def byList (ls : List Lnk) : List ((Int × Int) × Nat) := ls.zipIdx.map fun x => (x.1.key, x.2)

theorem byList_take (ls : List Lnk) (k : Nat) (x : Lnk) (hx : ls[k]? = some x) : byList (ls.take (k + 1)) = byList (ls.take k) ++ [(x.key, k)] := by
  obtain ⟨hk, rfl⟩ := List.getElem?_eq_some_iff.1 hx
  unfold byList
  rw [List.take_succ_eq_append_getElem hk, List.zipIdx_append]
  simp [List.length_take, Nat.min_eq_left (Nat.le_of_lt hk)]

theorem byList_keys (ls : List Lnk) : (byList ls).map (·.1) = ls.map Lnk.key := by
  unfold byList
  rw [List.map_map]
  have : ((fun x : (Int × Int) × Nat => x.1) ∘ fun x : Lnk × Nat => (x.1.key, x.2)) = Lnk.key ∘ Prod.fst := rfl
  rw [this, ← List.map_map, List.zipIdx_map_fst]

theorem lookupK_isSome {α β : Type} [DecidableEq α] (a : α) (l : List (α × β)) : (lookupK a l).isSome = true ↔ a ∈ l.map (·.1) := by
  unfold lookupK
  rw [Option.isSome_map, List.find?_isSome]
  simp only [decide_eq_true_eq, List.mem_map]
  exact ⟨fun ⟨x, hx, h⟩ => ⟨x, hx, h.symm⟩, fun ⟨x, hx, h⟩ => ⟨x, hx, h.symm⟩⟩

theorem putK_new {α β : Type} [DecidableEq α] {a : α} {l : List (α × β)} (h : (lookupK a l).isSome = false) (b : β) : putK a b l = l ++ [(a, b)] := by
  unfold putK
  cases hi : l.findIdx? fun x => decide (a = x.1) with
  | none => rfl
  | some j =>
    obtain ⟨x, _, _, hl⟩ := lookup_some hi
    rw [hl] at h
    cases h

theorem take_map_getElem (ls : List Lnk) (k : Nat) : (ls.take k).map Lnk.key = (ls.map Lnk.key).take k := List.map_take ..

/-- Every link is the first one from its node to its node. -/
def dups (ls : List Lnk) : Bool := !decide ((ls.map Lnk.key).Nodup)

theorem dups_true {ls : List Lnk} {k : Nat} {x : Lnk} (hx : ls[k]? = some x) (h : (lookupK x.key (byList (ls.take k))).isSome = true) : dups ls = true := by
  rw [lookupK_isSome, byList_keys] at h
  unfold dups
  simp only [Bool.not_eq_true', decide_eq_false_iff_not]
  intro hnd
  obtain ⟨y, hy, hyk⟩ := List.mem_map.1 h
  obtain ⟨j, hj, hjy⟩ := List.mem_iff_getElem.1 hy
  have hj' : j < k := by have := hj; rw [List.length_take] at this; omega
  have hk : k < ls.length := (List.getElem?_eq_some_iff.1 hx).1
  have hxe : ls[k] = x := (List.getElem?_eq_some_iff.1 hx).2
  rw [List.getElem_take] at hjy
  have h1 : (ls.map Lnk.key)[j]'(by simp; omega) = (ls.map Lnk.key)[k]'(by simp; omega) := by simp [hjy, hyk, hxe]
  have := (List.getElem_inj hnd).1 h1
  omega

theorem dups_false {ls : List Lnk} (h : ∀ k x, ls[k]? = some x → (lookupK x.key (byList (ls.take k))).isSome = false) : dups ls = false := by
  unfold dups
  simp only [Bool.not_eq_false', decide_eq_true_eq]
  unfold List.Nodup
  rw [List.pairwise_iff_getElem]
  intro i j hi hj hij hc
  simp only [List.length_map] at hi hj
  have hj' : ls[j]? = some ls[j] := List.getElem?_eq_getElem hj
  have hno := h j ls[j] hj'
  have hyes : (lookupK ls[j].key (byList (ls.take j))).isSome = true := by
    rw [lookupK_isSome, byList_keys]
    refine List.mem_map.2 ⟨ls[i], List.mem_iff_getElem.2 ⟨i, by rw [List.length_take]; omega, by rw [List.getElem_take]⟩, ?_⟩
    simpa using hc
  rw [hno] at hyes
  cases hyes

def noBack (ls : List Lnk) : Bool := ls.any fun x => (lookupK (x.dst, x.src) (byList ls)).isNone

/-- Why there is no map of these nodes and links; 0: there is one. -/
def newErr (nodes : Int) (ls : List Lnk) : Int :=
  if (!wi nodes 1 16 || ls.any (linkBad nodes)) = true then 2 else if 48 < ls.length then 3 else if dups ls = true then 190 else if noBack ls = true then 191 else 0

theorem newErr_pos (nodes : Int) (ls : List Lnk) : newErr nodes ls = 0 ∨ newErr nodes ls = 2 ∨ newErr nodes ls = 3 ∨ newErr nodes ls = 190 ∨ newErr nodes ls = 191 := by
  unfold newErr
  repeat' split
  all_goals simp
end Go.Proofs.YtbjdiikjnlgmiaaGreat
