/- The document's choice of the next link is the table's. Plain Lean. -/
import Derived.Test.YtbjdiikjnlgmiaaGreatWaysD
namespace Go.Proofs.YtbjdiikjnlgmiaaGreat
open Go.RowKit Go.Shelf

/-- The table's hop goes to the least node of those that are nearer. -/
theorem Good.hopLeast {n : Int} {ls : List Lnk} {T : Nat → Int} (h : Good n ls T) (he : newErr n ls = 0) {b cur i : Nat} {x : Lnk} (hb : (b : Int) < n) (hc : (cur : Int) < n) (h2 : 2 ≤ T (b * 16 + cur)) (hop : Hop n ls T b cur i x)
    {k : Nat} {y : Lnk} (hy : ls[k]? = some y) (hys : y.src = cur) (hyd : T (b * 16 + y.dst.toNat) = T (b * 16 + cur) - 1) : x.dst ≤ y.dst := by
  have hn := newErr_zero he
  have hrow := h.1.old b (by omega)
  have hf : rowF T b cur = T (b * 16 + cur) := rowF_at (by omega)
  have hg : rowG T b cur = T (256 + b * 16 + cur) := by unfold rowG; rw [if_pos (by omega)]
  obtain ⟨y1, y2, y3, y4, _, _⟩ := link_range he (List.mem_of_getElem? hy)
  have hdy : rowF T b y.dst.toNat = T (b * 16 + y.dst.toNat) := rowF_at (by omega)
  obtain ⟨ay, hay⟩ : ∃ a : OutI ls (cur : Int), a.1 = k := ⟨⟨k, by rw [hy]; simp [hys]⟩, rfl⟩
  have hq : qOf ls (rowF T b) cur ay = true := by
    unfold qOf
    rw [hay, hy]
    simp only [Option.any_some]
    unfold nearF
    rw [hdy, hf, hyd]
    simp
    omega
  have hnx := hrow.next cur hc
  unfold nextSpec found at hnx
  cases hfd : (outList ls (cur : Int)).find? (qOf ls (rowF T b) cur) with
  | none =>
    have := List.find?_eq_none.1 hfd ay (outList_mem ay)
    rw [hq] at this
    exact absurd rfl this
  | some c =>
    rw [hfd, hg, hop.nx] at hnx
    dsimp only at hnx
    have hci : i = c.1 := by omega
    obtain ⟨z, hz, hzs, hzd⟩ := outI_link c
    rw [← hci, hop.link] at hz
    injection hz with hz
    subst hz
    obtain ⟨z2, hz2, _, hzd2⟩ := outI_link ay
    rw [hay, hy] at hz2
    injection hz2 with hz2
    subst hz2
    rw [← hzd, ← hzd2]
    rw [List.find?_eq_some_iff_append] at hfd
    obtain ⟨_, pa, pb, hl, hno⟩ := hfd
    have hmem : ay ∈ pa ++ c :: pb := by rw [← hl]; exact outList_mem ay
    have hsort : (pa ++ c :: pb).Pairwise fun p q : OutI ls (cur : Int) => decide (p.dst ≤ q.dst) = true := by
      rw [← hl]
      unfold outList sortOut
      exact List.pairwise_mergeSort (fun p q r h1 h2 => by simp at *; omega) (fun p q => by simp; omega) _
    rcases List.mem_append.1 hmem with hin | hin
    · have := hno ay hin
      rw [hq] at this
      simp at this
    · rcases List.mem_cons.1 hin with rfl | hin2
      · exact Int.le_refl _
      · have := (List.pairwise_append.1 hsort).2.1
        have := (List.pairwise_cons.1 this).1 ay hin2
        simpa using this

theorem btw_link {ls : List Lnk} {f t : Int} {i : Nat} (h : btwI ls f t = i) : ∃ x, ls[i]? = some x ∧ x.src = f ∧ x.dst = t := by
  unfold btwI at h
  cases hh : ls.findIdx? (btwQ f t) with
  | none => rw [hh] at h; dsimp only at h; omega
  | some j =>
    rw [hh] at h
    dsimp only at h
    obtain rfl : j = i := by omega
    rw [List.findIdx?_eq_some_iff_getElem] at hh
    obtain ⟨hj, hq, _⟩ := hh
    refine ⟨ls[j], List.getElem?_eq_getElem hj, ?_⟩
    unfold btwQ at hq
    simpa using hq
theorem link_btw {ls : List Lnk} (hd : dups ls = false) {i : Nat} {x : Lnk} (hx : ls[i]? = some x) : btwI ls x.src x.dst = i := by
  refine btw_yes hx (by unfold btwQ; simp) fun j y hj hy => ?_
  unfold btwQ
  rw [Bool.and_eq_false_iff]
  by_cases h1 : y.src = x.src
  · right
    rw [beq_eq_false_iff_ne]
    intro h2
    unfold dups at hd
    simp only [Bool.not_eq_false', decide_eq_true_eq] at hd
    unfold List.Nodup at hd
    rw [List.pairwise_iff_getElem] at hd
    obtain ⟨l1, g1⟩ := List.getElem?_eq_some_iff.1 hx
    obtain ⟨l2, g2⟩ := List.getElem?_eq_some_iff.1 hy
    exact absurd (by rw [List.getElem_map, List.getElem_map, g1, g2]; unfold Lnk.key; rw [h1, h2]) (hd j i (by simpa using l2) (by simpa using l1) hj)
  · left
    rw [beq_eq_false_iff_ne]
    exact h1

/-- What stands in the document's list of a node's links. -/
theorem outR_mem {ls : List Lnk} {f : Int} {i : Nat} : ∀ k, i ∈ outR ls f k ↔ ∃ t : Nat, t < k ∧ btwI ls f t = i
  | 0 => by simp [outR]
  | k + 1 => by
    unfold outR
    rw [List.mem_append, outR_mem k]
    constructor
    · rintro (⟨t, ht, hb⟩ | h)
      · exact ⟨t, by omega, hb⟩
      · split at h
        · simp at h
        · rw [List.mem_singleton] at h
          exact ⟨k, by omega, by omega⟩
    · rintro ⟨t, ht, hb⟩
      by_cases hk : t = k
      · subst hk
        right
        rw [if_neg (by omega), List.mem_singleton]
        omega
      · exact .inl ⟨t, by omega, hb⟩

theorem outR_sorted {ls : List Lnk} {f : Int} : ∀ k, (outR ls f k).Pairwise fun (i j : Nat) => ∃ s t : Nat, s < t ∧ t < k ∧ btwI ls f s = (i : Int) ∧ btwI ls f t = (j : Int)
  | 0 => by simp [outR]
  | k + 1 => by
    unfold outR
    rw [List.pairwise_append]
    refine ⟨(outR_sorted k).imp fun ⟨s, t, h1, h2, h3⟩ => ⟨s, t, h1, by omega, h3⟩, ?_, fun i hi j hj => ?_⟩
    · split <;> simp
    · obtain ⟨s, hs, hb⟩ := (outR_mem k).1 hi
      split at hj
      · simp at hj
      · rw [List.mem_singleton] at hj
        exact ⟨s, k, hs, by omega, hb, by omega⟩
end Go.Proofs.YtbjdiikjnlgmiaaGreat
