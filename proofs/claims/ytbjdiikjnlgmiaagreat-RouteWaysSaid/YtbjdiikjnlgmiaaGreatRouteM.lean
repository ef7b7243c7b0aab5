/- The ring of four nodes: its list, its table. -/
import Derived.Test.YtbjdiikjnlgmiaaGreatRouteL
namespace Go.Proofs.YtbjdiikjnlgmiaaGreat
open Go.RowKit Go.Shelf

def mkL (a b : Int) : Lnk := ⟨a, b, 10, 0, 1, 100, 0, 0⟩
def ringP : List (Int × Int) := [(0, 1), (1, 2), (0, 3), (3, 2)]
def ringU (k : Nat) : List Lnk := (ringP.take k).flatMap fun x => [mkL x.1 x.2, mkL x.2 x.1]
def ringL : List Lnk := [mkL 0 1, mkL 1 0, mkL 1 2, mkL 2 1, mkL 0 3, mkL 3 0, mkL 3 2, mkL 2 3]
theorem ringU4 : ringU 4 = ringL := rfl
theorem ring_ok : newErr 4 ringL = 0 := by decide

theorem ring_far {T : Nat → Int} (h : Good 4 ringL T) : T 32 = 3 ∧ T 33 = 2 ∧ T 34 = 1 ∧ T 35 = 2 := by
  have hrow := (h.1.old 2 (by decide)).far
  have e : ∀ v, v < 16 → rowF T 2 v = T (32 + v) := fun v hv => by unfold rowF; rw [if_pos hv]
  have h2 := hrow.at_
  have l2 := hrow.all (mkL 1 2) (by simp [ringL]) (by show 0 < rowF T 2 2; omega)
  have l6 := hrow.all (mkL 3 2) (by simp [ringL]) (by show 0 < rowF T 2 2; omega)
  have g1 : 0 < rowF T 2 1 ∧ rowF T 2 1 ≤ rowF T 2 2 + 1 := l2
  have g3 : 0 < rowF T 2 3 ∧ rowF T 2 3 ≤ rowF T 2 2 + 1 := l6
  have n1 : rowF T 2 1 ≠ 1 := fun hh => absurd (hrow.one 1 hh) (by decide)
  have n3 : rowF T 2 3 ≠ 1 := fun hh => absurd (hrow.one 3 hh) (by decide)
  have l0 := hrow.all (mkL 0 1) (by simp [ringL]) (by show 0 < rowF T 2 1; omega)
  have g0 : 0 < rowF T 2 0 ∧ rowF T 2 0 ≤ rowF T 2 1 + 1 := l0
  have n0 : rowF T 2 0 ≠ 1 := fun hh => absurd (hrow.one 0 hh) (by decide)
  have m0 : rowF T 2 0 ≠ 2 := fun hh => by
    obtain ⟨x, hx, hs, hd⟩ := hrow.step 0 (by omega)
    rw [hh] at hd
    have hd2 := hrow.one _ (by omega : rowF T 2 x.dst.toNat = 1)
    simp only [ringL, List.mem_cons, List.not_mem_nil, or_false] at hx
    rcases hx with rfl | rfl | rfl | rfl | rfl | rfl | rfl | rfl <;> simp [mkL] at hs hd2
  have e0 := e 0 (by decide)
  have e1 := e 1 (by decide)
  have e2 := e 2 (by decide)
  have e3 := e 3 (by decide)
  simp only [Nat.reduceAdd, Nat.add_zero] at e0 e1 e2 e3
  omega

theorem ring_outs : outList ringL 0 = [⟨0, rfl⟩, ⟨4, rfl⟩] := by
  have h : outsUpto ringL 0 ringL.length = [⟨0, rfl⟩, ⟨4, rfl⟩] := rfl
  unfold outList sortOut
  rw [h]
  exact List.mergeSort_of_pairwise (List.Pairwise.cons (fun a' ha => by rw [List.mem_singleton] at ha; subst ha; rfl) (List.pairwise_singleton _ _))

theorem ring_next {T : Nat → Int} (h : Good 4 ringL T) : T 288 = 0 ∧ T 289 = 2 := by
  obtain ⟨t0, t1, t2, t3⟩ := ring_far h
  constructor
  · have hn := (h.1.old 2 (by decide)).next 0 (by decide)
    have hg : rowG T 2 0 = T 288 := rfl
    rw [hg] at hn
    rw [hn]
    unfold nextSpec found
    have ho : outList ringL ((0 : Nat) : Int) = [⟨0, rfl⟩, ⟨4, rfl⟩] := ring_outs
    rw [ho]
    have hq : qOf ringL (rowF T 2) 0 (⟨0, rfl⟩ : OutI ringL ((0 : Nat) : Int)) = true := by
      show Option.any (nearF (rowF T 2) 0) (some (mkL 0 1)) = true
      simp only [Option.any_some]
      unfold nearF
      have a1 : rowF T 2 (mkL 0 1).dst.toNat = T 33 := rfl
      have a0 : rowF T 2 0 = T 32 := rfl
      rw [a1, a0, t0, t1]
      rfl
    rw [List.find?_cons_of_pos hq]
    rfl
  · obtain ⟨i, x, hop⟩ := h.hop ring_ok (b := 2) (cur := 1) (by decide) (by decide) (by show 2 ≤ T 33; omega)
    have hnx : T 289 = i := hop.nx
    have hfar : T (32 + x.dst.toNat) = T 33 - 1 := hop.far
    have hs := hop.src
    have hl := hop.link
    have hi : i < 8 := (List.getElem?_eq_some_iff.1 hl).1
    rw [hnx]
    have hc : i = 0 ∨ i = 1 ∨ i = 2 ∨ i = 3 ∨ i = 4 ∨ i = 5 ∨ i = 6 ∨ i = 7 := by omega
    rcases hc with rfl | rfl | rfl | rfl | rfl | rfl | rfl | rfl <;> (injection hl with hl; subst hl; simp [mkL] at hs hfar ⊢ <;> omega)

theorem ring_way {T : Nat → Int} (h : Good 4 ringL T) : wayL ringL T 2 0 2 = [0, 2] ∧ askRes 4 T 0 2 = (2, 0) ∧ nextRes 4 T 0 2 = (0, 0) := by
  obtain ⟨t0, t1, t2, t3⟩ := ring_far h
  obtain ⟨n0, n1⟩ := ring_next h
  have ha : askRes 4 T 0 2 = (2, 0) := by
    unfold askRes
    rw [if_pos (by unfold okp; decide)]
    show (if T 32 = 0 then _ else (T 32 - 1, 0)) = _
    rw [t0]
    rfl
  refine ⟨?_, ha, ?_⟩
  · have p0 : wayAt ringL T 2 0 0 = 0 := by show (T 288).toNat = 0; rw [n0]; rfl
    have q1 : pathAt ringL T 2 0 1 = 1 := by
      show ((ringL[(T 288).toNat]?.map Lnk.dst).getD 0).toNat = 1
      rw [n0]
      rfl
    have p1 : wayAt ringL T 2 0 1 = 2 := by
      show (T (288 + pathAt ringL T 2 0 1)).toNat = 2
      rw [q1]
      show (T 289).toNat = 2
      rw [n1]
      rfl
    show [wayAt ringL T 2 0 0, wayAt ringL T 2 0 1] = _
    rw [p0, p1]
  · unfold nextRes
    rw [ha]
    show (T 288, (0 : Int)) = _
    rw [n0]
theorem ring_ahead : aheadUpto ringL [0, 2] 2 = 2 := by decide
end Go.Proofs.YtbjdiikjnlgmiaaGreat
