/- known answers true. -/
import Derived.Test.YtbjdiikjnlgmiaaGreatRouteN
namespace Go.Proofs.YtbjdiikjnlgmiaaGreat
open Go.RowKit Go.Shelf

theorem grown_of {w w' : World} {r : Nat} (hr : w.heap.size ≤ r) {W : World} (hb : Below w.heap.size w W) (hg : W.grownBy w' (some r)) : Below w.heap.size w w' :=
  hb.grown hg hb.size (fun k e => by injection e with e; omega)

/-- The first Way of the ring's routes. -/
theorem ring_way_c (r p : Nat) (w : World) (h : RSt w r p 4 ringL none) : Calls Tryz.prog 8 #[.pointer (some ⟨r, 0, none⟩), .int .i64 0, .int .i64 2] w fun e w' =>
    ∃ T A c g o, e = .returned (.tuple #[.slice A 2 c, .int .i64 0]) ∧ A = some ⟨g, o, none⟩ ∧ w'.cell? ⟨g, o, none⟩ = some (.int .i64 0) ∧ w'.cell? ⟨g, o + 1, none⟩ = some (.int .i64 2) ∧ RSt w' r p 4 ringL (some T) ∧ w.grownBy w' (some r) := by
  refine (way_c r p 4 ringL none 0 2 w h).mono ?_
  rintro e w' ⟨o', hw, ha⟩
  obtain ⟨T, rfl⟩ := ha.made (by unfold okp; decide)
  obtain ⟨h1, h2, h3⟩ := ring_way ha.st.rt.2
  have ht : tabO (some T) = T := rfl
  rw [ht] at hw
  unfold WayRes at hw
  rw [h2] at hw
  rcases hw with ⟨h, _⟩ | ⟨_, A, c, rfl, hs⟩
  · exact absurd rfl h
  · have hs' : SlAt w' natCells 1 A [0, 2] := by rw [← h1]; exact hs
    obtain ⟨g, o, hA, _, c0⟩ := hs'.at_ (i := 0) (x := 0) rfl
    obtain ⟨g', o'', hA', _, c1⟩ := hs'.at_ (i := 1) (x := 2) rfl
    rw [hA] at hA'
    injection hA' with hA'
    injection hA' with e1 e2
    subst e1 e2
    exact ⟨T, A, c, g, o, rfl, hA, c0 0 _ rfl, c1 0 _ rfl, ha.st, ha.gr⟩

theorem ring_next_c (r p : Nat) (T : Nat → Int) (w : World) (h : RSt w r p 4 ringL (some T)) : Calls Tryz.prog 9 #[.pointer (some ⟨r, 0, none⟩), .int .i64 0, .int .i64 2] w fun e w' =>
    e = .returned (.tuple #[.int .i64 0, .int .i64 0]) ∧ RSt w' r p 4 ringL (some T) ∧ Below w.heap.size w w' := by
  refine (next_c r p 4 ringL (some T) 0 2 w h).mono ?_
  rintro e w' ⟨o', rfl, ha⟩
  obtain rfl := ha.ext T rfl
  obtain ⟨h1, h2, h3⟩ := ring_way ha.st.rt.2
  have ht : tabO (some T) = T := rfl
  rw [ht, h3]
  exact ⟨rfl, ha.st, ha.same T rfl⟩
theorem ring_ahead_c (r p : Nat) (T : Nat → Int) (w : World) (h : RSt w r p 4 ringL (some T)) : Calls Tryz.prog 15 #[.pointer (some ⟨r, 0, none⟩), .int .i64 0, .int .i64 2] w fun e w' =>
    e = .returned (.int .i64 2) ∧ RSt w' r p 4 ringL (some T) ∧ Below w.heap.size w w' := by
  obtain ⟨h1, h2, h3⟩ := ring_way h.rt.2
  refine (ahead_c r p 4 ringL T 0 2 w h (by rw [h2])).mono ?_
  rintro e w' ⟨rfl, hs, hg⟩
  rw [h2]
  refine ⟨?_, hs, hg⟩
  have : wayL ringL T (Int.toNat 2) (Int.toNat 0) (Int.toNat 2) = [0, 2] := h1
  rw [this]
  rfl

set_option maxRecDepth 100000 in
set_option maxHeartbeats 2000000 in
theorem known_c (w : World) : Calls Tryz.prog 4 #[] w fun e w' => e = .returned (.bool true) ∧ Below w.heap.size w w' := by
  have k1 := ring_c w
  have k2 := fun A c w (hs : SlAt w Lnk.cells 8 A ringL) => new_ok_c 4 ringL A c w (by decide) hs ring_ok
  have hlen : ((ringL.length : Nat) : Int) = 8 := rfl
  have k3 := fun p w (h : MapSt w p 4 ringL) => rnew_c p 4 ringL w h
  go_enter Tryz.func4, Tryz.ntmps4
  go_upto_region 3 with (first | (go_at_call 18; refine k1.mono ?_; rintro e w1 ⟨A, c, rfl, hs, hb1⟩) | (go_at_call 5; refine (k2 _ _ _ hs).mono ?_; rintro e w2 ⟨p, rfl, hm, _, hb2⟩) | (go_at_call 7; refine (k3 _ _ hm).mono ?_; rintro e w3 ⟨r, q, rfl, hst, hr, hb3⟩))
  have hz := hb1.size
  have hz3' := hb2.size
  have hB3 := bl_call (bl_call hb1 hb2) hb3
  have k4 := ring_way_c r q w3 hst
  clear hs hm hst k1 k2 k3 hb1 hb2 hb3
  go_upto_region 4 with (go_at_call 8; refine k4.mono ?_; rintro e w4 ⟨T, A, c, g, o, rfl, rfl, c0, c1, hst4, hg4⟩)
  have hB4 : Below w.heap.size w w4 := hB3.grown hg4 hB3.size (fun k e => by injection e with e; subst e; exact Nat.le_trans (Nat.le_trans hz hz3') hr)
  have k5 := ring_next_c r q T w4 hst4
  clear k4 hg4 hst4
  go_upto_region 5 with (go_at_call 9; refine k5.mono ?_; rintro e w5 ⟨rfl, hst5, hb5⟩)
  have d0 := (hb5.cell (World.block_lt_of_cell? _ _ c0)).trans c0
  have d1 := (hb5.cell (World.block_lt_of_cell? _ _ c1)).trans c1
  have k6 := ring_ahead_c r q T w5 hst5
  have hB5 := bl_call hB4 hb5
  clear k5 c0 c1 hst5 hb5
  go_wp2_with (go_at_call 15; refine k6.mono ?_; rintro e w6 ⟨rfl, hst6, hb6⟩)
  go_ret
  exact ⟨rfl, bl_call hB5 hb6⟩
end Go.Proofs.YtbjdiikjnlgmiaaGreat
