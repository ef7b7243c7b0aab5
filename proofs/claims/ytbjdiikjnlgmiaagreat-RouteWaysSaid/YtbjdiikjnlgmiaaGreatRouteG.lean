/- The routes' methods on nil. -/
import Derived.Test.YtbjdiikjnlgmiaaGreatRouteF
import Derived.Test.YtbjdiikjnlgmiaaGreatOnce
namespace Go.Proofs.YtbjdiikjnlgmiaaGreat
open Go.RowKit Go.Shelf

theorem rnone_nil (w : World) : Calls Tryz.prog 38 #[.pointer none] w fun e w' => e = .returned (.bool true) ∧ w = w' := by
  go_enter Tryz.func38, Tryz.ntmps38
  go_wp2
  go_ret
  exact ⟨rfl, rfl⟩
theorem rnone_z (r : Nat) (w : World) (h : w.cell? ⟨r, 0, none⟩ = some (.pointer none)) : Calls Tryz.prog 38 #[.pointer (some ⟨r, 0, none⟩)] w fun e w' => e = .returned (.bool true) ∧ w = w' := by
  go_enter Tryz.func38, Tryz.ntmps38
  go_wp2
  go_ret
  exact ⟨rfl, rfl⟩
theorem rnone_no (r p : Nat) (w : World) (h : w.cell? ⟨r, 0, none⟩ = some (.pointer (some ⟨p, 0, none⟩))) : Calls Tryz.prog 38 #[.pointer (some ⟨r, 0, none⟩)] w fun e w' => e = .returned (.bool false) ∧ w = w' := by
  go_enter Tryz.func38, Tryz.ntmps38
  go_wp2
  go_ret
  exact ⟨rfl, rfl⟩

/-- No routes: nil, or the empty object. -/
def NoR (w : World) (v : Value) : Prop := v = .pointer none ∨ ∃ r, v = .pointer (some ⟨r, 0, none⟩) ∧ w.cell? ⟨r, 0, none⟩ = some (.pointer none)
theorem NoR.below {w w' : World} {v : Value} (h : NoR w v) (hb : Below w.heap.size w w') : NoR w' v := by
  rcases h with rfl | ⟨r, rfl, h⟩
  · exact .inl rfl
  · exact .inr ⟨r, rfl, (hb.cell (World.block_lt_of_cell? _ _ h)).trans h⟩
theorem NoR.c {w : World} {v : Value} (h : NoR w v) : Calls Tryz.prog 38 #[v] w fun e w' => e = .returned (.bool true) ∧ w = w' := by
  rcases h with rfl | ⟨r, rfl, h⟩
  · exact rnone_nil w
  · exact rnone_z r w h

theorem asked_none (v : Value) (a b : Int) (w : World) (h : NoR w v) : Calls Tryz.prog 28 #[v, .int .i64 a, .int .i64 b] w fun e w' => e = .returned (.tuple #[.int .i64 0, .int .i64 1]) ∧ w = w' := by
  have k := h.c
  clear h
  go_enter Tryz.func28, Tryz.ntmps28
  go_wp2_with (go_at_call 38; refine k.mono ?_; rintro e w1 ⟨rfl, rfl⟩)
  go_ret2
  exact ⟨rfl, rfl⟩
theorem far_none (v : Value) (a b : Int) (w : World) (h : NoR w v) : Calls Tryz.prog 10 #[v, .int .i64 a, .int .i64 b] w fun e w' => e = .returned (.tuple #[.int .i64 0, .int .i64 1]) ∧ w = w' := by
  have k := asked_none v a b w h
  clear h
  go_enter Tryz.func10, Tryz.ntmps10
  go_wp2_with (go_at_call 28; refine k.mono ?_; rintro e w1 ⟨rfl, rfl⟩)
  go_ret2
  exact ⟨rfl, rfl⟩
theorem way_none (v : Value) (a b : Int) (w : World) (h : NoR w v) : Calls Tryz.prog 8 #[v, .int .i64 a, .int .i64 b] w fun e w' => e = .returned (.tuple #[.slice none 0 0, .int .i64 1]) ∧ w = w' := by
  have k := asked_none v a b w h
  clear h
  go_enter Tryz.func8, Tryz.ntmps8
  go_wp2_with (go_at_call 28; refine k.mono ?_; rintro e w1 ⟨rfl, rfl⟩)
  go_ret2
  exact ⟨rfl, rfl⟩
theorem next_none (v : Value) (a b : Int) (w : World) (h : NoR w v) : Calls Tryz.prog 9 #[v, .int .i64 a, .int .i64 b] w fun e w' => e = .returned (.tuple #[.int .i64 0, .int .i64 1]) ∧ w = w' := by
  have k := asked_none v a b w h
  clear h
  go_enter Tryz.func9, Tryz.ntmps9
  go_wp2_with (go_at_call 28; refine k.mono ?_; rintro e w1 ⟨rfl, rfl⟩)
  go_ret2
  exact ⟨rfl, rfl⟩
theorem ahead_none (v : Value) (a b : Int) (w : World) (h : NoR w v) : Calls Tryz.prog 15 #[v, .int .i64 a, .int .i64 b] w fun e w' => e = .returned (.int .i64 0) ∧ w = w' := by
  have k := way_none v a b w h
  clear h
  go_enter Tryz.func15, Tryz.ntmps15
  go_wp2_with (go_at_call 8; refine k.mono ?_; rintro e w1 ⟨rfl, rfl⟩)
  go_loopw [9, 23] (fun s9 s wx => s9 = .int .i64 0 ∧ s = .int .i64 0 ∧ w = wx) (fun _ _ _ => 0)
  case atStart => exact ⟨rfl, rfl, rfl⟩
  case round =>
    obtain ⟨rfl, rfl, rfl⟩ := hrel
    go_wp2
    go_ret
    exact ⟨rfl, rfl⟩
theorem map_none (v : Value) (w : World) (h : NoR w v) : Calls Tryz.prog 17 #[v] w fun e w' => e = .returned (.pointer none) ∧ w = w' := by
  have k := h.c
  clear h
  go_enter Tryz.func17, Tryz.ntmps17
  go_wp2_with (go_at_call 38; refine k.mono ?_; rintro e w1 ⟨rfl, rfl⟩)
  go_ret
  exact ⟨rfl, rfl⟩
theorem new_none (w : World) : Calls Tryz.prog 7 #[.pointer none] w fun e w' => e = .returned (.tuple #[.pointer none, .int .i64 1]) ∧ w = w' := by
  have k := same_nil_nil_c w
  go_enter Tryz.func7, Tryz.ntmps7
  go_wp2_with (go_at_call 16; refine k.mono ?_; rintro e w1 ⟨rfl, rfl⟩)
  go_ret2
  exact ⟨rfl, rfl⟩
theorem terms_none (v : Value) (a b : Int) (w : World) (h : NoR w v) : Calls Tryz.prog 11 #[v, .int .i64 a, .int .i64 b] w fun e w' => e = .returned (.tuple #[.agg #[.int .i64 0, .int .i64 0], .int .i64 1]) ∧ Below w.heap.size w w' := by
  have hb : Below w.heap.size w (w.alloc (.cells #[.int .i64 0, .int .i64 0] 42)) := bl_alloc (Below.refl _ _) _
  have k := way_none v a b (w.alloc (.cells #[.int .i64 0, .int .i64 0] 42)) (h.below hb)
  clear h
  go_enter Tryz.func11, Tryz.ntmps11
  go_wp2_with (go_at_call 8; refine k.mono ?_; rintro e w1 ⟨rfl, rfl⟩)
  refine bodyPost_ret (v := .tuple #[.agg #[.int .i64 0, .int .i64 0], .int .i64 1]) ?_ rfl ⟨rfl, hb⟩
  simp [results, Tryz.results11, go_sem]
end Go.Proofs.YtbjdiikjnlgmiaaGreat
