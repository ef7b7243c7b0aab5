/- The routes' methods on nil. -/
import Derived.Test.YtbjdiikjnlgmiaaRouteF
import Derived.Test.YtbjdiikjnlgmiaaOnce
namespace Go.Proofs.Ytbjdiikjnlgmiaa
open Go.RowKit Go.Shelf

theorem rnone_nil (w : World) : Calls Try.prog 29 #[.pointer none] w fun e w' => e = .returned (.bool true) ∧ w = w' := by
  go_enter Try.func29, Try.ntmps29
  go_wp2
  go_ret
  exact ⟨rfl, rfl⟩
theorem rnone_z (r : Nat) (w : World) (h : w.cell? ⟨r, 0, none⟩ = some (.pointer none)) : Calls Try.prog 29 #[.pointer (some ⟨r, 0, none⟩)] w fun e w' => e = .returned (.bool true) ∧ w = w' := by
  go_enter Try.func29, Try.ntmps29
  go_wp2
  go_ret
  exact ⟨rfl, rfl⟩
theorem rnone_no (r p : Nat) (w : World) (h : w.cell? ⟨r, 0, none⟩ = some (.pointer (some ⟨p, 0, none⟩))) : Calls Try.prog 29 #[.pointer (some ⟨r, 0, none⟩)] w fun e w' => e = .returned (.bool false) ∧ w = w' := by
  go_enter Try.func29, Try.ntmps29
  go_wp2
  go_ret
  exact ⟨rfl, rfl⟩

/-- No routes: nil, or the empty object. -/
def NoR (w : World) (v : Value) : Prop := v = .pointer none ∨ ∃ r, v = .pointer (some ⟨r, 0, none⟩) ∧ w.cell? ⟨r, 0, none⟩ = some (.pointer none)
theorem NoR.below {w w' : World} {v : Value} (h : NoR w v) (hb : Below w.heap.size w w') : NoR w' v := by
  rcases h with rfl | ⟨r, rfl, h⟩
  · exact .inl rfl
  · exact .inr ⟨r, rfl, (hb.cell (World.block_lt_of_cell? _ _ h)).trans h⟩
theorem NoR.c {w : World} {v : Value} (h : NoR w v) : Calls Try.prog 29 #[v] w fun e w' => e = .returned (.bool true) ∧ w = w' := by
  rcases h with rfl | ⟨r, rfl, h⟩
  · exact rnone_nil w
  · exact rnone_z r w h

theorem asked_none (v : Value) (a b : Int) (w : World) (h : NoR w v) : Calls Try.prog 25 #[v, .int .i64 a, .int .i64 b] w fun e w' => e = .returned (.tuple #[.int .i64 0, .int .i64 1]) ∧ w = w' := by
  have k := h.c
  clear h
  go_enter Try.func25, Try.ntmps25
  go_wp2_with (go_at_call 29; refine k.mono ?_; rintro e w1 ⟨rfl, rfl⟩)
  go_ret2
  exact ⟨rfl, rfl⟩
theorem far_none (v : Value) (a b : Int) (w : World) (h : NoR w v) : Calls Try.prog 9 #[v, .int .i64 a, .int .i64 b] w fun e w' => e = .returned (.tuple #[.int .i64 0, .int .i64 1]) ∧ w = w' := by
  have k := asked_none v a b w h
  clear h
  go_enter Try.func9, Try.ntmps9
  go_wp2_with (go_at_call 25; refine k.mono ?_; rintro e w1 ⟨rfl, rfl⟩)
  go_ret2
  exact ⟨rfl, rfl⟩
theorem way_none (v : Value) (a b : Int) (w : World) (h : NoR w v) : Calls Try.prog 10 #[v, .int .i64 a, .int .i64 b] w fun e w' => e = .returned (.tuple #[.slice none 0 0, .int .i64 1]) ∧ w = w' := by
  have k := asked_none v a b w h
  clear h
  go_enter Try.func10, Try.ntmps10
  go_wp2_with (go_at_call 25; refine k.mono ?_; rintro e w1 ⟨rfl, rfl⟩)
  go_ret2
  exact ⟨rfl, rfl⟩
theorem next_none (v : Value) (a b : Int) (w : World) (h : NoR w v) : Calls Try.prog 11 #[v, .int .i64 a, .int .i64 b] w fun e w' => e = .returned (.tuple #[.int .i64 0, .int .i64 1]) ∧ w = w' := by
  have k := asked_none v a b w h
  clear h
  go_enter Try.func11, Try.ntmps11
  go_wp2_with (go_at_call 25; refine k.mono ?_; rintro e w1 ⟨rfl, rfl⟩)
  go_ret2
  exact ⟨rfl, rfl⟩
theorem ahead_none (v : Value) (a b : Int) (w : World) (h : NoR w v) : Calls Try.prog 14 #[v, .int .i64 a, .int .i64 b] w fun e w' => e = .returned (.int .i64 0) ∧ w = w' := by
  have k := way_none v a b w h
  clear h
  go_enter Try.func14, Try.ntmps14
  go_wp2_with (go_at_call 10; refine k.mono ?_; rintro e w1 ⟨rfl, rfl⟩)
  go_loopw [9, 23] (fun s9 s wx => s9 = .int .i64 0 ∧ s = .int .i64 0 ∧ w = wx) (fun _ _ _ => 0)
  case atStart => exact ⟨rfl, rfl, rfl⟩
  case round =>
    obtain ⟨rfl, rfl, rfl⟩ := hrel
    go_wp2
    go_ret
    exact ⟨rfl, rfl⟩
theorem map_none (v : Value) (w : World) (h : NoR w v) : Calls Try.prog 15 #[v] w fun e w' => e = .returned (.pointer none) ∧ w = w' := by
  have k := h.c
  clear h
  go_enter Try.func15, Try.ntmps15
  go_wp2_with (go_at_call 29; refine k.mono ?_; rintro e w1 ⟨rfl, rfl⟩)
  go_ret
  exact ⟨rfl, rfl⟩
theorem new_none (w : World) : Calls Try.prog 8 #[.pointer none] w fun e w' => e = .returned (.tuple #[.pointer none, .int .i64 1]) ∧ w = w' := by
  have k := same_nil_nil_c w
  go_enter Try.func8, Try.ntmps8
  go_wp2_with (go_at_call 23; refine k.mono ?_; rintro e w1 ⟨rfl, rfl⟩)
  go_ret2
  exact ⟨rfl, rfl⟩
theorem terms_none (v : Value) (a b : Int) (w : World) (h : NoR w v) : Calls Try.prog 13 #[v, .int .i64 a, .int .i64 b] w fun e w' => e = .returned (.tuple #[.agg #[.int .i64 0, .int .i64 0], .int .i64 1]) ∧ Below w.heap.size w w' := by
  have hb : Below w.heap.size w (w.alloc (.cells #[.int .i64 0, .int .i64 0] 63)) := bl_alloc (Below.refl _ _) _
  have k := way_none v a b (w.alloc (.cells #[.int .i64 0, .int .i64 0] 63)) (h.below hb)
  clear h
  go_enter Try.func13, Try.ntmps13
  go_wp2_with (go_at_call 10; refine k.mono ?_; rintro e w1 ⟨rfl, rfl⟩)
  refine bodyPost_ret (v := .tuple #[.agg #[.int .i64 0, .int .i64 0], .int .i64 1]) ?_ rfl ⟨rfl, hb⟩
  simp [results, Try.results13, go_sem]
end Go.Proofs.Ytbjdiikjnlgmiaa
