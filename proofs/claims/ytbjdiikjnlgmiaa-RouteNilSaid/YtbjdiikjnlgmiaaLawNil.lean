/- The law RouteNil answers true. -/
import Derived.Test.YtbjdiikjnlgmiaaRouteO
namespace Go.Proofs.Ytbjdiikjnlgmiaa
open Go.RowKit Go.Shelf

set_option maxRecDepth 100000 in
set_option maxHeartbeats 2000000 in
theorem routeNil_c (a b : Int) (w : World) : Calls Try.prog 5 #[.int .i64 a, .int .i64 b] w fun e w' => e = .returned (.bool true) ∧ Below w.heap.size w w' := by
  have hnp : NoR w (.pointer none) := .inl rfl
  go_enter Try.func5, Try.ntmps5
  go_upto_region 3 with fail
  obtain ⟨W, hW⟩ : ∃ W, W = w.alloc (.cells Try.zeroCells61 61) := ⟨_, rfl⟩
  have hb : Below w.heap.size w W := by rw [hW]; exact bl_alloc (Below.refl _ _) _
  have hnr : NoR W (.pointer (some ⟨w.heap.size, 0, none⟩)) := .inr ⟨_, rfl, by
    rw [hW]
    refine ((Blk.new w 61 Try.zeroCells61).cell 0).trans ?_
    rw [rt_base]
    exact (base_lo 0 (by decide)).trans rfl⟩
  rw [← hW]
  clear hW
  have hn0 : NoR W (.pointer none) := .inl rfl
  have k1 := way_none _ a b W hn0
  have k2 := next_none _ a b W hnr
  have k3 := far_none _ a b W hn0
  have k4 := terms_none _ a b W hnr
  have HN := Lib.hid hnr
  clear hn0 hnr hnp
  go_upto_region 7 with (first | (go_at_call 10; refine k1.mono ?_; rintro e w1 ⟨rfl, rfl⟩) | (go_at_call 11; refine k2.mono ?_; rintro e w1 ⟨rfl, rfl⟩) | (go_at_call 9; refine k3.mono ?_; rintro e w1 ⟨rfl, rfl⟩) | (go_at_call 13; refine k4.mono ?_; rintro e w1 ⟨rfl, hb1⟩))
  obtain ⟨W2, hW2⟩ : ∃ W2, W2 = w1.alloc (.cells #[.int .i64 0, .int .i64 0] 63) := ⟨_, rfl⟩
  have hb2 : Below W.heap.size W W2 := by rw [hW2]; exact bl_alloc hb1 _
  have hb3 := bl_call hb hb2
  rw [← hW2]
  have k5 := new_none W2
  have k6 := ahead_none (.pointer none) a b W2 (.inl rfl)
  have k7 := map_none _ W2 (HN.out.below hb2)
  have k8 := known_c W2
  clear hW2 hb1 k1 k2 k3 k4 hb2
  go_wp2_with (first | (go_at_call 8; refine k5.mono ?_; rintro e w3 ⟨rfl, rfl⟩) | (go_at_call 14; refine k6.mono ?_; rintro e w3 ⟨rfl, rfl⟩) | (go_at_call 15; refine k7.mono ?_; rintro e w3 ⟨rfl, rfl⟩) | (go_at_call 6; refine k8.mono ?_; rintro e w3 ⟨rfl, hb4⟩))
  go_ret
  exact ⟨rfl, bl_call hb3 hb4⟩
end Go.Proofs.Ytbjdiikjnlgmiaa
