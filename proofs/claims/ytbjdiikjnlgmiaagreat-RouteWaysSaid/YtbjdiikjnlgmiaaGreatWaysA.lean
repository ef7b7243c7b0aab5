/- The document's map: may a link be, which link leads from node to node. -/
import Derived.Test.YtbjdiikjnlgmiaaGreatTopoC
namespace Go.Proofs.YtbjdiikjnlgmiaaGreat
open Go.RowKit Go.Shelf

/-- May a link be, by the document. -/
def rightB (n : Int) (L : Lnk) : Bool :=
  !(decide (L.src < 0) || decide (L.src ≥ n) || decide (L.dst < 0) || decide (L.dst ≥ n) || L.src == L.dst || decide (n > 16)) &&
  (decide (L.rate ≥ 1) && decide (L.rate ≤ 1000000) && decide (L.share ≥ 0) && decide (L.share ≤ L.rate) && decide (L.far ≥ 0) && decide (L.far ≤ 1000) && decide (L.most ≥ 1) && decide (L.most ≤ 2000) && decide (L.room ≥ 0) && decide (L.room ≤ 1000000000) && decide (L.fifo ≥ 0) && decide (L.fifo ≤ 1000000))

theorem right_bad {n : Int} {L : Lnk} (h1 : 1 ≤ n) (h2 : n ≤ 16) : linkBad n L = !rightB n L := by
  unfold linkBad flaw1 flaw2 flaw3 flaw4 wi rightB
  rw [Bool.eq_iff_iff]
  simp only [Bool.or_eq_true, Bool.and_eq_true, Bool.not_eq_true', Bool.not_eq_false', decide_eq_true_eq, decide_eq_false_iff_not, Bool.and_eq_false_iff, Bool.or_eq_false_iff, beq_iff_eq, Bool.not_eq_eq_eq_not, Bool.not_true, Bool.not_false]
  omega

set_option maxRecDepth 100000 in
set_option maxHeartbeats 1000000 in
theorem right_0 (n : Int) (L : Lnk) (w : World) (g0 : L.src < 0) :
    Calls Tryz.prog 25 #[.agg L.arr, .int .i64 n] w fun e w' => e = .returned (.bool false) ∧ Below w.heap.size w w' := by
  have hb : Below w.heap.size w (w.alloc (.cells L.arr 51)) := bl_alloc (Below.refl _ _) _
  unfold Lnk.arr at hb ⊢
  go_enter Tryz.func25, Tryz.ntmps25
  go_wp2
  go_ret
  exact ⟨rfl, hb⟩

set_option maxRecDepth 100000 in
set_option maxHeartbeats 1000000 in
theorem right_1 (n : Int) (L : Lnk) (w : World) (g0 : 0 ≤ L.src) (g1 : L.src ≥ n) :
    Calls Tryz.prog 25 #[.agg L.arr, .int .i64 n] w fun e w' => e = .returned (.bool false) ∧ Below w.heap.size w w' := by
  have hb : Below w.heap.size w (w.alloc (.cells L.arr 51)) := bl_alloc (Below.refl _ _) _
  unfold Lnk.arr at hb ⊢
  go_enter Tryz.func25, Tryz.ntmps25
  go_wp2
  go_ret
  exact ⟨rfl, hb⟩

set_option maxRecDepth 100000 in
set_option maxHeartbeats 1000000 in
theorem right_2 (n : Int) (L : Lnk) (w : World) (g0 : 0 ≤ L.src) (g1 : L.src < n) (g2 : L.dst < 0) :
    Calls Tryz.prog 25 #[.agg L.arr, .int .i64 n] w fun e w' => e = .returned (.bool false) ∧ Below w.heap.size w w' := by
  have hb : Below w.heap.size w (w.alloc (.cells L.arr 51)) := bl_alloc (Below.refl _ _) _
  unfold Lnk.arr at hb ⊢
  go_enter Tryz.func25, Tryz.ntmps25
  go_wp2
  go_ret
  exact ⟨rfl, hb⟩

set_option maxRecDepth 100000 in
set_option maxHeartbeats 1000000 in
theorem right_3 (n : Int) (L : Lnk) (w : World) (g0 : 0 ≤ L.src) (g1 : L.src < n) (g2 : 0 ≤ L.dst) (g3 : L.dst ≥ n) :
    Calls Tryz.prog 25 #[.agg L.arr, .int .i64 n] w fun e w' => e = .returned (.bool false) ∧ Below w.heap.size w w' := by
  have hb : Below w.heap.size w (w.alloc (.cells L.arr 51)) := bl_alloc (Below.refl _ _) _
  unfold Lnk.arr at hb ⊢
  go_enter Tryz.func25, Tryz.ntmps25
  go_wp2
  go_ret
  exact ⟨rfl, hb⟩

set_option maxRecDepth 100000 in
set_option maxHeartbeats 1000000 in
theorem right_4 (n : Int) (L : Lnk) (w : World) (g0 : 0 ≤ L.src) (g1 : L.src < n) (g2 : 0 ≤ L.dst) (g3 : L.dst < n) (g4 : L.src = L.dst) :
    Calls Tryz.prog 25 #[.agg L.arr, .int .i64 n] w fun e w' => e = .returned (.bool false) ∧ Below w.heap.size w w' := by
  have ge : (L.src == L.dst) = true := beq_iff_eq.2 g4
  clear g4
  have hb : Below w.heap.size w (w.alloc (.cells L.arr 51)) := bl_alloc (Below.refl _ _) _
  unfold Lnk.arr at hb ⊢
  go_enter Tryz.func25, Tryz.ntmps25
  go_wp2
  go_ret
  exact ⟨rfl, hb⟩

set_option maxRecDepth 100000 in
set_option maxHeartbeats 1000000 in
theorem right_5 (n : Int) (L : Lnk) (w : World) (g0 : 0 ≤ L.src) (g1 : L.src < n) (g2 : 0 ≤ L.dst) (g3 : L.dst < n) (g4 : L.src ≠ L.dst) (g5 : n > 16) :
    Calls Tryz.prog 25 #[.agg L.arr, .int .i64 n] w fun e w' => e = .returned (.bool false) ∧ Below w.heap.size w w' := by
  have ge : (L.src == L.dst) = false := beq_eq_false_iff_ne.2 g4
  have hb : Below w.heap.size w (w.alloc (.cells L.arr 51)) := bl_alloc (Below.refl _ _) _
  unfold Lnk.arr at hb ⊢
  go_enter Tryz.func25, Tryz.ntmps25
  go_wp2
  go_ret
  exact ⟨rfl, hb⟩

set_option maxRecDepth 100000 in
set_option maxHeartbeats 1000000 in
theorem right_6 (n : Int) (L : Lnk) (w : World) (g0 : 0 ≤ L.src) (g1 : L.src < n) (g2 : 0 ≤ L.dst) (g3 : L.dst < n) (g4 : L.src ≠ L.dst) (g5 : n ≤ 16) (g6 : L.rate < 1) :
    Calls Tryz.prog 25 #[.agg L.arr, .int .i64 n] w fun e w' => e = .returned (.bool false) ∧ Below w.heap.size w w' := by
  have ge : (L.src == L.dst) = false := beq_eq_false_iff_ne.2 g4
  have hb : Below w.heap.size w (w.alloc (.cells L.arr 51)) := bl_alloc (Below.refl _ _) _
  unfold Lnk.arr at hb ⊢
  go_enter Tryz.func25, Tryz.ntmps25
  go_wp2
  go_ret
  exact ⟨rfl, hb⟩

set_option maxRecDepth 100000 in
set_option maxHeartbeats 1000000 in
theorem right_7 (n : Int) (L : Lnk) (w : World) (g0 : 0 ≤ L.src) (g1 : L.src < n) (g2 : 0 ≤ L.dst) (g3 : L.dst < n) (g4 : L.src ≠ L.dst) (g5 : n ≤ 16) (g6 : L.rate ≥ 1) (g7 : 1000000 < L.rate) :
    Calls Tryz.prog 25 #[.agg L.arr, .int .i64 n] w fun e w' => e = .returned (.bool false) ∧ Below w.heap.size w w' := by
  have ge : (L.src == L.dst) = false := beq_eq_false_iff_ne.2 g4
  have hb : Below w.heap.size w (w.alloc (.cells L.arr 51)) := bl_alloc (Below.refl _ _) _
  unfold Lnk.arr at hb ⊢
  go_enter Tryz.func25, Tryz.ntmps25
  go_wp2
  go_ret
  exact ⟨rfl, hb⟩

set_option maxRecDepth 100000 in
set_option maxHeartbeats 1000000 in
theorem right_8 (n : Int) (L : Lnk) (w : World) (g0 : 0 ≤ L.src) (g1 : L.src < n) (g2 : 0 ≤ L.dst) (g3 : L.dst < n) (g4 : L.src ≠ L.dst) (g5 : n ≤ 16) (g6 : L.rate ≥ 1) (g7 : L.rate ≤ 1000000) (g8 : L.share < 0) :
    Calls Tryz.prog 25 #[.agg L.arr, .int .i64 n] w fun e w' => e = .returned (.bool false) ∧ Below w.heap.size w w' := by
  have ge : (L.src == L.dst) = false := beq_eq_false_iff_ne.2 g4
  have hb : Below w.heap.size w (w.alloc (.cells L.arr 51)) := bl_alloc (Below.refl _ _) _
  unfold Lnk.arr at hb ⊢
  go_enter Tryz.func25, Tryz.ntmps25
  go_wp2
  go_ret
  exact ⟨rfl, hb⟩

set_option maxRecDepth 100000 in
set_option maxHeartbeats 1000000 in
theorem right_9 (n : Int) (L : Lnk) (w : World) (g0 : 0 ≤ L.src) (g1 : L.src < n) (g2 : 0 ≤ L.dst) (g3 : L.dst < n) (g4 : L.src ≠ L.dst) (g5 : n ≤ 16) (g6 : L.rate ≥ 1) (g7 : L.rate ≤ 1000000) (g8 : L.share ≥ 0) (g9 : L.rate < L.share) :
    Calls Tryz.prog 25 #[.agg L.arr, .int .i64 n] w fun e w' => e = .returned (.bool false) ∧ Below w.heap.size w w' := by
  have ge : (L.src == L.dst) = false := beq_eq_false_iff_ne.2 g4
  have hb : Below w.heap.size w (w.alloc (.cells L.arr 51)) := bl_alloc (Below.refl _ _) _
  unfold Lnk.arr at hb ⊢
  go_enter Tryz.func25, Tryz.ntmps25
  go_wp2
  go_ret
  exact ⟨rfl, hb⟩

set_option maxRecDepth 100000 in
set_option maxHeartbeats 1000000 in
theorem right_10 (n : Int) (L : Lnk) (w : World) (g0 : 0 ≤ L.src) (g1 : L.src < n) (g2 : 0 ≤ L.dst) (g3 : L.dst < n) (g4 : L.src ≠ L.dst) (g5 : n ≤ 16) (g6 : L.rate ≥ 1) (g7 : L.rate ≤ 1000000) (g8 : L.share ≥ 0) (g9 : L.share ≤ L.rate) (g10 : L.far < 0) :
    Calls Tryz.prog 25 #[.agg L.arr, .int .i64 n] w fun e w' => e = .returned (.bool false) ∧ Below w.heap.size w w' := by
  have ge : (L.src == L.dst) = false := beq_eq_false_iff_ne.2 g4
  have hb : Below w.heap.size w (w.alloc (.cells L.arr 51)) := bl_alloc (Below.refl _ _) _
  unfold Lnk.arr at hb ⊢
  go_enter Tryz.func25, Tryz.ntmps25
  go_wp2
  go_ret
  exact ⟨rfl, hb⟩

set_option maxRecDepth 100000 in
set_option maxHeartbeats 1000000 in
theorem right_11 (n : Int) (L : Lnk) (w : World) (g0 : 0 ≤ L.src) (g1 : L.src < n) (g2 : 0 ≤ L.dst) (g3 : L.dst < n) (g4 : L.src ≠ L.dst) (g5 : n ≤ 16) (g6 : L.rate ≥ 1) (g7 : L.rate ≤ 1000000) (g8 : L.share ≥ 0) (g9 : L.share ≤ L.rate) (g10 : L.far ≥ 0) (g11 : 1000 < L.far) :
    Calls Tryz.prog 25 #[.agg L.arr, .int .i64 n] w fun e w' => e = .returned (.bool false) ∧ Below w.heap.size w w' := by
  have ge : (L.src == L.dst) = false := beq_eq_false_iff_ne.2 g4
  have hb : Below w.heap.size w (w.alloc (.cells L.arr 51)) := bl_alloc (Below.refl _ _) _
  unfold Lnk.arr at hb ⊢
  go_enter Tryz.func25, Tryz.ntmps25
  go_wp2
  go_ret
  exact ⟨rfl, hb⟩

set_option maxRecDepth 100000 in
set_option maxHeartbeats 1000000 in
theorem right_12 (n : Int) (L : Lnk) (w : World) (g0 : 0 ≤ L.src) (g1 : L.src < n) (g2 : 0 ≤ L.dst) (g3 : L.dst < n) (g4 : L.src ≠ L.dst) (g5 : n ≤ 16) (g6 : L.rate ≥ 1) (g7 : L.rate ≤ 1000000) (g8 : L.share ≥ 0) (g9 : L.share ≤ L.rate) (g10 : L.far ≥ 0) (g11 : L.far ≤ 1000) (g12 : L.most < 1) :
    Calls Tryz.prog 25 #[.agg L.arr, .int .i64 n] w fun e w' => e = .returned (.bool false) ∧ Below w.heap.size w w' := by
  have ge : (L.src == L.dst) = false := beq_eq_false_iff_ne.2 g4
  have hb : Below w.heap.size w (w.alloc (.cells L.arr 51)) := bl_alloc (Below.refl _ _) _
  unfold Lnk.arr at hb ⊢
  go_enter Tryz.func25, Tryz.ntmps25
  go_wp2
  go_ret
  exact ⟨rfl, hb⟩

set_option maxRecDepth 100000 in
set_option maxHeartbeats 1000000 in
theorem right_13 (n : Int) (L : Lnk) (w : World) (g0 : 0 ≤ L.src) (g1 : L.src < n) (g2 : 0 ≤ L.dst) (g3 : L.dst < n) (g4 : L.src ≠ L.dst) (g5 : n ≤ 16) (g6 : L.rate ≥ 1) (g7 : L.rate ≤ 1000000) (g8 : L.share ≥ 0) (g9 : L.share ≤ L.rate) (g10 : L.far ≥ 0) (g11 : L.far ≤ 1000) (g12 : L.most ≥ 1) (g13 : 2000 < L.most) :
    Calls Tryz.prog 25 #[.agg L.arr, .int .i64 n] w fun e w' => e = .returned (.bool false) ∧ Below w.heap.size w w' := by
  have ge : (L.src == L.dst) = false := beq_eq_false_iff_ne.2 g4
  have hb : Below w.heap.size w (w.alloc (.cells L.arr 51)) := bl_alloc (Below.refl _ _) _
  unfold Lnk.arr at hb ⊢
  go_enter Tryz.func25, Tryz.ntmps25
  go_wp2
  go_ret
  exact ⟨rfl, hb⟩

set_option maxRecDepth 100000 in
set_option maxHeartbeats 1000000 in
theorem right_14 (n : Int) (L : Lnk) (w : World) (g0 : 0 ≤ L.src) (g1 : L.src < n) (g2 : 0 ≤ L.dst) (g3 : L.dst < n) (g4 : L.src ≠ L.dst) (g5 : n ≤ 16) (g6 : L.rate ≥ 1) (g7 : L.rate ≤ 1000000) (g8 : L.share ≥ 0) (g9 : L.share ≤ L.rate) (g10 : L.far ≥ 0) (g11 : L.far ≤ 1000) (g12 : L.most ≥ 1) (g13 : L.most ≤ 2000) (g14 : L.room < 0) :
    Calls Tryz.prog 25 #[.agg L.arr, .int .i64 n] w fun e w' => e = .returned (.bool false) ∧ Below w.heap.size w w' := by
  have ge : (L.src == L.dst) = false := beq_eq_false_iff_ne.2 g4
  have hb : Below w.heap.size w (w.alloc (.cells L.arr 51)) := bl_alloc (Below.refl _ _) _
  unfold Lnk.arr at hb ⊢
  go_enter Tryz.func25, Tryz.ntmps25
  go_wp2
  go_ret
  exact ⟨rfl, hb⟩

set_option maxRecDepth 100000 in
set_option maxHeartbeats 1000000 in
theorem right_15 (n : Int) (L : Lnk) (w : World) (g0 : 0 ≤ L.src) (g1 : L.src < n) (g2 : 0 ≤ L.dst) (g3 : L.dst < n) (g4 : L.src ≠ L.dst) (g5 : n ≤ 16) (g6 : L.rate ≥ 1) (g7 : L.rate ≤ 1000000) (g8 : L.share ≥ 0) (g9 : L.share ≤ L.rate) (g10 : L.far ≥ 0) (g11 : L.far ≤ 1000) (g12 : L.most ≥ 1) (g13 : L.most ≤ 2000) (g14 : L.room ≥ 0) (g15 : 1000000000 < L.room) :
    Calls Tryz.prog 25 #[.agg L.arr, .int .i64 n] w fun e w' => e = .returned (.bool false) ∧ Below w.heap.size w w' := by
  have ge : (L.src == L.dst) = false := beq_eq_false_iff_ne.2 g4
  have hb : Below w.heap.size w (w.alloc (.cells L.arr 51)) := bl_alloc (Below.refl _ _) _
  unfold Lnk.arr at hb ⊢
  go_enter Tryz.func25, Tryz.ntmps25
  go_wp2
  go_ret
  exact ⟨rfl, hb⟩

set_option maxRecDepth 100000 in
set_option maxHeartbeats 1000000 in
theorem right_16 (n : Int) (L : Lnk) (w : World) (g0 : 0 ≤ L.src) (g1 : L.src < n) (g2 : 0 ≤ L.dst) (g3 : L.dst < n) (g4 : L.src ≠ L.dst) (g5 : n ≤ 16) (g6 : L.rate ≥ 1) (g7 : L.rate ≤ 1000000) (g8 : L.share ≥ 0) (g9 : L.share ≤ L.rate) (g10 : L.far ≥ 0) (g11 : L.far ≤ 1000) (g12 : L.most ≥ 1) (g13 : L.most ≤ 2000) (g14 : L.room ≥ 0) (g15 : L.room ≤ 1000000000) (g16 : L.fifo < 0) :
    Calls Tryz.prog 25 #[.agg L.arr, .int .i64 n] w fun e w' => e = .returned (.bool false) ∧ Below w.heap.size w w' := by
  have ge : (L.src == L.dst) = false := beq_eq_false_iff_ne.2 g4
  have hb : Below w.heap.size w (w.alloc (.cells L.arr 51)) := bl_alloc (Below.refl _ _) _
  unfold Lnk.arr at hb ⊢
  go_enter Tryz.func25, Tryz.ntmps25
  go_wp2
  go_ret
  exact ⟨rfl, hb⟩

set_option maxRecDepth 100000 in
set_option maxHeartbeats 1000000 in
theorem right_17 (n : Int) (L : Lnk) (w : World) (g0 : 0 ≤ L.src) (g1 : L.src < n) (g2 : 0 ≤ L.dst) (g3 : L.dst < n) (g4 : L.src ≠ L.dst) (g5 : n ≤ 16) (g6 : L.rate ≥ 1) (g7 : L.rate ≤ 1000000) (g8 : L.share ≥ 0) (g9 : L.share ≤ L.rate) (g10 : L.far ≥ 0) (g11 : L.far ≤ 1000) (g12 : L.most ≥ 1) (g13 : L.most ≤ 2000) (g14 : L.room ≥ 0) (g15 : L.room ≤ 1000000000) (g16 : L.fifo ≥ 0) (g17 : 1000000 < L.fifo) :
    Calls Tryz.prog 25 #[.agg L.arr, .int .i64 n] w fun e w' => e = .returned (.bool false) ∧ Below w.heap.size w w' := by
  have ge : (L.src == L.dst) = false := beq_eq_false_iff_ne.2 g4
  have hb : Below w.heap.size w (w.alloc (.cells L.arr 51)) := bl_alloc (Below.refl _ _) _
  unfold Lnk.arr at hb ⊢
  go_enter Tryz.func25, Tryz.ntmps25
  go_wp2
  go_ret
  refine ⟨?_, hb⟩
  show Ending.returned (Value.bool (decide (L.fifo ≤ 1000000))) = _
  rw [decide_eq_false (by omega)]

set_option maxRecDepth 100000 in
set_option maxHeartbeats 1000000 in
theorem right_18 (n : Int) (L : Lnk) (w : World) (g0 : 0 ≤ L.src) (g1 : L.src < n) (g2 : 0 ≤ L.dst) (g3 : L.dst < n) (g4 : L.src ≠ L.dst) (g5 : n ≤ 16) (g6 : L.rate ≥ 1) (g7 : L.rate ≤ 1000000) (g8 : L.share ≥ 0) (g9 : L.share ≤ L.rate) (g10 : L.far ≥ 0) (g11 : L.far ≤ 1000) (g12 : L.most ≥ 1) (g13 : L.most ≤ 2000) (g14 : L.room ≥ 0) (g15 : L.room ≤ 1000000000) (g16 : L.fifo ≥ 0) (g17 : L.fifo ≤ 1000000) :
    Calls Tryz.prog 25 #[.agg L.arr, .int .i64 n] w fun e w' => e = .returned (.bool true) ∧ Below w.heap.size w w' := by
  have ge : (L.src == L.dst) = false := beq_eq_false_iff_ne.2 g4
  have hb : Below w.heap.size w (w.alloc (.cells L.arr 51)) := bl_alloc (Below.refl _ _) _
  unfold Lnk.arr at hb ⊢
  go_enter Tryz.func25, Tryz.ntmps25
  go_wp2
  go_ret
  exact ⟨rfl, hb⟩

theorem refRight_c (n : Int) (L : Lnk) (w : World) : Calls Tryz.prog 25 #[.agg L.arr, .int .i64 n] w fun e w' => e = .returned (.bool (rightB n L)) ∧ Below w.heap.size w w' := by
  by_cases g0 : L.src < 0
  · have h : rightB n L = false := by unfold rightB; simp only [Bool.and_eq_false_iff, Bool.not_eq_false', Bool.or_eq_true, decide_eq_true_eq, decide_eq_false_iff_not, beq_iff_eq]; omega
    rw [h]
    exact right_0 n L w g0
  by_cases g1 : L.src ≥ n
  · have h : rightB n L = false := by unfold rightB; simp only [Bool.and_eq_false_iff, Bool.not_eq_false', Bool.or_eq_true, decide_eq_true_eq, decide_eq_false_iff_not, beq_iff_eq]; omega
    rw [h]
    exact right_1 n L w (by omega) g1
  by_cases g2 : L.dst < 0
  · have h : rightB n L = false := by unfold rightB; simp only [Bool.and_eq_false_iff, Bool.not_eq_false', Bool.or_eq_true, decide_eq_true_eq, decide_eq_false_iff_not, beq_iff_eq]; omega
    rw [h]
    exact right_2 n L w (by omega) (by omega) g2
  by_cases g3 : L.dst ≥ n
  · have h : rightB n L = false := by unfold rightB; simp only [Bool.and_eq_false_iff, Bool.not_eq_false', Bool.or_eq_true, decide_eq_true_eq, decide_eq_false_iff_not, beq_iff_eq]; omega
    rw [h]
    exact right_3 n L w (by omega) (by omega) (by omega) g3
  by_cases g4 : L.src = L.dst
  · have h : rightB n L = false := by unfold rightB; simp only [Bool.and_eq_false_iff, Bool.not_eq_false', Bool.or_eq_true, decide_eq_true_eq, decide_eq_false_iff_not, beq_iff_eq]; omega
    rw [h]
    exact right_4 n L w (by omega) (by omega) (by omega) (by omega) g4
  by_cases g5 : n > 16
  · have h : rightB n L = false := by unfold rightB; simp only [Bool.and_eq_false_iff, Bool.not_eq_false', Bool.or_eq_true, decide_eq_true_eq, decide_eq_false_iff_not, beq_iff_eq]; omega
    rw [h]
    exact right_5 n L w (by omega) (by omega) (by omega) (by omega) (by omega) g5
  by_cases g6 : L.rate < 1
  · have h : rightB n L = false := by unfold rightB; simp only [Bool.and_eq_false_iff, Bool.not_eq_false', Bool.or_eq_true, decide_eq_true_eq, decide_eq_false_iff_not, beq_iff_eq]; omega
    rw [h]
    exact right_6 n L w (by omega) (by omega) (by omega) (by omega) (by omega) (by omega) g6
  by_cases g7 : 1000000 < L.rate
  · have h : rightB n L = false := by unfold rightB; simp only [Bool.and_eq_false_iff, Bool.not_eq_false', Bool.or_eq_true, decide_eq_true_eq, decide_eq_false_iff_not, beq_iff_eq]; omega
    rw [h]
    exact right_7 n L w (by omega) (by omega) (by omega) (by omega) (by omega) (by omega) (by omega) g7
  by_cases g8 : L.share < 0
  · have h : rightB n L = false := by unfold rightB; simp only [Bool.and_eq_false_iff, Bool.not_eq_false', Bool.or_eq_true, decide_eq_true_eq, decide_eq_false_iff_not, beq_iff_eq]; omega
    rw [h]
    exact right_8 n L w (by omega) (by omega) (by omega) (by omega) (by omega) (by omega) (by omega) (by omega) g8
  by_cases g9 : L.rate < L.share
  · have h : rightB n L = false := by unfold rightB; simp only [Bool.and_eq_false_iff, Bool.not_eq_false', Bool.or_eq_true, decide_eq_true_eq, decide_eq_false_iff_not, beq_iff_eq]; omega
    rw [h]
    exact right_9 n L w (by omega) (by omega) (by omega) (by omega) (by omega) (by omega) (by omega) (by omega) (by omega) g9
  by_cases g10 : L.far < 0
  · have h : rightB n L = false := by unfold rightB; simp only [Bool.and_eq_false_iff, Bool.not_eq_false', Bool.or_eq_true, decide_eq_true_eq, decide_eq_false_iff_not, beq_iff_eq]; omega
    rw [h]
    exact right_10 n L w (by omega) (by omega) (by omega) (by omega) (by omega) (by omega) (by omega) (by omega) (by omega) (by omega) g10
  by_cases g11 : 1000 < L.far
  · have h : rightB n L = false := by unfold rightB; simp only [Bool.and_eq_false_iff, Bool.not_eq_false', Bool.or_eq_true, decide_eq_true_eq, decide_eq_false_iff_not, beq_iff_eq]; omega
    rw [h]
    exact right_11 n L w (by omega) (by omega) (by omega) (by omega) (by omega) (by omega) (by omega) (by omega) (by omega) (by omega) (by omega) g11
  by_cases g12 : L.most < 1
  · have h : rightB n L = false := by unfold rightB; simp only [Bool.and_eq_false_iff, Bool.not_eq_false', Bool.or_eq_true, decide_eq_true_eq, decide_eq_false_iff_not, beq_iff_eq]; omega
    rw [h]
    exact right_12 n L w (by omega) (by omega) (by omega) (by omega) (by omega) (by omega) (by omega) (by omega) (by omega) (by omega) (by omega) (by omega) g12
  by_cases g13 : 2000 < L.most
  · have h : rightB n L = false := by unfold rightB; simp only [Bool.and_eq_false_iff, Bool.not_eq_false', Bool.or_eq_true, decide_eq_true_eq, decide_eq_false_iff_not, beq_iff_eq]; omega
    rw [h]
    exact right_13 n L w (by omega) (by omega) (by omega) (by omega) (by omega) (by omega) (by omega) (by omega) (by omega) (by omega) (by omega) (by omega) (by omega) g13
  by_cases g14 : L.room < 0
  · have h : rightB n L = false := by unfold rightB; simp only [Bool.and_eq_false_iff, Bool.not_eq_false', Bool.or_eq_true, decide_eq_true_eq, decide_eq_false_iff_not, beq_iff_eq]; omega
    rw [h]
    exact right_14 n L w (by omega) (by omega) (by omega) (by omega) (by omega) (by omega) (by omega) (by omega) (by omega) (by omega) (by omega) (by omega) (by omega) (by omega) g14
  by_cases g15 : 1000000000 < L.room
  · have h : rightB n L = false := by unfold rightB; simp only [Bool.and_eq_false_iff, Bool.not_eq_false', Bool.or_eq_true, decide_eq_true_eq, decide_eq_false_iff_not, beq_iff_eq]; omega
    rw [h]
    exact right_15 n L w (by omega) (by omega) (by omega) (by omega) (by omega) (by omega) (by omega) (by omega) (by omega) (by omega) (by omega) (by omega) (by omega) (by omega) (by omega) g15
  by_cases g16 : L.fifo < 0
  · have h : rightB n L = false := by unfold rightB; simp only [Bool.and_eq_false_iff, Bool.not_eq_false', Bool.or_eq_true, decide_eq_true_eq, decide_eq_false_iff_not, beq_iff_eq]; omega
    rw [h]
    exact right_16 n L w (by omega) (by omega) (by omega) (by omega) (by omega) (by omega) (by omega) (by omega) (by omega) (by omega) (by omega) (by omega) (by omega) (by omega) (by omega) (by omega) g16
  by_cases g17 : 1000000 < L.fifo
  · have h : rightB n L = false := by unfold rightB; simp only [Bool.and_eq_false_iff, Bool.not_eq_false', Bool.or_eq_true, decide_eq_true_eq, decide_eq_false_iff_not, beq_iff_eq]; omega
    rw [h]
    exact right_17 n L w (by omega) (by omega) (by omega) (by omega) (by omega) (by omega) (by omega) (by omega) (by omega) (by omega) (by omega) (by omega) (by omega) (by omega) (by omega) (by omega) (by omega) g17
  have h : rightB n L = true := by unfold rightB; simp only [Bool.and_eq_true, Bool.not_eq_true', Bool.or_eq_false_iff, decide_eq_true_eq, decide_eq_false_iff_not, beq_eq_false_iff_ne, ne_eq]; omega
  rw [h]
  exact right_18 n L w (by omega) (by omega) (by omega) (by omega) (by omega) (by omega) (by omega) (by omega) (by omega) (by omega) (by omega) (by omega) (by omega) (by omega) (by omega) (by omega) (by omega) (by omega)
end Go.Proofs.YtbjdiikjnlgmiaaGreat
