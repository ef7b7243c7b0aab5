/- The first of a node's links of which a function says yes. -/
import Derived.Test.YtbjdiikjnlgmiaaGreatRouteC
namespace Go.Proofs.YtbjdiikjnlgmiaaGreat
open Go.RowKit Go.Shelf

attribute [local go_sem] Oper.semAt_some

theorem kc_t {A B C : World} (h : Kc A B) (k : Kc B C) : Kc A C := fun p v hp => k p v (h p v hp)
theorem kc_b (w W : World) (l : Nat) (o o' : Obj) (_ : w.heap.size ≤ l) (h : W.heap[l]? = some o) (hc : o.isCells = false) (_ : o.isWalk = false) : Kc W (W.putObj l o') :=
  fun _ _ hp => cell_kept hp (grownBy_putObj' W l o') (fun r e => by cases e; exact ⟨_, h, hc⟩)
theorem kc_below {W W' : World} (h : Below W.heap.size W W') : Kc W W' := fun p _ hp => (h.cell (World.block_lt_of_cell? _ _ hp)).trans hp
theorem grown_below {W W' : World} (h : Below W.heap.size W W') : W.grownBy W' none := ⟨h.os, h.tape, h.output, h.size, fun k hk _ => h.block k hk⟩
theorem others_below {W W' : World} (h : Below W.heap.size W W') : KeepsOthers W W' := KeepsOthers.of_grownBy (grown_below h) (fun _ _ e => by cases e)

theorem out1_stops (n : Nat) (bm bn p : Nat) (nodes : Int) (ls : List Lnk) (node : Int) (hsort : SortC ls node) (w : World)
    (hm : MapSt w p nodes ls) (c1 : w.cell? ⟨bm, 0, none⟩ = some (.pointer (some ⟨p, 0, none⟩))) (c2 : w.cell? ⟨bn, 0, none⟩ = some (.int .i64 node)) :
    SeqStopsK Fence.wide n Tryz.prog 68 #[.pointer (some ⟨bm, 0, none⟩), .pointer (some ⟨bn, 0, none⟩)] (fun x : OutI ls node => #[Value.int .i64 x.1]) Kc (fun ys => ys = outList ls node) (fun pre => pre <+: outList ls node) ls.length w :=
  fun l J Jx W hW hJ _ hY h0 => callsIn_wide.2 (out1_in n l bm bn p nodes ls node hsort J Jx W hJ (hm.below hW) ((hW.cell (World.block_lt_of_cell? _ _ c1)).trans c1) ((hW.cell (World.block_lt_of_cell? _ _ c2)).trans c2) hY h0)

def found {ls : List Lnk} {node : Int} (q : OutI ls node → Bool) (l : List (OutI ls node)) : Int × Bool :=
  match l.find? q with
  | some x => ((x.1 : Nat), true)
  | none => (0, false)

theorem found_no {ls : List Lnk} {node : Int} {q : OutI ls node → Bool} {l : List (OutI ls node)} (h : ∀ y ∈ l, q y = false) : found q l = (0, false) := by
  have : l.find? q = none := List.find?_eq_none.2 fun y hy => by rw [h y hy]; simp
  unfold found
  rw [this]
theorem found_yes {ls : List Lnk} {node : Int} {q : OutI ls node → Bool} {l pr : List (OutI ls node)} {x : OutI ls node} (h : ∀ y ∈ pr, q y = false) (hx : q x = true) (hp : pr ++ [x] <+: l) : found q l = (((x.1 : Nat) : Int), true) := by
  obtain ⟨r, rfl⟩ := hp
  have : (pr ++ [x] ++ r).find? q = some x := by
    rw [List.append_assoc, List.find?_append, List.find?_eq_none.2 fun y hy => by rw [h y hy]; simp]
    simp [hx]
  unfold found
  rw [this]

theorem three_new (w : World) (t1 t2 t3 : TypeId) (a1 a2 a3 : Array Value) : Blk (((w.alloc (.cells a1 t1)).alloc (.cells a2 t2)).alloc (.cells a3 t3)) w.heap.size t1 a1 ∧ Blk (((w.alloc (.cells a1 t1)).alloc (.cells a2 t2)).alloc (.cells a3 t3)) (w.heap.size + 1) t2 a2 ∧
    Blk (((w.alloc (.cells a1 t1)).alloc (.cells a2 t2)).alloc (.cells a3 t3)) (w.heap.size + 1 + 1) t3 a3 := by
  have h2 := Blk.new (w.alloc (.cells a1 t1)) t2 a2
  have h3 := Blk.new ((w.alloc (.cells a1 t1)).alloc (.cells a2 t2)) t3 a3
  simp only [World.size_alloc] at h2 h3
  exact ⟨((Blk.new w t1 a1).below ((Below.refl (w.heap.size + 1) _).alloc (by simp) _) (by omega)).below (((Below.refl (w.heap.size + 1) _).alloc (by simp) _)) (by omega), h2.below ((Below.refl (w.heap.size + 1 + 1) _).alloc (by simp) _) (by omega), h3⟩

set_option maxRecDepth 100000 in
set_option maxHeartbeats 2000000 in
theorem first_c (bm bn p : Nat) (nodes : Int) (ls : List Lnk) (node : Int) (hsort : SortC ls node) (v1 v2 v3 : Value) (q : OutI ls node → Bool) (w : World)
    (hm : MapSt w p nodes ls) (c1 : w.cell? ⟨bm, 0, none⟩ = some (.pointer (some ⟨p, 0, none⟩))) (c2 : w.cell? ⟨bn, 0, none⟩ = some (.int .i64 node))
    (hq : ∀ (x : OutI ls node) W, Below w.heap.size w W → Calls Tryz.prog 59 #[.int .i64 x.1, v1, v2, v3] W fun e w' => e = .returned (.bool (q x)) ∧ Below W.heap.size W w') :
    Calls Tryz.prog 60 #[.func (.func 68) #[] #[.pointer (some ⟨bm, 0, none⟩), .pointer (some ⟨bn, 0, none⟩)], .func (.func 59) #[] #[v1, v2, v3]] w fun e w' =>
      e = .returned (.tuple #[.int .i64 (found q (outList ls node)).1, .bool (found q (outList ls node)).2]) ∧ Below w.heap.size w w' := by
  have hHQ := Lib.hid hq
  refine (callsIn_wide (n := 3)).1 ?_
  refine callsIn_of_wp_marks Tryz.func60 rfl trivial ?_ rfl
  simp only [Tryz.ntmps60, List.size_toArray, List.length_cons, List.length_nil, Nat.reduceAdd, Nat.reduceSub, Array.replicate_succ, Array.replicate_zero, List.push_toArray, List.append_toArray, List.nil_append, List.cons_append]
  gi_wp2
  obtain ⟨w3, hw3⟩ : ∃ w3, w3 = ((w.alloc (.cells #[.func (.func 59) #[] #[v1, v2, v3]] 117)).alloc (.cells #[.int .i64 0] 3)).alloc (.cells #[.bool false] 4) := ⟨_, rfl⟩
  have hB0 : Below w.heap.size w w3 := by rw [hw3]; (repeat (first | exact Below.refl _ _ | refine bl_drew ?_ | refine bl_alloc ?_ _ | refine bl_drewN ?_ _))
  have hz3 : w3.heap.size = w.heap.size + 3 := by rw [hw3]; simp
  obtain ⟨b1, b2, b3⟩ := three_new w 117 3 4 #[.func (.func 59) #[] #[v1, v2, v3]] #[.int .i64 0] #[.bool false]
  rw [← hw3] at b1 b2 b3
  have e1 : w3.cell? ⟨w.heap.size, 0, none⟩ = some (.func (.func 59) #[] #[v1, v2, v3]) := b1.cell 0
  have e2 : w3.cell? ⟨w.heap.size + 1, 0, none⟩ = some (.int .i64 0) := b2.cell 0
  have e3 : w3.cell? ⟨w.heap.size + 1 + 1, 0, none⟩ = some (.bool false) := b3.cell 0
  have f2 : w3.frozen? ⟨w.heap.size + 1, 0, none⟩ = false := b2.frozen 0
  have f3 : w3.frozen? ⟨w.heap.size + 1 + 1, 0, none⟩ = false := b3.frozen 0
  clear b1 b2 b3
  rw [← hw3]
  clear hw3
  have hst := out1_stops (3 - 1) bm bn p nodes ls node hsort w3 (hm.below hB0) ((hB0.cell (World.block_lt_of_cell? _ _ c1)).trans c1) ((hB0.cell (World.block_lt_of_cell? _ _ c2)).trans c2)
  clear c1 c2 hm hq
  refine wpIn_rangeFunc_ownF rfl (by decide) (gf := 68) (lb := #[.pointer (some ⟨bm, 0, none⟩), .pointer (some ⟨bn, 0, none⟩)]) rfl trivial (enters_of Tryz.func68 (by kernel_rfl) rfl)
    hst kc_t (kc_b w3) (Below.refl _ _) (fun _ => rfl)
    (fun pre W => ((∀ y ∈ pre, q y = false) ∧ W.cell? ⟨w.heap.size, 0, none⟩ = some (.func (.func 59) #[] #[v1, v2, v3]) ∧ W.cell? ⟨w.heap.size + 1, 0, none⟩ = some (.int .i64 0) ∧ W.frozen? ⟨w.heap.size + 1, 0, none⟩ = false ∧
      W.cell? ⟨w.heap.size + 1 + 1, 0, none⟩ = some (.bool false) ∧ W.frozen? ⟨w.heap.size + 1 + 1, 0, none⟩ = false) ∧ Below w.heap.size w W)
    (fun c pre W => (c = .ret ∧ ∃ pr x, pre = pr ++ [x] ∧ (∀ y ∈ pr, q y = false) ∧ q x = true ∧ W.cell? ⟨w.heap.size + 1, 0, none⟩ = some (.int .i64 x.1) ∧ W.cell? ⟨w.heap.size + 1 + 1, 0, none⟩ = some (.bool true)) ∧ Below w.heap.size w W)
    (OwnFrom.and (Own.from (fun s A B row hs hg hr => ⟨hs.1, cell_kept hs.2.1 hg hr, cell_kept hs.2.2.1 hg hr, (frozen_kept hs.2.2.1 hg hr).trans hs.2.2.2.1, cell_kept hs.2.2.2.2.1 hg hr, (frozen_kept hs.2.2.2.2.1 hg hr).trans hs.2.2.2.2.2⟩) _) (ownFrom_below (Nat.le_refl _) (by omega)))
    (fun c => OwnFrom.and (Own.from (fun s A B row hs hg hr => ⟨hs.1, by obtain ⟨pr, x, h1, h2, h3, h4, h5⟩ := hs.2; exact ⟨pr, x, h1, h2, h3, cell_kept h4 hg hr, cell_kept h5 hg hr⟩⟩) _) (ownFrom_below (Nat.le_refl _) (by omega)))
    ⟨⟨by simp, e1, e2, f2, e3, f3⟩, hB0⟩
    (fun x => { tmps := #[.func (.func 68) #[] #[.pointer (some ⟨bm, 0, none⟩), .pointer (some ⟨bn, 0, none⟩)], .func (.func 59) #[] #[v1, v2, v3], undef, .pointer (some ⟨w.heap.size, 0, none⟩), .pointer (some ⟨w.heap.size + 1, 0, none⟩), .pointer (some ⟨w.heap.size + 1 + 1, 0, none⟩),
      .int .i64 x.1, undef, .func (.func 68) #[] #[.pointer (some ⟨bm, 0, none⟩), .pointer (some ⟨bn, 0, none⟩)], .int .i64 x.1, undef, undef, undef, undef, undef], defers := [] }) ?assign ?body ?done ?stop
  case assign =>
    intro l x W K hK
    gi_wp2
    exact hK
  case body =>
    rintro l pre x W ⟨⟨hp, g1, g2, k2, g3, k3⟩, hB⟩ _
    have kq := hHQ.out x W hB
    clear hst hHQ
    cases hqx : q x
    · rw [hqx] at kq
      have HQ := Lib.hid hqx
      clear hqx
      gi_wp2_with (refine ⟨trivial, ?_⟩; gi_at_call 59; refine (CallsIn.inRound l (callsIn_wide.2 kq)).mono ?_; rintro e w4 ⟨rfl, hb4⟩)
      exact ⟨others_below hb4, kc_below hb4, ⟨fun y hy => (List.mem_append.1 hy).elim (hp y) (fun e => by simp at e; subst e; exact HQ.out), kc_below hb4 _ _ g1, kc_below hb4 _ _ g2, (hb4.frozen (World.block_lt_of_cell? _ _ g2)).trans k2, kc_below hb4 _ _ g3, (hb4.frozen (World.block_lt_of_cell? _ _ g3)).trans k3⟩, below_call hB hb4 hB.size⟩
    · rw [hqx] at kq
      have HQ := Lib.hid hqx
      clear hqx
      have z1 := World.block_lt_of_cell? _ _ g2
      have z2 := World.block_lt_of_cell? _ _ g3
      dsimp only at z1 z2
      gi_wp2_with (refine ⟨trivial, ?_⟩; gi_at_call 59; refine (CallsIn.inRound l (callsIn_wide.2 kq)).mono ?_; rintro e w4 ⟨rfl, hb4⟩; obtain ⟨hcc, hff⟩ := bcell hb4)
      rename_i hb4 _ _
      have m2 := kc_below hb4 _ _ g2
      have m3 := kc_below hb4 _ _ g3
      exact ⟨(others_below hb4).trans ((KeepsOthers.setCell _ _ _).trans (KeepsOthers.setCell _ _ _)), ⟨rfl, pre, x, rfl, hp, HQ.out, (World.cell?_setCell_other _ _ _ _ (by simp)).trans (World.cell?_setCell_same _ _ _ m2), World.cell?_setCell_same _ _ _ ((World.cell?_setCell_other _ _ _ _ (by simp)).trans m3)⟩,
        ((below_call hB hb4 hB.size).setCell (p := ⟨w.heap.size + 1, 0, none⟩) (by simp) _).setCell (p := ⟨w.heap.size + 1 + 1, 0, none⟩) (by simp; omega) _⟩
  case done =>
    rintro D ys W hD rfl ⟨⟨hne, g1, g2, k2, g3, k3⟩, hB⟩ hK
    gi_wp2
    have hK' := ((KeepsOthers.setCell W ⟨w.heap.size + 1, 0, none⟩ (.int .i64 0)).trans (KeepsOthers.setCell (W.setCell ⟨w.heap.size + 1, 0, none⟩ (.int .i64 0)) ⟨w.heap.size + 1 + 1, 0, none⟩ (.bool false))).same D _ hK rfl
    refine ⟨by simp, .inl ⟨_, _, rfl, run_takeDeferred hK', ?_⟩⟩
    have m2 := World.cell?_setCell_same W ⟨w.heap.size + 1, 0, none⟩ (.int .i64 0) g2
    have m2' := (World.cell?_setCell_other (W.setCell ⟨w.heap.size + 1, 0, none⟩ (.int .i64 0)) ⟨w.heap.size + 1 + 1, 0, none⟩ ⟨w.heap.size + 1, 0, none⟩ (.bool false) (by simp)).trans m2
    have m3 := World.cell?_setCell_same (W.setCell ⟨w.heap.size + 1, 0, none⟩ (.int .i64 0)) ⟨w.heap.size + 1 + 1, 0, none⟩ (.bool false) ((World.cell?_setCell_other _ _ _ _ (by simp)).trans g3)
    have c2 := cell_kept m2' (grownBy_putObj' _ D (.deferred none)) (fun r e => by cases e; exact ⟨_, hK', rfl⟩)
    have c3 := cell_kept m3 (grownBy_putObj' _ D (.deferred none)) (fun r e => by cases e; exact ⟨_, hK', rfl⟩)
    refine ⟨.tuple #[.int .i64 0, .bool false], ?_, by rw [found_no hne], ((hB.setCell (p := ⟨w.heap.size + 1, 0, none⟩) (by simp) _).setCell (p := ⟨w.heap.size + 1 + 1, 0, none⟩) (by simp; omega) _).trans (belowK_b (w := w) (Nat.le_refl _) _ D _ _ (by omega) hK' rfl rfl)⟩
    simp [results, Tryz.results60, go_sem, c2, c3]
  case stop =>
    rintro D c pre W hD hpre ⟨⟨rfl, pr, x, hpx, hne, hx, g2, g3⟩, hB⟩ hK
    gi_wp2
    refine ⟨by simp, .inl ⟨_, _, rfl, run_takeDeferred hK, ?_⟩⟩
    have c2 := cell_kept g2 (grownBy_putObj' _ D (.deferred none)) (fun r e => by cases e; exact ⟨_, hK, rfl⟩)
    have c3 := cell_kept g3 (grownBy_putObj' _ D (.deferred none)) (fun r e => by cases e; exact ⟨_, hK, rfl⟩)
    refine ⟨.tuple #[.int .i64 x.1, .bool true], ?_, by rw [found_yes hne hx (hpx ▸ hpre)], hB.trans (belowK_b (w := w) (Nat.le_refl _) W D _ _ (by omega) hK rfl rfl)⟩
    simp [results, Tryz.results60, go_sem, c2, c3]
end Go.Proofs.YtbjdiikjnlgmiaaGreat
