/- The terms of a way, summed up: the program's and the document's. -/
import Derived.Test.YtbjdiikjnlgmiaaGreatWaysH
namespace Go.Proofs.YtbjdiikjnlgmiaaGreat
open Go.RowKit Go.Shelf

/-- Two blocks of the call's own: the result's, the sum's. -/
structure SumSt (w : World) (c d : Int) (wr : World) : Prop where
  bel : Below w.heap.size w wr
  res : Blk wr w.heap.size 42 #[.int .i64 0, .int .i64 0]
  sum : Blk wr (w.heap.size + 1) 42 #[.int .i64 c, .int .i64 d]
theorem SumSt.below {w wr w1 : World} {c d : Int} (h : SumSt w c d wr) (hb : Below wr.heap.size wr w1) : SumSt w c d w1 := ⟨bl_call h.bel hb, h.res.below hb h.res.lt, h.sum.below hb h.sum.lt⟩

theorem Blk.setC {w : World} {g : Nat} {t : TypeId} {cs : Array Value} (h : Blk w g t cs) (i : Nat) (u : Value) : Blk (w.setCell ⟨g, i, none⟩ u) g t (cs.setIfInBounds i u) := by
  unfold Blk at h ⊢
  simp [World.setCell, Array.getElem?_modify, h]
theorem Blk.far {w : World} {g : Nat} {t : TypeId} {cs : Array Value} (h : Blk w g t cs) {p : Addr} (hp : g ≠ p.block) (u : Value) : Blk (w.setCell p u) g t cs := (Below.heap_setCell w p u g hp).trans h

set_option maxRecDepth 100000 in
set_option maxHeartbeats 2000000 in
theorem bway_c (l : List Trm) (A : Option Addr) (cap : Nat) (w : World) (hl : l.length ≤ 100) (hok : ∀ t ∈ l, t.ok) (hs : SlAt w Trm.cells 2 A l) :
    Calls Tryz.prog 31 #[.slice A l.length cap] w fun e w' => e = .returned (.tuple #[.agg #[.int .i64 (sumC l l.length), .int .i64 (sumD l l.length)], .int .i64 0]) ∧ Below w.heap.size w w' := by
  obtain ⟨w0, hw0⟩ : ∃ w0, w0 = (w.alloc (.cells #[.int .i64 0, .int .i64 0] 42)).alloc (.cells #[.int .i64 0, .int .i64 0] 42) := ⟨_, rfl⟩
  have hst0 : SumSt w 0 0 w0 := by
    refine ⟨by rw [hw0]; exact bl_alloc (bl_alloc (Below.refl _ _) _) _, ?_, ?_⟩
    · rw [hw0]; exact (Blk.new _ _ _).below (bl_alloc (Below.refl _ _) _) (by simp)
    · have := Blk.new (w.alloc (.cells #[.int .i64 0, .int .i64 0] 42)) 42 #[.int .i64 0, .int .i64 0]
      rw [World.size_alloc] at this
      rw [hw0]
      exact this
  go_enter Tryz.func31, Tryz.ntmps31
  go_upto_block 0 with fail
  rw [← hw0]
  clear hw0
  have HOK := Lib.hid hok
  clear hok
  go_wp2_with fail
  go_loopw [11] (fun s11 wr => ∃ k : Nat, s11 = .int .i64 k ∧ k ≤ l.length ∧ SumSt w 0 0 wr) (fun s11 _ => l.length - (intOf s11).toNat)
  case atStart => exact ⟨0, rfl, Nat.zero_le _, hst0⟩
  case round =>
    clear hst0
    obtain ⟨k, rfl, hk, hst⟩ := hrel
    by_cases hlt : k < l.length
    · obtain ⟨x, hx⟩ : ∃ x, l[k]? = some x := ⟨l[k], List.getElem?_eq_getElem hlt⟩
      obtain ⟨⟨x1, x2⟩, x3, x4⟩ := HOK.out x (List.mem_of_getElem? hx)
      obtain ⟨b, o, rfl, hbl, hc⟩ := (hs.below hst.bel).at_ hx
      have q0 := hc 0 _ rfl
      rw [Nat.add_zero] at q0
      have q1 := hc 1 _ rfl
      have kc := fun W => bcheck_c x.c x.d W x1 (by omega) x3 (by omega)
      have HS := Lib.hid hst
      clear hc hx hst
      go_wp2_with (go_at_call 47; refine (kc _).mono ?_; rintro e w1 ⟨rfl, hb1⟩)
      go_roundw
      case rel => exact ⟨k + 1, by go_num, hlt, HS.out.below (bl_call (bl_alloc (Below.refl _ _) _) hb1)⟩
      case measure => simp [intOf]; omega
    · obtain rfl : k = l.length := by omega
      go_upto_block 2 with fail
      go_wp2_with fail
      go_loopw [22] (fun s22 wr => ∃ k : Nat, s22 = .int .i64 k ∧ k ≤ l.length ∧ SumSt w (sumC l k) (sumD l k) wr) (fun s22 _ => l.length - (intOf s22).toNat)
      case atStart => exact ⟨0, rfl, Nat.zero_le _, hst⟩
      case round =>
        clear hst
        obtain ⟨k, rfl, hk, hst⟩ := hrel
        have hsb := sum_bd HOK.out k
        by_cases hlt : k < l.length
        · obtain ⟨x, hx⟩ : ∃ x, l[k]? = some x := ⟨l[k], List.getElem?_eq_getElem hlt⟩
          obtain ⟨⟨x1, x2⟩, x3, x4⟩ := HOK.out x (List.mem_of_getElem? hx)
          obtain ⟨e1, e2⟩ := sum_succ hx
          obtain ⟨b, o, rfl, hbl, hc⟩ := (hs.below hst.bel).at_ hx
          have q0 := hc 0 _ rfl
          rw [Nat.add_zero] at q0
          have q1 := hc 1 _ rfl
          have hsc := hst.sum.lt
          have HS := Lib.hid hst
          have HE := Lib.hid (And.intro e1 e2)
          clear hc hx hst e1 e2
          generalize sumC l k = C at *
          generalize sumD l k = D at *
          obtain ⟨⟨y1, y2⟩, y3, y4⟩ := hsb
          have y2' : C ≤ 200000 := by omega
          have y4' : D ≤ 400000 := by omega
          have kc := fun W => bcheck_c (C + x.c) (D + x.d) W (by omega) (by omega) (by omega) (by omega)
          go_upto_region 11 with fail
          obtain ⟨W, hW⟩ : ∃ W, W = wr.alloc (.cells #[.int .i64 x.c, .int .i64 x.d] 42) := ⟨_, rfl⟩
          have hst1 : SumSt w C D W := by rw [hW]; exact HS.out.below (bl_alloc (Below.refl _ _) _)
          have t0 : W.cell? ⟨wr.heap.size, 0, none⟩ = some (.int .i64 x.c) := by rw [hW]; simp
          have t1 : W.cell? ⟨wr.heap.size, 1, none⟩ = some (.int .i64 x.d) := by rw [hW]; simp
          have u0 : W.cell? ⟨w.heap.size + 1, 0, none⟩ = some (.int .i64 C) := hst1.sum.cell 0
          have u1 : W.cell? ⟨w.heap.size + 1, 1, none⟩ = some (.int .i64 D) := hst1.sum.cell 1
          have f0 : W.frozen? ⟨w.heap.size + 1, 0, none⟩ = false := hst1.sum.frozen 0
          have f1 : W.frozen? ⟨w.heap.size + 1, 1, none⟩ = false := hst1.sum.frozen 1
          have hne : wr.heap.size ≠ w.heap.size + 1 := by omega
          have HS1 := Lib.hid hst1
          rw [← hW]
          clear hW hst1 q0 q1 HS
          generalize wr.heap.size = b8 at *
          go_cut [] (fun wx => wx = ((W.setCell ⟨w.heap.size + 1, 0, none⟩ (.int .i64 (IntKind.i64.wrap (C + x.c)))).setCell ⟨w.heap.size + 1, 1, none⟩ (.int .i64 (IntKind.i64.wrap (D + x.d)))).drew)
          case first =>
            go_region_with (fail)
            all_goals (go_wp2_with fail; go_meet; exact rfl)
          case rest =>
            rw [IntWalk.i64_in (C + x.c) (by omega), IntWalk.i64_in (D + x.d) (by omega)] at hcut
            have hst2 : SumSt w (C + x.c) (D + x.d) wc := by
              rw [hcut]
              refine ⟨bl_drew (bl_set (bl_set HS1.out.bel (by show w.heap.size ≤ w.heap.size + 1; omega) _) (by show w.heap.size ≤ w.heap.size + 1; omega) _), ?_, ?_⟩
              · exact (HS1.out.res.far (p := ⟨w.heap.size + 1, 0, none⟩) (by simp) _).far (p := ⟨w.heap.size + 1, 1, none⟩) (by simp) _
              · exact (HS1.out.sum.setC 0 _).setC 1 _
            have v0 : wc.cell? ⟨w.heap.size + 1, 0, none⟩ = some (.int .i64 (C + x.c)) := hst2.sum.cell 0
            have v1 : wc.cell? ⟨w.heap.size + 1, 1, none⟩ = some (.int .i64 (D + x.d)) := hst2.sum.cell 1
            have HS2 := Lib.hid hst2
            clear hcut hst2 t0 t1 u0 u1 f0 f1 hne HS1
            go_wp2_with (go_at_call 47; refine (kc _).mono ?_; rintro e w1 ⟨rfl, hb1⟩)
            go_roundw
            case rel => exact ⟨k + 1, by go_num, hlt, by rw [HE.out.1, HE.out.2]; exact HS2.out.below hb1⟩
            case measure => simp [intOf]; omega
        · obtain rfl : k = l.length := by omega
          have v0 : wr.cell? ⟨w.heap.size + 1, 0, none⟩ = some (.int .i64 (sumC l l.length)) := hst.sum.cell 0
          have v1 : wr.cell? ⟨w.heap.size + 1, 1, none⟩ = some (.int .i64 (sumD l l.length)) := hst.sum.cell 1
          have r0 : wr.cell? ⟨w.heap.size, 0, none⟩ = some (.int .i64 0) := hst.res.cell 0
          have r1 : wr.cell? ⟨w.heap.size, 1, none⟩ = some (.int .i64 0) := hst.res.cell 1
          have f0 : wr.frozen? ⟨w.heap.size, 0, none⟩ = false := hst.res.frozen 0
          have f1 : wr.frozen? ⟨w.heap.size, 1, none⟩ = false := hst.res.frozen 1
          have HS := Lib.hid hst
          clear hst hsb
          go_wp2
          refine bodyPost_ret (v := .tuple #[.agg #[.int .i64 (sumC l l.length), .int .i64 (sumD l l.length)], .int .i64 0]) (by simp [results, Tryz.results31, go_sem, r0, r1]) rfl ⟨rfl, ?_⟩
          exact bl_set (bl_set HS.out.bel (Nat.le_refl _) _) (Nat.le_refl _) _

set_option maxRecDepth 100000 in
set_option maxHeartbeats 2000000 in
theorem rbway_c (l : List Trm) (A : Option Addr) (cap : Nat) (w : World) (hl : l.length ≤ 100) (hok : ∀ t ∈ l, t.ok) (hs : SlAt w Trm.cells 2 A l) :
    Calls Tryz.prog 35 #[.slice A l.length cap] w fun e w' => e = .returned (.tuple #[.agg #[.int .i64 (sumC l l.length), .int .i64 (sumD l l.length)], .int .i64 0]) ∧ Below w.heap.size w w' := by
  obtain ⟨w0, hw0⟩ : ∃ w0, w0 = w.alloc (.cells #[.int .i64 0, .int .i64 0] 42) := ⟨_, rfl⟩
  have hb0 : Below w.heap.size w w0 := by rw [hw0]; exact bl_alloc (Below.refl _ _) _
  have hk0 : Blk w0 w.heap.size 42 #[.int .i64 0, .int .i64 0] := by rw [hw0]; exact Blk.new _ _ _
  go_enter Tryz.func35, Tryz.ntmps35
  go_upto_block 0 with fail
  rw [← hw0]
  clear hw0
  have HOK := Lib.hid hok
  clear hok
  go_wp2_with fail
  go_loopw [4] (fun s4 wr => ∃ k : Nat, s4 = .int .i64 k ∧ k ≤ l.length ∧ Below w.heap.size w wr ∧ Blk wr w.heap.size 42 #[.int .i64 0, .int .i64 0]) (fun s4 _ => l.length - (intOf s4).toNat)
  case atStart => exact ⟨0, rfl, Nat.zero_le _, hb0, hk0⟩
  case round =>
    clear hb0 hk0
    obtain ⟨k, rfl, hk, hb, hbk⟩ := hrel
    by_cases hlt : k < l.length
    · obtain ⟨x, hx⟩ : ∃ x, l[k]? = some x := ⟨l[k], List.getElem?_eq_getElem hlt⟩
      obtain ⟨⟨x1, x2⟩, x3, x4⟩ := HOK.out x (List.mem_of_getElem? hx)
      obtain ⟨b, o, rfl, hbl, hc⟩ := (hs.below hb).at_ hx
      have q0 := hc 0 _ rfl
      rw [Nat.add_zero] at q0
      have q1 := hc 1 _ rfl
      have kc := fun W => tright_c x.c x.d W x1 (by omega) x3 (by omega)
      have HB := Lib.hid hbk
      clear hc hx hbk
      go_wp2_with (go_at_call 49; refine (kc _).mono ?_; rintro e w1 ⟨rfl, hb1⟩)
      go_roundw
      case rel => exact ⟨k + 1, by go_num, hlt, bl_call hb hb1, HB.out.below hb1 HB.out.lt⟩
      case measure => simp [intOf]; omega
    · obtain rfl : k = l.length := by omega
      have HB := Lib.hid hbk
      clear hbk
      go_upto_block 2 with fail
      go_wp2_with fail
      go_loopw [5, 6, 7] (fun s5 s6 s7 wx => ∃ k q : Nat, s7 = .int .i64 k ∧ k ≤ l.length ∧ s5 = .int .i64 (sumC l k) ∧ s6 = .int .i64 (sumD l k) ∧ wx = wr.drewN q) (fun _ _ s7 _ => l.length - (intOf s7).toNat)
      case atStart => exact ⟨0, 0, rfl, Nat.zero_le _, rfl, rfl, rfl⟩
      case round =>
        obtain ⟨k, q, rfl, hk, rfl, rfl, rfl⟩ := hrel
        have hsb := sum_bd HOK.out k
        by_cases hlt : k < l.length
        · obtain ⟨x, hx⟩ : ∃ x, l[k]? = some x := ⟨l[k], List.getElem?_eq_getElem hlt⟩
          obtain ⟨⟨x1, x2⟩, x3, x4⟩ := HOK.out x (List.mem_of_getElem? hx)
          obtain ⟨e1, e2⟩ := sum_succ hx
          obtain ⟨b, o, rfl, hbl, hc⟩ := (hs.below hb).at_ hx
          have q0 := hc 0 _ rfl
          rw [Nat.add_zero] at q0
          have q1 := hc 1 _ rfl
          have HE := Lib.hid (And.intro e1 e2)
          clear hc hx e1 e2
          generalize sumC l k = C at *
          generalize sumD l k = D at *
          obtain ⟨⟨y1, y2⟩, y3, y4⟩ := hsb
          have y2' : C ≤ 200000 := by omega
          have y4' : D ≤ 400000 := by omega
          go_upto_region 10 with fail
          go_quiet (fail)
          go_wp2_with fail
          go_roundw
          case rel =>
            refine ⟨k + 1, _, by go_num, hlt, ?_, ?_, rfl⟩
            · rw [HE.out.1]; try rw [IntWalk.i64_in (C + x.c) (by omega)]
            · rw [HE.out.2]; try rw [IntWalk.i64_in (D + x.d) (by omega)]
          case measure => simp [intOf]; omega
        · obtain rfl : k = l.length := by omega
          have r0 : wr.cell? ⟨w.heap.size, 0, none⟩ = some (.int .i64 0) := HB.out.cell 0
          have r1 : wr.cell? ⟨w.heap.size, 1, none⟩ = some (.int .i64 0) := HB.out.cell 1
          have f0 : wr.frozen? ⟨w.heap.size, 0, none⟩ = false := HB.out.frozen 0
          have f1 : wr.frozen? ⟨w.heap.size, 1, none⟩ = false := HB.out.frozen 1
          obtain ⟨⟨y1, y2⟩, y3, y4⟩ := hsb
          have kc := fun W => tright_c (sumC l l.length) (sumD l l.length) W y1 (by omega) y3 (by omega)
          go_wp2_with (go_at_call 49; refine (kc _).mono ?_; rintro e w1 ⟨rfl, hb1⟩; have hbk1 := HB.out.below (bl_undrewN hb1) HB.out.lt; have d0 : w1.cell? ⟨w.heap.size, 0, none⟩ = some (.int .i64 0) := hbk1.cell 0; have d1 : w1.cell? ⟨w.heap.size, 1, none⟩ = some (.int .i64 0) := hbk1.cell 1; have g0 : w1.frozen? ⟨w.heap.size, 0, none⟩ = false := hbk1.frozen 0; have g1 : w1.frozen? ⟨w.heap.size, 1, none⟩ = false := hbk1.frozen 1)
          refine bodyPost_ret (v := .tuple #[.agg #[.int .i64 (sumC l l.length), .int .i64 (sumD l l.length)], .int .i64 0]) (by simp [results, Tryz.results35, go_sem, d0, d1]) rfl ⟨rfl, ?_⟩
          exact bl_set (bl_set (bl_call hb (bl_undrewN hb1)) (Nat.le_refl _) _) (Nat.le_refl _) _
end Go.Proofs.YtbjdiikjnlgmiaaGreat
