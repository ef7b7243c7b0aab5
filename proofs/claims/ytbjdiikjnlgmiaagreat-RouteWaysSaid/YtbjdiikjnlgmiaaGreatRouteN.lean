/- ring, known: the law's known answer. -/
import Derived.Test.YtbjdiikjnlgmiaaGreatRouteM
namespace Go.Proofs.YtbjdiikjnlgmiaaGreat
open Go.RowKit Go.Shelf

theorem sl_two {w : World} {b : Nat} {t : TypeId} {x y : Lnk} (h : Blk w b t #[.int .i64 x.src, .int .i64 x.dst, .int .i64 x.rate, .int .i64 x.share, .int .i64 x.far, .int .i64 x.most, .int .i64 x.room, .int .i64 x.fifo, .int .i64 y.src, .int .i64 y.dst, .int .i64 y.rate, .int .i64 y.share, .int .i64 y.far, .int .i64 y.most, .int .i64 y.room, .int .i64 y.fifo]) : SlAt w Lnk.cells 8 (some ⟨b, 0, none⟩) [x, y] := by
  refine .inr ⟨b, 0, rfl, h.lt, fun k z hz j v hv => ?_⟩
  have hk : k < 2 := (List.getElem?_eq_some_iff.1 hz).1
  have hj : j < 8 := (List.getElem?_eq_some_iff.1 hv).1
  rw [h.cell]
  have hk' : k = 0 ∨ k = 1 := by omega
  have hj' : j = 0 ∨ j = 1 ∨ j = 2 ∨ j = 3 ∨ j = 4 ∨ j = 5 ∨ j = 6 ∨ j = 7 := by omega
  rcases hk' with rfl | rfl <;> (injection hz with hz; subst hz; rcases hj' with rfl | rfl | rfl | rfl | rfl | rfl | rfl | rfl <;> exact hv)

set_option maxRecDepth 100000 in
set_option maxHeartbeats 2000000 in
theorem ring_c (w : World) : Calls Tryz.prog 18 #[] w fun e w' => ∃ A c, e = .returned (.slice A 8 c) ∧ SlAt w' Lnk.cells 8 A ringL ∧ Below w.heap.size w w' := by
  go_enter Tryz.func18, Tryz.ntmps18
  go_wp2_with fail
  obtain ⟨w0, hw0⟩ : ∃ w0, w0 = w.alloc (.cells #[.int .i64 0, .int .i64 1, .int .i64 1, .int .i64 2, .int .i64 0, .int .i64 3, .int .i64 3, .int .i64 2] 23) := ⟨_, rfl⟩
  have hb0 : Below w.heap.size w w0 := by rw [hw0]; exact bl_alloc (Below.refl _ _) _
  have hbk0 : Blk w0 w.heap.size 23 #[.int .i64 0, .int .i64 1, .int .i64 1, .int .i64 2, .int .i64 0, .int .i64 3, .int .i64 3, .int .i64 2] := by rw [hw0]; exact Blk.new _ _ _
  rw [← hw0]
  clear hw0
  go_loopw [1, 10] (fun s1 s10 wr => ∃ (k : Nat) (A : Option Addr) (m c : Nat), s10 = .int .i64 k ∧ k ≤ 4 ∧ s1 = .slice A m c ∧ OwnsL wr (w.heap.size + 1) 51 Lnk.cells 8 s1 (ringU k) ∧ Blk wr w.heap.size 23 #[.int .i64 0, .int .i64 1, .int .i64 1, .int .i64 2, .int .i64 0, .int .i64 3, .int .i64 3, .int .i64 2] ∧ Below w.heap.size w wr) (fun _ s10 _ => 4 - (intOf s10).toNat)
  case atStart => exact ⟨0, none, 0, 0, rfl, by decide, rfl, OwnsL.nil _ _ _, hbk0, hb0⟩
  case round =>
    clear hbk0 hb0
    obtain ⟨k, A, m, c, rfl, hk, rfl, ho, hbk, hb⟩ := hrel
    have HO := Lib.hid ho
    have hsz := hbk.lt
    have c0 := hbk.cell 0
    have c1 := hbk.cell 1
    have c2 := hbk.cell 2
    have c3 := hbk.cell 3
    have c4 := hbk.cell 4
    have c5 := hbk.cell 5
    have c6 := hbk.cell 6
    have c7 := hbk.cell 7
    simp only [List.getElem?_toArray, List.getElem?_cons_zero, List.getElem?_cons_succ] at c0 c1 c2 c3 c4 c5 c6 c7
    have hk' : k = 0 ∨ k = 1 ∨ k = 2 ∨ k = 3 ∨ k = 4 := by omega
    rcases hk' with rfl | rfl | rfl | rfl | rfl
    · have hs : ringU 1 = ringU 0 ++ [mkL 0 1, mkL 1 0] := rfl
      have hlen : (ringU 0).length = 0 := rfl
      have HS := Lib.hid hs
      have hn := Blk.new (wr.alloc (.cells #[.int .i64 0, .int .i64 1] 23)) 51 #[.int .i64 0, .int .i64 1, .int .i64 10, .int .i64 0, .int .i64 1, .int .i64 100, .int .i64 0, .int .i64 0, .int .i64 1, .int .i64 0, .int .i64 10, .int .i64 0, .int .i64 1, .int .i64 100, .int .i64 0, .int .i64 0]
      rw [World.size_alloc] at hn
      have HN := Lib.hid hn
      clear hs hn
      go_wp2_with (at_builtin; refine wpList_appendT elemL _ rfl _ _ rfl (w.heap.size + 1) _ (ringU 0) [mkL 0 1, mkL 1 0] rfl (OwnsL.below HO.out ?_) _ 2 2 rfl rfl (sl_two (t := 51) HN.out) ?_ ?_ ?_)
      · (repeat (first | exact Below.refl _ _ | refine bl_drew ?_ | refine bl_alloc ?_ _ | refine bl_drewN ?_ _))
      · simp only [hlen, List.length_cons, List.length_nil]; omega
      · simp; omega
      · intro v' w' ho' hg _
        have hB' : Below (w.heap.size + 1) wr w' := ((((Below.refl _ wr).alloc (by omega) _).alloc (by simp; omega) _)).grown hg (by simp; omega) (fun g hg => (World.ownsRow.lt HO.out g hg).1)
        have hBw := hb.trans (hB'.mono (Nat.le_succ _))
        have hbk' := hbk.below hB' (Nat.lt_succ_self _)
        rcases ho'.form' with ⟨_, h⟩ | ⟨g, c', rfl, _, _⟩
        · simp at h
        · have HP := Lib.hid ho'
          clear ho' hg hB' hb hbk
          go_wp2
          go_roundw
          case rel => exact ⟨1, _, _, c', rfl, by decide, rfl, by rw [HS.out]; exact HP.out, hbk', hBw⟩
          case measure => simp [intOf]
    · have hs : ringU 2 = ringU 1 ++ [mkL 1 2, mkL 2 1] := rfl
      have hlen : (ringU 1).length = 2 := rfl
      have HS := Lib.hid hs
      have hn := Blk.new (wr.alloc (.cells #[.int .i64 1, .int .i64 2] 23)) 51 #[.int .i64 1, .int .i64 2, .int .i64 10, .int .i64 0, .int .i64 1, .int .i64 100, .int .i64 0, .int .i64 0, .int .i64 2, .int .i64 1, .int .i64 10, .int .i64 0, .int .i64 1, .int .i64 100, .int .i64 0, .int .i64 0]
      rw [World.size_alloc] at hn
      have HN := Lib.hid hn
      clear hs hn
      go_wp2_with (at_builtin; refine wpList_appendT elemL _ rfl _ _ rfl (w.heap.size + 1) _ (ringU 1) [mkL 1 2, mkL 2 1] rfl (OwnsL.below HO.out ?_) _ 2 2 rfl rfl (sl_two (t := 51) HN.out) ?_ ?_ ?_)
      · (repeat (first | exact Below.refl _ _ | refine bl_drew ?_ | refine bl_alloc ?_ _ | refine bl_drewN ?_ _))
      · simp only [hlen, List.length_cons, List.length_nil]; omega
      · simp; omega
      · intro v' w' ho' hg _
        have hB' : Below (w.heap.size + 1) wr w' := ((((Below.refl _ wr).alloc (by omega) _).alloc (by simp; omega) _)).grown hg (by simp; omega) (fun g hg => (World.ownsRow.lt HO.out g hg).1)
        have hBw := hb.trans (hB'.mono (Nat.le_succ _))
        have hbk' := hbk.below hB' (Nat.lt_succ_self _)
        rcases ho'.form' with ⟨_, h⟩ | ⟨g, c', rfl, _, _⟩
        · simp at h
        · have HP := Lib.hid ho'
          clear ho' hg hB' hb hbk
          go_wp2
          go_roundw
          case rel => exact ⟨2, _, _, c', rfl, by decide, rfl, by rw [HS.out]; exact HP.out, hbk', hBw⟩
          case measure => simp [intOf]
    · have hs : ringU 3 = ringU 2 ++ [mkL 0 3, mkL 3 0] := rfl
      have hlen : (ringU 2).length = 4 := rfl
      have HS := Lib.hid hs
      have hn := Blk.new (wr.alloc (.cells #[.int .i64 0, .int .i64 3] 23)) 51 #[.int .i64 0, .int .i64 3, .int .i64 10, .int .i64 0, .int .i64 1, .int .i64 100, .int .i64 0, .int .i64 0, .int .i64 3, .int .i64 0, .int .i64 10, .int .i64 0, .int .i64 1, .int .i64 100, .int .i64 0, .int .i64 0]
      rw [World.size_alloc] at hn
      have HN := Lib.hid hn
      clear hs hn
      go_wp2_with (at_builtin; refine wpList_appendT elemL _ rfl _ _ rfl (w.heap.size + 1) _ (ringU 2) [mkL 0 3, mkL 3 0] rfl (OwnsL.below HO.out ?_) _ 2 2 rfl rfl (sl_two (t := 51) HN.out) ?_ ?_ ?_)
      · (repeat (first | exact Below.refl _ _ | refine bl_drew ?_ | refine bl_alloc ?_ _ | refine bl_drewN ?_ _))
      · simp only [hlen, List.length_cons, List.length_nil]; omega
      · simp; omega
      · intro v' w' ho' hg _
        have hB' : Below (w.heap.size + 1) wr w' := ((((Below.refl _ wr).alloc (by omega) _).alloc (by simp; omega) _)).grown hg (by simp; omega) (fun g hg => (World.ownsRow.lt HO.out g hg).1)
        have hBw := hb.trans (hB'.mono (Nat.le_succ _))
        have hbk' := hbk.below hB' (Nat.lt_succ_self _)
        rcases ho'.form' with ⟨_, h⟩ | ⟨g, c', rfl, _, _⟩
        · simp at h
        · have HP := Lib.hid ho'
          clear ho' hg hB' hb hbk
          go_wp2
          go_roundw
          case rel => exact ⟨3, _, _, c', rfl, by decide, rfl, by rw [HS.out]; exact HP.out, hbk', hBw⟩
          case measure => simp [intOf]
    · have hs : ringU 4 = ringU 3 ++ [mkL 3 2, mkL 2 3] := rfl
      have hlen : (ringU 3).length = 6 := rfl
      have HS := Lib.hid hs
      have hn := Blk.new (wr.alloc (.cells #[.int .i64 3, .int .i64 2] 23)) 51 #[.int .i64 3, .int .i64 2, .int .i64 10, .int .i64 0, .int .i64 1, .int .i64 100, .int .i64 0, .int .i64 0, .int .i64 2, .int .i64 3, .int .i64 10, .int .i64 0, .int .i64 1, .int .i64 100, .int .i64 0, .int .i64 0]
      rw [World.size_alloc] at hn
      have HN := Lib.hid hn
      clear hs hn
      go_wp2_with (at_builtin; refine wpList_appendT elemL _ rfl _ _ rfl (w.heap.size + 1) _ (ringU 3) [mkL 3 2, mkL 2 3] rfl (OwnsL.below HO.out ?_) _ 2 2 rfl rfl (sl_two (t := 51) HN.out) ?_ ?_ ?_)
      · (repeat (first | exact Below.refl _ _ | refine bl_drew ?_ | refine bl_alloc ?_ _ | refine bl_drewN ?_ _))
      · simp only [hlen, List.length_cons, List.length_nil]; omega
      · simp; omega
      · intro v' w' ho' hg _
        have hB' : Below (w.heap.size + 1) wr w' := ((((Below.refl _ wr).alloc (by omega) _).alloc (by simp; omega) _)).grown hg (by simp; omega) (fun g hg => (World.ownsRow.lt HO.out g hg).1)
        have hBw := hb.trans (hB'.mono (Nat.le_succ _))
        have hbk' := hbk.below hB' (Nat.lt_succ_self _)
        rcases ho'.form' with ⟨_, h⟩ | ⟨g, c', rfl, _, _⟩
        · simp at h
        · have HP := Lib.hid ho'
          clear ho' hg hB' hb hbk
          go_wp2
          go_roundw
          case rel => exact ⟨4, _, _, c', rfl, by decide, rfl, by rw [HS.out]; exact HP.out, hbk', hBw⟩
          case measure => simp [intOf]
    · have hm : m = 8 := by
        rcases ho.form' with ⟨_, h⟩ | ⟨g, c', h, _⟩
        · cases h
        · injection h
      subst hm
      have hsl := OwnsL.slAt (enc := Lnk.cells) (k := 8) (fun _ => rfl) HO.out
      have HSL := Lib.hid hsl
      clear ho hsl hbk
      go_wp2
      go_ret
      exact ⟨A, c, rfl, HSL.out, hb⟩
end Go.Proofs.YtbjdiikjnlgmiaaGreat
