/- The walk of the document's far. -/
import Derived.Test.YtbjdiikjnlgmiaaGreatWaysC
namespace Go.Proofs.YtbjdiikjnlgmiaaGreat
open Go.RowKit Go.Shelf

/-- What the document's far answers. -/
def farI (T : Nat → Int) (a b : Nat) : Int := if T (b * 16 + a) = 0 then -1 else T (b * 16 + a) - 1

theorem sl_row {w : World} {base g c n : Nat} {f : Nat → Bool} (h : BRow w base g c n f) : SlAt w boolCells 1 (some ⟨g, 0, none⟩) ((List.range n).map f) := OwnsL.slAt (enc := boolCells) (k := 1) (fun _ => rfl) h

theorem far_hit {T : Nat → Int} {a b m : Nat} (h : hB T a m b = true) (hno : ∀ m', m' < m → hB T a m' b = false) : farI T a b = m := by
  unfold hB at h
  simp only [Bool.and_eq_true, decide_eq_true_eq] at h
  unfold farI
  rw [if_neg (by omega)]
  by_cases hm : m = 0
  · subst hm; omega
  · have := hno (m - 1) (by omega)
    unfold hB at this
    simp only [Bool.and_eq_false_iff, decide_eq_false_iff_not] at this
    omega
theorem far_miss {n : Nat} {ls : List Lnk} {T : Nat → Int} (hg : Good n ls T) (he : newErr n ls = 0) {a b : Nat} (ha : a < n) (hb : b < n) (hno : ∀ m', m' < n + 1 → hB T a m' b = false) : farI T a b = -1 := by
  have hn := (newErr_zero he).2.1
  have := hno n (by omega)
  have hf := (hg.row (b := b) (by omega)).few a
  have hl := (hg.row (b := b) (by omega)).lo a
  have e : rowF T b a = T (b * 16 + a) := rowF_at (by omega)
  unfold hB at this
  simp only [Bool.and_eq_false_iff, decide_eq_false_iff_not] at this
  unfold farI
  rw [if_pos (by omega)]

theorem BRow.kept {w w' : World} {base g c n : Nat} {f : Nat → Bool} {r : Option Nat} (h : BRow w base g c n f) (hg : w.grownBy w' r) (hne : some g ≠ r) : BRow w' base g c n f :=
  BRow.of (h.own.kept hg (.inr hne))
theorem BRow.below {w w' : World} {base g c n : Nat} {f : Nat → Bool} (h : BRow w base g c n f) (hb : Below w.heap.size w w') : BRow w' base g c n f := OwnsL.below h hb

set_option maxRecDepth 100000 in
set_option maxHeartbeats 2000000 in
theorem rfar_c (n : Nat) (ls : List Lnk) (T : Nat → Int) (A : Option Addr) (cap a b : Nat) (w : World) (hg : Good n ls T) (he : newErr n ls = 0) (ha : a < n) (hb : b < n) (hs : SlAt w Lnk.cells 8 A ls) :
    Calls Tryz.prog 32 #[rmap n A ls.length cap, .int .i64 a, .int .i64 b] w fun e w' => e = .returned (.int .i64 (farI T a b)) ∧ Below w.heap.size w w' := by
  obtain ⟨_, hn16, hl48, _⟩ := newErr_zero he
  have hh : (Tryz.prog.info? 4).map (fun i => (i.zero, i.size, i.bytes)) = some (some (.bool false), 1, 1) := by kernel_rfl
  obtain ⟨ib, hi, hz0, hz1, hz2⟩ := info_parts hh
  unfold rmap
  obtain ⟨w0, hw0⟩ : ∃ w0, w0 = w.alloc (.cells #[.int .i64 (n : Int), .slice A ls.length cap] 30) := ⟨_, rfl⟩
  have hb0 : Below w.heap.size w w0 := by rw [hw0]; exact bl_alloc (Below.refl _ _) _
  have hbk0 : Blk w0 w.heap.size 30 #[.int .i64 (n : Int), .slice A ls.length cap] := by rw [hw0]; exact Blk.new _ _ _
  have c0 : w0.cell? ⟨w.heap.size, 0, none⟩ = some (.int .i64 (n : Int)) := hbk0.cell 0
  have hsz0 := hbk0.lt
  go_enter Tryz.func32, Tryz.ntmps32
  go_upto_region 1 with fail
  rw [← hw0]
  clear hw0
  go_wp2_with (at_make; refine wpList_make_full _ rfl _ _ _ rfl (w.heap.size + 1) 4 ib (.bool false) 1 Tryz.underlying110 hi hz0 hz1 .i64 .i64 _ _ n rfl rfl rfl rfl ?_ ?_ ?_ ?_)
  · rw [hz2]; omega
  · unfold maxLen; omega
  · omega
  intro w1 hown hgr
  have hB1 : Below w0.heap.size w0 w1 := (Below.refl _ _).grown hgr (Nat.le_refl _) (fun k e => by cases e)
  have hbr : BRow w1 (w.heap.size + 1) w0.heap.size n n fun _ => false := by
    refine BRow.of ?_
    have e : (madeCells #[Value.bool false] n).toList = (((List.range n).map fun _ => false).map Value.bool) := by
      rw [toList_madeCells_one, List.map_map]
      apply List.ext_getElem?
      intro i
      by_cases hi : i < n
      · rw [List.getElem?_replicate, if_pos hi, List.getElem?_map, List.getElem?_range hi]; rfl
      · rw [List.getElem?_replicate, if_neg hi, List.getElem?_eq_none (by simp; omega)]
    rw [← e]
    exact hown
  have hbk1 := hbk0.below hB1 hsz0
  have ca := hbr.cell ha
  have fa := hbr.frozen a
  have hb1 := bl_call hb0 hB1
  have hlt0 := hbr.lt
  generalize w0.heap.size = g0 at *
  clear hown hgr hB1 c0 hbk0 hb0 hsz0
  go_upto_block 0 with fail
  obtain ⟨W, hW⟩ : ∃ W, W = w1.setCell ⟨g0, a, none⟩ (.bool true) := ⟨_, rfl⟩
  have hbW : Below w.heap.size w W := by rw [hW]; exact hb1.setCell (p := ⟨g0, a, none⟩) (by show w.heap.size ≤ g0; omega) _
  have hbkW : Blk W w.heap.size 30 #[.int .i64 (n : Int), .slice A ls.length cap] := by
    rw [hW]
    exact hbk1.below ((Below.refl (w.heap.size + 1) w1).setCell (p := ⟨g0, a, none⟩) (by show w.heap.size + 1 ≤ g0; omega) _) (by omega)
  have hbrW : BRow W (w.heap.size + 1) g0 n n (hB T a 0) := by
    rw [hW]
    refine (hbr.set a).congr fun v hv => ?_
    rw [hB_start hg he (by omega) (by omega)]
    unfold updB
    by_cases hva : v = a
    · rw [if_pos hva]; simp [hva]
    · rw [if_neg hva]; simp [hva]
  rw [← hW]
  clear hW hbr ca fa hb1 hlt0 hbk1
  have HG := Lib.hid hg
  have HE := Lib.hid he
  clear hg he
  go_wp2_with fail
  go_loopw [7, 8] (fun s7 s8 wr => ∃ m g c : Nat, s8 = .int .i64 m ∧ m ≤ n + 1 ∧ s7 = .slice (some ⟨g, 0, none⟩) n c ∧ BRow wr (w.heap.size + 1) g c n (hB T a m) ∧ (∀ m', m' < m → hB T a m' b = false) ∧ Below w.heap.size w wr ∧ Blk wr w.heap.size 30 #[.int .i64 (n : Int), .slice A ls.length cap]) (fun _ s8 _ => n + 1 - (intOf s8).toNat)
  case atStart => exact ⟨0, g0, n, rfl, Nat.zero_le _, rfl, hbrW, fun m' h => by omega, hbW, hbkW⟩
  case round =>
    clear hbrW hbW hbkW
    obtain ⟨m, g, c, rfl, hm, rfl, hbr, hno, hbl, hbk⟩ := hrel
    have c0 : wr.cell? ⟨w.heap.size, 0, none⟩ = some (.int .i64 (n : Int)) := hbk.cell 0
    by_cases hmn : m ≤ n
    · have cb := hbr.cell hb
      cases hq : hB T a m b
      · rw [hq] at cb
        have hno' : ∀ m', m' < m + 1 → hB T a m' b = false := fun m' hm' => by
          by_cases e : m' = m
          · rw [e]; exact hq
          · exact hno m' (by omega)
        have HN := Lib.hid hno'
        have HBR := Lib.hid hbr
        have HBK := Lib.hid hbk
        have hlen := Lib.hid (show n = ((List.range n).map (hB T a m)).length by simp)
        have hgl := hbr.lt
        clear hno hno' hq hbr hbk
        go_upto_block 2 with (at_builtin; refine wpList_appendT elemB _ rfl _ _ rfl (w.heap.size + 1) _ [] ((List.range n).map (hB T a m)) rfl (OwnsL.nil _ _ _) (some ⟨g, 0, none⟩) n c rfl hlen.out (sl_row HBR.out) ?_ ?_ ?_)
        · rw [List.length_map, List.length_range]; simp only [List.length_nil]; omega
        · omega
        · intro v' w' ho' hgr hob
          rcases ho'.form' with ⟨_, h⟩ | ⟨g', c', rfl, hg1, hg2⟩
          · have : n = 0 := by rw [hlen.out, h]; rfl
            omega
          · have hg' : g' = wr.heap.size := by
              rcases hob with h | h
              · cases h
              · injection h
            have hbr' : BRow w' (w.heap.size + 1) g' c' n (hB T a m) := by
              have e : (((List.range n).map (hB T a m)).length) = n := by simp
              rw [e] at ho'
              exact ho'
            have hbw : Below wr.heap.size wr w' := (Below.refl _ _).grown hgr (Nat.le_refl _) (fun k e => by cases e)
            have hbrO := HBR.out.below hbw
            have hbl' := bl_call hbl hbw
            have hbk' := HBK.out.below hbw HBK.out.lt
            have hsw := hs.below hbl'
            have hgg : g < g' := by omega
            have en : (((List.range n).map (hB T a m)).length) = n := by simp
            rw [en]
            clear ho' hgr hob hbw en hlen c0 cb HBR HBK hgl hg'
            generalize hf : hB T a m = f at *
            have HF := Lib.hid hf
            clear hf
            go_upto_block 2 with fail
            go_wp2_with fail
            go_loopw [10] (fun s10 wx => ∃ i : Nat, s10 = .int .i64 i ∧ i ≤ ls.length ∧ BRow wx (w.heap.size + 1) g' c' n (nxB ls f i) ∧ BRow wx (w.heap.size + 1) g c n f ∧ Below w.heap.size w wx ∧ Blk wx w.heap.size 30 #[.int .i64 (n : Int), .slice A ls.length cap]) (fun s10 _ => ls.length - (intOf s10).toNat)
            case atStart => exact ⟨0, rfl, Nat.zero_le _, hbr'.congr fun v _ => (nxB_zero ls f v).symm, hbrO, hbl', hbk'⟩
            case round =>
              clear hbr' hbrO hbl' hbk' hsw
              obtain ⟨i, rfl, hi2, hbr', hbrO, hbx, hbkx⟩ := hrel
              have c1 : wr.cell? ⟨w.heap.size, 1, none⟩ = some (.slice A ls.length cap) := hbkx.cell 1
              by_cases hil : i < ls.length
              · obtain ⟨x, hx⟩ : ∃ x, ls[i]? = some x := ⟨ls[i], List.getElem?_eq_getElem hil⟩
                obtain ⟨x1, x2, x3, x4, _, _⟩ := link_range HE.out (List.mem_of_getElem? hx)
                obtain ⟨bb, oo, rfl, hbb, hc⟩ := (hs.below hbx).at_ hx
                have q0 := hc 0 _ rfl
                rw [Nat.add_zero] at q0
                have q1 := hc 1 _ rfl
                have qs := hbrO.cell (v := x.src.toNat) (by omega)
                have qd := hbr'.cell (v := x.dst.toNat) (by omega)
                have qf := hbr'.frozen x.dst.toNat
                have HX := Lib.hid hx
                have HB1 := Lib.hid hbr'
                have HB2 := Lib.hid hbrO
                have HBK := Lib.hid hbkx
                have y1 : x.src.toNat < n := by omega
                have y2 : x.dst.toNat < n := by omega
                have hgl := hbr'.lt
                clear hc hx hbr' hbrO hbkx
                cases hfs : f x.src.toNat
                · rw [hfs] at qs
                  have HN := Lib.hid (fun v => nxB_skip HX.out hfs v)
                  clear hfs
                  go_wp2
                  go_roundw
                  case rel => exact ⟨i + 1, by go_num, hil, HB1.out.congr fun v _ => (HN.out v).symm, HB2.out, hbx, HBK.out⟩
                  case measure => simp [intOf]; omega
                · rw [hfs] at qs
                  have HN := Lib.hid (fun v => nxB_put HX.out hfs v)
                  clear hfs
                  go_wp2
                  go_roundw
                  case rel =>
                    refine ⟨i + 1, by go_num, hil, (HB1.out.set x.dst.toNat).congr fun v _ => (HN.out v).symm, HB2.out.kept (setCell_grown _ g' x.dst.toNat (.bool true)) (fun e => by injection e; omega), hbx.setCell (p := ⟨g', x.dst.toNat, none⟩) (by show w.heap.size ≤ g'; omega) _, ?_⟩
                    exact HBK.out.below ((Below.refl (w.heap.size + 1) _).setCell (p := ⟨g', x.dst.toNat, none⟩) (by show w.heap.size + 1 ≤ g'; omega) _) (by omega)
                  case measure => simp [intOf]; omega
              · obtain rfl : i = ls.length := by omega
                have hbrN : BRow wr (w.heap.size + 1) g' c' n (hB T a (m + 1)) := hbr'.congr fun v hv => by
                  rw [hB_step HG.out HE.out m (by omega) (by omega), HF.out]
                  unfold nxB
                  rw [List.take_length]
                have HBN := Lib.hid hbrN
                have HBK := Lib.hid hbkx
                clear hbr' hbrO hbrN hbkx
                go_wp2
                go_roundw
                case rel => exact ⟨m + 1, g', c', by go_num, by omega, rfl, HBN.out, HN.out, hbx, HBK.out⟩
                case measure => simp [intOf]; omega
      · rw [hq] at cb
        have HR := Lib.hid (far_hit hq hno)
        clear hq hno hbr hbk
        go_wp2
        go_ret
        exact ⟨by rw [HR.out]; rfl, hbl⟩
    · obtain rfl : m = n + 1 := by omega
      have HR := Lib.hid (far_miss HG.out HE.out ha hb hno)
      clear hno hbr hbk
      go_wp2
      go_ret
      exact ⟨by rw [HR.out]; rfl, hbl⟩
end Go.Proofs.YtbjdiikjnlgmiaaGreat
