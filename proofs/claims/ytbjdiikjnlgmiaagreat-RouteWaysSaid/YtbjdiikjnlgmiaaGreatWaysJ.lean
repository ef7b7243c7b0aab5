/- The terms of a way: topo's Terms, the document's Terms. -/
import Derived.Test.YtbjdiikjnlgmiaaGreatWaysI
import Derived.Test.YtbjdiikjnlgmiaaGreatWaysB
namespace Go.Proofs.YtbjdiikjnlgmiaaGreat
open Go.RowKit Go.Shelf

set_option maxRecDepth 100000 in
set_option maxHeartbeats 1000000 in
theorem tterms_c (p : Nat) (n : Int) (ls : List Lnk) (i : Nat) (x : Lnk) (hx : ls[i]? = some x) (w : World) (h : MapSt w p n ls) :
    Calls Tryz.prog 30 #[.pointer (some ⟨p, 0, none⟩), .int .i64 i] w fun e w' => e = .returned (.tuple #[.agg #[.int .i64 x.trm.c, .int .i64 x.trm.d], .int .i64 0]) ∧ Below w.heap.size w w' := by
  have hb0 : Below w.heap.size w (w.alloc (.cells #[.int .i64 0, .int .i64 0] 42)) := bl_alloc (Below.refl _ _) _
  have hk0 := Blk.new w 42 #[.int .i64 0, .int .i64 0]
  have kl := link_c p n ls i x hx _ (h.below hb0)
  unfold Lnk.arr at kl
  have kb := fun W => blink_c x W (trm_in h.ok (List.mem_of_getElem? hx))
  clear h hx
  generalize x.trm = t at *
  go_enter Tryz.func30, Tryz.ntmps30
  go_wp2_with (first
    | (go_at_call 29; refine kl.mono ?_; rintro e w1 ⟨rfl, hb1⟩; have hk1 := hk0.below hb1 (by simp))
    | (go_at_call 46; refine (kb _).mono ?_; rintro e w2 ⟨rfl, hb2⟩; have hk2 := (hk1.below (bl_alloc (Below.refl _ _) _) hk1.lt).below hb2 (by have := hk1.lt; simp; omega); have d0 : w2.cell? ⟨w.heap.size, 0, none⟩ = some (.int .i64 0) := hk2.cell 0; have d1 : w2.cell? ⟨w.heap.size, 1, none⟩ = some (.int .i64 0) := hk2.cell 1; have f0 : w2.frozen? ⟨w.heap.size, 0, none⟩ = false := hk2.frozen 0; have f1 : w2.frozen? ⟨w.heap.size, 1, none⟩ = false := hk2.frozen 1))
  refine bodyPost_ret (v := .tuple #[.agg #[.int .i64 t.c, .int .i64 t.d], .int .i64 0]) (by simp [results, Tryz.results30, go_sem, d0, d1]) rfl ⟨rfl, ?_⟩
  exact bl_set (bl_set (bl_call (bl_alloc (bl_call hb0 hb1) _) hb2) (Nat.le_refl _) _) (Nat.le_refl _) _

def trmAt (ls : List Lnk) (i : Nat) : Trm := ((ls[i]?).map Lnk.trm).getD ⟨0, 0⟩
/-- The terms of the first k links of a way. -/
def trmL (ls : List Lnk) (L : List Nat) (k : Nat) : List Trm := (L.take k).map (trmAt ls)
theorem trmAt_eq {ls : List Lnk} {i : Nat} {x : Lnk} (h : ls[i]? = some x) : trmAt ls i = x.trm := by unfold trmAt; rw [h]; rfl
theorem trmL_succ {ls : List Lnk} {L : List Nat} {k i : Nat} {x : Lnk} (hL : L[k]? = some i) (h : ls[i]? = some x) : trmL ls L (k + 1) = trmL ls L k ++ [x.trm] := by
  unfold trmL
  rw [List.take_add_one, hL, List.map_append]
  simp [trmAt_eq h]
theorem trmL_len {ls : List Lnk} {L : List Nat} {k : Nat} (h : k ≤ L.length) : (trmL ls L k).length = k := by unfold trmL; simp; omega

/-- A list of numbers of links that are there. -/
structure WayIn (ls : List Lnk) (L : List Nat) (d : Nat) : Prop where
  len : L.length = d
  few : d ≤ 100
  all : ∀ k, k < d → ∃ i x, L[k]? = some i ∧ ls[i]? = some x
theorem WayIn.ok {n : Int} {ls : List Lnk} {L : List Nat} {d : Nat} (h : WayIn ls L d) (he : newErr n ls = 0) : ∀ t ∈ trmL ls L d, t.ok := by
  intro t ht
  unfold trmL at ht
  obtain ⟨i, hi, rfl⟩ := List.mem_map.1 ht
  have hi' := List.mem_of_mem_take hi
  obtain ⟨k, hk⟩ := List.getElem?_of_mem hi'
  obtain ⟨i', x, h1, h2⟩ := h.all k (by have := (List.getElem?_eq_some_iff.1 hk).1; rw [h.len] at this; exact this)
  rw [hk] at h1
  injection h1 with h1
  subst h1
  rw [trmAt_eq h2]
  exact (trm_in he (List.mem_of_getElem? h2)).ok

set_option maxRecDepth 100000 in
set_option maxHeartbeats 2000000 in
theorem rterms_c (n : Nat) (ls : List Lnk) (A : Option Addr) (cap : Nat) (L : List Nat) (B : Option Addr) (cb d : Nat) (w : World) (he : newErr n ls = 0) (hL : WayIn ls L d) (hs : SlAt w Lnk.cells 8 A ls) (hw : SlAt w natCells 1 B L) :
    Calls Tryz.prog 14 #[rmap n A ls.length cap, .slice B d cb] w fun e w' => e = .returned (.tuple #[.agg #[.int .i64 (sumC (trmL ls L d) d), .int .i64 (sumD (trmL ls L d) d)], .int .i64 0]) ∧ Below w.heap.size w w' := by
  have hl48 := (newErr_zero he).2.2.1
  have hd100 := hL.few
  obtain ⟨w0, hw0⟩ : ∃ w0, w0 = (w.alloc (.cells #[.int .i64 (n : Int), .slice A ls.length cap] 30)).alloc (.cells #[.int .i64 0, .int .i64 0] 42) := ⟨_, rfl⟩
  have hb0 : Below w.heap.size w w0 := by rw [hw0]; exact bl_alloc (bl_alloc (Below.refl _ _) _) _
  have hk0 : Blk w0 w.heap.size 30 #[.int .i64 (n : Int), .slice A ls.length cap] := by rw [hw0]; exact (Blk.new _ _ _).below (bl_alloc (Below.refl _ _) _) (by simp)
  have hk1 : Blk w0 (w.heap.size + 1) 42 #[.int .i64 0, .int .i64 0] := by
    have := Blk.new (w.alloc (.cells #[.int .i64 (n : Int), .slice A ls.length cap] 30)) 42 #[.int .i64 0, .int .i64 0]
    rw [World.size_alloc] at this
    rw [hw0]
    exact this
  have HOK := Lib.hid (hL.ok he)
  have HE := Lib.hid he
  have HL := Lib.hid hL
  unfold rmap
  clear hL he
  go_enter Tryz.func14, Tryz.ntmps14
  go_upto_block 0 with fail
  rw [← hw0]
  clear hw0
  go_wp2_with fail
  go_loopw [6, 7] (fun s6 s7 wr => ∃ (k : Nat) (A' : Option Addr) (m c' : Nat), s7 = .int .i64 k ∧ k ≤ d ∧ s6 = .slice A' m c' ∧ OwnsL wr (w.heap.size + 2) 42 Trm.cells 2 s6 (trmL ls L k) ∧ Below w.heap.size w wr ∧ Blk wr w.heap.size 30 #[.int .i64 (n : Int), .slice A ls.length cap] ∧ Blk wr (w.heap.size + 1) 42 #[.int .i64 0, .int .i64 0]) (fun _ s7 _ => d - (intOf s7).toNat)
  case atStart => exact ⟨0, none, 0, 0, rfl, Nat.zero_le _, rfl, OwnsL.nil _ _ _, hb0, hk0, hk1⟩
  case round =>
    clear hb0 hk0 hk1
    obtain ⟨k, A', m, c', rfl, hk, rfl, ho, hb, hbk, hbt⟩ := hrel
    by_cases hlt : k < d
    · obtain ⟨i', y, hi', hy⟩ := HL.out.all k hlt
      have hsucc := trmL_succ hi' hy
      have hlen := trmL_len (ls := ls) (L := L) (k := k) (by rw [HL.out.len]; omega)
      have htin := trm_in HE.out (List.mem_of_getElem? hy)
      obtain ⟨bb, oo, rfl, hbb, hc⟩ := (hs.below hb).at_ hy
      obtain ⟨gg, og, rfl, hgg, hcg⟩ := (hw.below hb).at_ hi'
      have q0 := hc 0 _ rfl
      rw [Nat.add_zero] at q0
      have q1 := hc 1 _ rfl
      have q2 := hc 2 _ rfl
      have q3 := hc 3 _ rfl
      have q4 := hc 4 _ rfl
      have q5 := hc 5 _ rfl
      have q6 := hc 6 _ rfl
      have q7 := hc 7 _ rfl
      have qg := hcg 0 _ rfl
      rw [Nat.add_zero, Nat.mul_one] at qg
      have qb : wr.cell? ⟨w.heap.size, 1, none⟩ = some (.slice (some ⟨bb, oo, none⟩) ls.length cap) := hbk.cell 1
      have hil : i' < ls.length := (List.getElem?_eq_some_iff.1 hy).1
      have kb := fun W => rlink_c y W htin
      have HS := Lib.hid hsucc
      have HO := Lib.hid ho
      have HK := Lib.hid hbk
      have HT := Lib.hid hbt
      have hzt := hbt.lt
      clear hc hcg hy hi' hsucc ho hbk hbt htin
      go_upto_region 5 with fail
      go_region_held3 (fun w' => w'.cell? ⟨w.heap.size, 1, none⟩ = some (.slice (some ⟨bb, oo, none⟩) ls.length cap) ∧ w'.cell? ⟨gg, og + k, none⟩ = some (.int .i64 (i' : Int)) ∧ w'.cell? ⟨bb, oo + i' * 8, none⟩ = some (.int .i64 y.src) ∧ w'.cell? ⟨bb, oo + i' * 8 + 1, none⟩ = some (.int .i64 y.dst) ∧ w'.cell? ⟨bb, oo + i' * 8 + 2, none⟩ = some (.int .i64 y.rate) ∧ w'.cell? ⟨bb, oo + i' * 8 + 3, none⟩ = some (.int .i64 y.share) ∧ w'.cell? ⟨bb, oo + i' * 8 + 4, none⟩ = some (.int .i64 y.far) ∧ w'.cell? ⟨bb, oo + i' * 8 + 5, none⟩ = some (.int .i64 y.most) ∧ w'.cell? ⟨bb, oo + i' * 8 + 6, none⟩ = some (.int .i64 y.room) ∧ w'.cell? ⟨bb, oo + i' * 8 + 7, none⟩ = some (.int .i64 y.fifo)) (first | go_keep | (refine ⟨?_, ?_, ?_, ?_, ?_, ?_, ?_, ?_, ?_, ?_⟩ <;> go_keep)) (fail)
      rename_i hheld
      obtain ⟨W, hW⟩ : ∃ W, W = (wr.alloc (.cells #[.int .i64 y.src, .int .i64 y.dst, .int .i64 y.rate, .int .i64 y.share, .int .i64 y.far, .int .i64 y.most, .int .i64 y.room, .int .i64 y.fifo] 51)).drew := ⟨_, rfl⟩
      have hBW : Below wr.heap.size wr W := by rw [hW]; exact bl_drew (bl_alloc (Below.refl _ _) _)
      have hBk : Blk W wr.heap.size 51 #[.int .i64 y.src, .int .i64 y.dst, .int .i64 y.rate, .int .i64 y.share, .int .i64 y.far, .int .i64 y.most, .int .i64 y.room, .int .i64 y.fifo] := by rw [hW]; exact Blk.new wr _ _
      have t2 : W.cell? ⟨wr.heap.size, 2, none⟩ = some (.int .i64 y.rate) := hBk.cell 2
      have t4 : W.cell? ⟨wr.heap.size, 4, none⟩ = some (.int .i64 y.far) := hBk.cell 4
      have t5 : W.cell? ⟨wr.heap.size, 5, none⟩ = some (.int .i64 y.most) := hBk.cell 5
      have hzW : w.heap.size + 1 < W.heap.size := Nat.lt_of_lt_of_le hzt hBW.size
      have hoW := HO.out.below hBW
      have hkW := HK.out.below hBW HK.out.lt
      have htW := HT.out.below hBW HT.out.lt
      have hbW := bl_call hb hBW
      have HOW := Lib.hid hoW
      have HKW := Lib.hid hkW
      have HTW := Lib.hid htW
      rw [← hW]
      clear hW hBW hBk q0 q1 q2 q3 q4 q5 q6 q7 qg qb hheld hoW hkW htW HO HK HT
      generalize wr.heap.size = b8 at *
      generalize y.trm = t at *
      go_wp2_with (first
        | (go_at_call 34; refine (kb _).mono ?_; rintro e w2 ⟨rfl, hb2⟩
           have hz2 : w.heap.size + 1 < w2.heap.size := Nat.lt_of_lt_of_le hzW hb2.size
           have ho2 := HOW.out.below hb2
           have hk2 := HKW.out.below hb2 HKW.out.lt
           have ht2 := HTW.out.below hb2 HTW.out.lt
           have hbw2 := bl_call hbW hb2
           have hn2 := Blk.new (w2.alloc (.cells #[.int .i64 t.c, .int .i64 t.d] 42)) 42 #[.int .i64 t.c, .int .i64 t.d]
           rw [World.size_alloc] at hn2
           have HN2 := Lib.hid hn2
           have HO2 := Lib.hid ho2
           have HK2 := Lib.hid hk2
           have HT2 := Lib.hid ht2
           clear hn2 ho2 hk2 ht2 hb2 kb t2 t4 t5)
        | (at_builtin; refine wpList_appendT elemT _ rfl _ _ rfl (w.heap.size + 2) _ (trmL ls L k) [t] rfl (OwnsL.below HO2.out ?_) _ 1 1 rfl rfl (sl_trm (t := 42) HN2.out) ?_ ?_ ?_))
      · (repeat (first | exact Below.refl _ _ | refine bl_drew ?_ | refine bl_alloc ?_ _ | refine bl_drewN ?_ _))
      · simp only [hlen, List.length_cons, List.length_nil]; omega
      · simp; omega
      · intro v' w' ho' hgr _
        have hB' : Below (w.heap.size + 2) w2 w' := (((Below.refl _ w2).alloc (by omega) _).alloc (by simp; omega) _).grown hgr (by simp; omega) (fun g hg => (World.ownsRow.lt HO2.out g hg).1)
        have hBw := hbw2.trans (hB'.mono (by omega))
        have hbk' := HK2.out.below hB' (by omega)
        have hbt' := HT2.out.below hB' (by omega)
        rcases ho'.form' with ⟨_, h⟩ | ⟨g, c3, rfl, _, _⟩
        · simp at h
        · have HP := Lib.hid ho'
          clear ho' hgr hB'
          go_wp2
          go_roundw
          case rel => exact ⟨k + 1, _, _, c3, by go_num, hlt, rfl, by rw [HS.out]; exact HP.out, hBw, hbk', hbt'⟩
          case measure => simp [intOf]; omega
    · obtain rfl : k = d := by omega
      have hlen := trmL_len (ls := ls) (L := L) (k := k) (by rw [HL.out.len]; omega)
      have hm : m = (trmL ls L k).length := by
        rcases ho.form' with ⟨h1, h2⟩ | ⟨g, c2, h1, _⟩
        · injection h1 with _ h1; rw [h1, h2]; rfl
        · injection h1
      have hsl := OwnsL.slAt (enc := Trm.cells) (k := 2) (fun _ => rfl) ho
      have kw := rbway_c (trmL ls L k) A' c' wr (by omega) HOK.out hsl
      rw [hlen] at kw hm
      subst hm
      have HT := Lib.hid hbt
      clear ho hsl hbk hbt hlen
      go_wp2_with (go_at_call 35; refine kw.mono ?_; rintro e w2 ⟨rfl, hb2⟩; have hk2 := HT.out.below hb2 HT.out.lt; have d0 : w2.cell? ⟨w.heap.size + 1, 0, none⟩ = some (.int .i64 0) := hk2.cell 0; have d1 : w2.cell? ⟨w.heap.size + 1, 1, none⟩ = some (.int .i64 0) := hk2.cell 1; have f0 : w2.frozen? ⟨w.heap.size + 1, 0, none⟩ = false := hk2.frozen 0; have f1 : w2.frozen? ⟨w.heap.size + 1, 1, none⟩ = false := hk2.frozen 1)
      refine bodyPost_ret (v := .tuple #[.agg #[.int .i64 (sumC (trmL ls L m) m), .int .i64 (sumD (trmL ls L m) m)], .int .i64 0]) (by simp [results, Tryz.results14, go_sem, d0, d1]) rfl ⟨rfl, ?_⟩
      exact bl_set (bl_set (bl_call hb hb2) (by show w.heap.size ≤ w.heap.size + 1; omega) _) (by show w.heap.size ≤ w.heap.size + 1; omega) _
end Go.Proofs.YtbjdiikjnlgmiaaGreat
