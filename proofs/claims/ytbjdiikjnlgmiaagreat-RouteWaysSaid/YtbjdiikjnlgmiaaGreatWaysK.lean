/- The routes' Terms; what is answered where there is no way. -/
import Derived.Test.YtbjdiikjnlgmiaaGreatWaysJ
namespace Go.Proofs.YtbjdiikjnlgmiaaGreat
open Go.RowKit Go.Shelf

/-- The answer of the routes is this error, and stays so. -/
def NoWay (n : Int) (o : Option (Nat → Int)) (a b er : Int) : Prop := er ≠ 0 ∧ (okp n a b → ∃ T, o = some T) ∧ askRes n (tabO o) a b = (0, er)
theorem askRes_err {n : Int} {T : Nat → Int} {a b : Int} (h : (askRes n T a b).2 ≠ 0) : askRes n T a b = (0, (askRes n T a b).2) := by
  unfold askRes at h ⊢
  by_cases hok : okp n a b
  · rw [if_pos hok] at h ⊢
    by_cases ht : T (b.toNat * 16 + a.toNat) = 0
    · rw [if_pos ht]
    · rw [if_neg ht] at h; exact absurd rfl h
  · rw [if_neg hok]
theorem NoWay.next {n : Int} {o o' : Option (Nat → Int)} {a b er : Int} (h : NoWay n o a b er) (he : ∀ T, o = some T → o' = some T) : NoWay n o' a b er := by
  obtain ⟨h0, h1, h2⟩ := h
  refine ⟨h0, fun hok => ?_, ?_⟩
  · obtain ⟨T, hT⟩ := h1 hok
    exact ⟨T, he T hT⟩
  · by_cases hok : okp n a b
    · obtain ⟨T, rfl⟩ := h1 hok
      rw [he T rfl]
      exact h2
    · unfold askRes at h2 ⊢
      rw [if_neg hok] at h2 ⊢
      exact h2
theorem NoWay.of {n : Int} {o : Option (Nat → Int)} {a b : Int} (hm : okp n a b → ∃ T, o = some T) (h : (askRes n (tabO o) a b).2 ≠ 0) : NoWay n o a b (askRes n (tabO o) a b).2 := ⟨h, hm, askRes_err h⟩

theorem grown_fresh {w w1 W : World} {row : Option Nat} (h : w.grownBy w1 row) (hb : Below w.heap.size w1 W) : w.grownBy W row :=
  ⟨hb.os.trans h.os, hb.tape.trans h.tape, hb.output.trans h.output, Nat.le_trans h.size hb.size, fun i hi hne => (hb.block i hi).trans (h.block i hi hne)⟩

set_option maxRecDepth 100000 in
set_option maxHeartbeats 1000000 in
theorem terms_no_c (r p : Nat) (n : Int) (ls : List Lnk) (o : Option (Nat → Int)) (a b er : Int) (w : World) (h : RSt w r p n ls o) (hno : NoWay n o a b er) :
    Calls Tryz.prog 11 #[.pointer (some ⟨r, 0, none⟩), .int .i64 a, .int .i64 b] w fun e w' => ∃ o', e = .returned (.tuple #[.agg #[.int .i64 0, .int .i64 0], .int .i64 er]) ∧ RSt w' r p n ls o' ∧ NoWay n o' a b er ∧ w.grownBy w' (some r) := by
  have hb : Below w.heap.size w (w.alloc (.cells #[.int .i64 0, .int .i64 0] 42)) := bl_alloc (Below.refl _ _) _
  have hr := h.lt
  have k := way_c r p n ls o a b _ (h.below hb)
  have hk0 := Blk.new w 42 #[.int .i64 0, .int .i64 0]
  have k' : Calls Tryz.prog 8 #[.pointer (some ⟨r, 0, none⟩), .int .i64 a, .int .i64 b] (w.alloc (.cells #[.int .i64 0, .int .i64 0] 42)) fun e w' => ∃ o', e = .returned (.tuple #[.slice none 0 0, .int .i64 er]) ∧ RSt w' r p n ls o' ∧ NoWay n o' a b er ∧ (w.alloc (.cells #[.int .i64 0, .int .i64 0] 42)).grownBy w' (some r) := by
    refine k.mono ?_
    rintro e w' ⟨o', hw, ha⟩
    have hres := (hno.next ha.ext).2.2
    rcases hw with ⟨_, rfl⟩ | ⟨h0, _⟩
    · exact ⟨o', by rw [hres], ha.st, hno.next ha.ext, ha.gr⟩
    · rw [hres] at h0; exact absurd h0 hno.1
  have hne : (er != 0) = true := by rw [bne_iff_ne]; exact hno.1
  clear k hno h
  go_enter Tryz.func11, Tryz.ntmps11
  go_wp2_with (go_at_call 8; refine k'.mono ?_; rintro e w1 ⟨o', rfl, hst, hno', hgr⟩; have d0 := hgr.cell (hk0.cell 0) (by simp; omega); have d1 := hgr.cell (hk0.cell 1) (by simp; omega); have hbk : Blk w1 w.heap.size 42 #[.int .i64 0, .int .i64 0] := (hgr.block _ (by simp) (by simp; omega)).trans hk0; have f0 : w1.frozen? ⟨w.heap.size, 0, none⟩ = false := hbk.frozen 0; have f1 : w1.frozen? ⟨w.heap.size, 1, none⟩ = false := hbk.frozen 1)
  have hBs : Below w.heap.size w1 ((w1.setCell ⟨w.heap.size, 0, none⟩ (.int .i64 0)).setCell ⟨w.heap.size, 1, none⟩ (.int .i64 0)) := ((Below.refl w.heap.size w1).setCell (p := ⟨w.heap.size, 0, none⟩) (Nat.le_refl _) _).setCell (p := ⟨w.heap.size, 1, none⟩) (Nat.le_refl _) _
  refine bodyPost_ret (v := .tuple #[.agg #[.int .i64 0, .int .i64 0], .int .i64 er]) (by simp [results, Tryz.results11, go_sem, d0, d1]) rfl ⟨o', rfl, hst.kept hr hBs, hno', ?_⟩
  exact grown_fresh (((grown_below hb).but _).trans hgr) hBs

set_option maxRecDepth 100000 in
set_option maxHeartbeats 1000000 in
theorem ahead_no_c (r p : Nat) (n : Int) (ls : List Lnk) (o : Option (Nat → Int)) (a b er : Int) (w : World) (h : RSt w r p n ls o) (hno : NoWay n o a b er) :
    Calls Tryz.prog 15 #[.pointer (some ⟨r, 0, none⟩), .int .i64 a, .int .i64 b] w fun e w' => ∃ o', e = .returned (.int .i64 0) ∧ RSt w' r p n ls o' ∧ NoWay n o' a b er ∧ w.grownBy w' (some r) := by
  have k' : Calls Tryz.prog 8 #[.pointer (some ⟨r, 0, none⟩), .int .i64 a, .int .i64 b] w fun e w' => ∃ o', e = .returned (.tuple #[.slice none 0 0, .int .i64 er]) ∧ RSt w' r p n ls o' ∧ NoWay n o' a b er ∧ w.grownBy w' (some r) := by
    refine (way_c r p n ls o a b _ h).mono ?_
    rintro e w' ⟨o', hw, ha⟩
    have hres := (hno.next ha.ext).2.2
    rcases hw with ⟨_, rfl⟩ | ⟨h0, _⟩
    · exact ⟨o', by rw [hres], ha.st, hno.next ha.ext, ha.gr⟩
    · rw [hres] at h0; exact absurd h0 hno.1
  clear hno h
  go_enter Tryz.func15, Tryz.ntmps15
  go_upto_block 0 with (go_at_call 8; refine k'.mono ?_; rintro e w1 ⟨o', rfl, hst, hno', hgr⟩)
  clear k'
  go_wp2_with fail
  go_loop [9, 23] (fun s9 s23 => s9 = .int .i64 0 ∧ s23 = .int .i64 0) (fun _ _ => 0)
  case atStart => exact ⟨rfl, rfl⟩
  case round =>
    obtain ⟨rfl, rfl⟩ := hrel
    go_wp2
    go_ret
    first | exact ⟨o', rfl, hst, hno', hgr⟩ | exact ⟨rfl, o', hst, hno', hgr⟩

theorem wayIn {n : Int} {ls : List Lnk} {T : Nat → Int} {a b : Int} {d : Nat} (hg : Good n ls T) (hne : newErr n ls = 0) (he : askRes n T a b = ((d : Int), 0)) : WayIn ls (wayL ls T b.toNat a.toNat d) d := by
  have h2 : (askRes n T a b).2 = 0 := by rw [he]
  obtain ⟨hT0, hd⟩ := askRes_zero h2
  obtain ⟨⟨a0, a1⟩, b0, b1⟩ := askRes_ok h2
  rw [he] at hd
  dsimp only at hd
  have h100 := (hg.2 (b.toNat * 16 + a.toNat)).2
  refine ⟨wayL_len _ _ _ _ _, by omega, fun k hk => ?_⟩
  obtain ⟨x, hop, _⟩ := hg.pathHop hne (by omega : ((b.toNat : Nat) : Int) < n) (by omega : ((a.toNat : Nat) : Int) < n) k (by omega)
  refine ⟨_, x, ?_, hop.link⟩
  unfold wayL
  rw [List.getElem?_map, List.getElem?_range hk]
  rfl

set_option maxRecDepth 100000 in
set_option maxHeartbeats 2000000 in
theorem terms_ok_c (r p : Nat) (n : Int) (ls : List Lnk) (T : Nat → Int) (a b : Int) (d : Nat) (w : World) (h : RSt w r p n ls (some T)) (he : askRes n T a b = ((d : Int), 0)) :
    Calls Tryz.prog 11 #[.pointer (some ⟨r, 0, none⟩), .int .i64 a, .int .i64 b] w fun e w' => e = .returned (.tuple #[.agg #[.int .i64 (sumC (trmL ls (wayL ls T b.toNat a.toNat d) d) d), .int .i64 (sumD (trmL ls (wayL ls T b.toNat a.toNat d) d) d)], .int .i64 0]) ∧ RSt w' r p n ls (some T) ∧ Below w.heap.size w w' := by
  have hb0 : Below w.heap.size w (w.alloc (.cells #[.int .i64 0, .int .i64 0] 42)) := bl_alloc (Below.refl _ _) _
  have hk0 := Blk.new w 42 #[.int .i64 0, .int .i64 0]
  have hr := h.lt
  have hne := h.mp.ok
  have hgood : Good n ls T := h.rt.2
  have k' : Calls Tryz.prog 8 #[.pointer (some ⟨r, 0, none⟩), .int .i64 a, .int .i64 b] (w.alloc (.cells #[.int .i64 0, .int .i64 0] 42)) fun e w' => ∃ A c, e = .returned (.tuple #[.slice A d c, .int .i64 0]) ∧ SlAt w' natCells 1 A (wayL ls T b.toNat a.toNat d) ∧ RSt w' r p n ls (some T) ∧ Below (w.alloc (.cells #[.int .i64 0, .int .i64 0] 42)).heap.size (w.alloc (.cells #[.int .i64 0, .int .i64 0] 42)) w' := by
    refine (way_c r p n ls (some T) a b _ (h.below hb0)).mono ?_
    rintro e w' ⟨o', hw, ha⟩
    obtain rfl := ha.ext T rfl
    have h1 : tabO (some T) = T := rfl
    rw [h1] at hw
    rcases hw with ⟨h, _⟩ | ⟨_, A, c, rfl, hs⟩
    · rw [he] at h; exact absurd rfl h
    · rw [he] at hs ⊢
      exact ⟨A, c, rfl, hs, ha.st, ha.same T rfl⟩
  have hwi := wayIn hgood hne he
  have hd100 := hwi.few
  have HL := Lib.hid hwi
  have HE := Lib.hid hne
  clear h he hgood hne hwi
  generalize wayL ls T b.toNat a.toNat d = L at *
  go_enter Tryz.func11, Tryz.ntmps11
  go_upto_block 0 with (go_at_call 8; refine k'.mono ?_; rintro e w1 ⟨A, c, rfl, hs, hst, hb1⟩)
  have hk1 := hk0.below hb1 (by simp)
  have hb1' := bl_call hb0 hb1
  have hzz := hk1.lt
  have HS := Lib.hid hst
  have HW := Lib.hid hs
  have HK := Lib.hid hk1
  have HB := Lib.hid hb1'
  clear k' hst hs hk1 hb1 hb1' hk0 hb0
  go_wp2_with fail
  go_loopw [10, 28] (fun s10 s28 wr => ∃ (k : Nat) (A' : Option Addr) (m c' : Nat), s28 = .int .i64 k ∧ k ≤ d ∧ s10 = .slice A' m c' ∧ OwnsL wr w1.heap.size 42 Trm.cells 2 s10 (trmL ls L k) ∧ Below w1.heap.size w1 wr) (fun _ s28 _ => d - (intOf s28).toNat)
  case atStart => exact ⟨0, none, 0, 0, rfl, Nat.zero_le _, rfl, OwnsL.nil _ _ _, Below.refl _ _⟩
  case round =>
    obtain ⟨k, A', m, c', rfl, hk, rfl, ho, hb⟩ := hrel
    by_cases hlt : k < d
    · obtain ⟨i, y, hi, hy⟩ := HL.out.all k hlt
      have hsucc := trmL_succ hi hy
      have hlen := trmL_len (ls := ls) (L := L) (k := k) (by rw [HL.out.len]; omega)
      obtain ⟨gg, og, rfl, hgg, hcg⟩ := (HW.out.below hb).at_ hi
      have qg := hcg 0 _ rfl
      rw [Nat.add_zero, Nat.mul_one] at qg
      have hsw := HS.out.below hb
      have qp := hsw.plan
      have kt := tterms_c p n ls i y hy wr hsw.mp.st
      have hz1 := hb.size
      have HY := Lib.hid hsucc
      have HO := Lib.hid ho
      clear hcg hy hi hsucc ho hsw
      generalize y.trm = t at *
      go_wp2_with (first
        | (go_at_call 30; refine kt.mono ?_; rintro e w2 ⟨rfl, hb2⟩
           have hz2 : w1.heap.size ≤ w2.heap.size := Nat.le_trans hz1 hb2.size
           have ho2 := HO.out.below hb2
           have hbw2 := hb.trans (hb2.mono hz1)
           have hn2 := Blk.new (w2.alloc (.cells #[.int .i64 t.c, .int .i64 t.d] 42)) 42 #[.int .i64 t.c, .int .i64 t.d]
           rw [World.size_alloc] at hn2
           have HN2 := Lib.hid hn2
           have HO2 := Lib.hid ho2
           clear hn2 ho2 hb2 kt qg qp)
        | (at_builtin; refine wpList_appendT elemT _ rfl _ _ rfl w1.heap.size _ (trmL ls L k) [t] rfl (OwnsL.below HO2.out ?_) _ 1 1 rfl rfl (sl_trm (t := 42) HN2.out) ?_ ?_ ?_))
      · (repeat (first | exact Below.refl _ _ | refine bl_drew ?_ | refine bl_alloc ?_ _ | refine bl_drewN ?_ _))
      · simp only [hlen, List.length_cons, List.length_nil]; omega
      · simp; omega
      · intro v' w' ho' hgr _
        have hB' : Below w1.heap.size w2 w' := (((Below.refl _ w2).alloc (by omega) _).alloc (by simp; omega) _).grown hgr (by simp; omega) (fun g hg => (World.ownsRow.lt HO2.out g hg).1)
        have hBw := hbw2.trans hB'
        rcases ho'.form' with ⟨_, h⟩ | ⟨g, c3, rfl, _, _⟩
        · simp at h
        · have HP := Lib.hid ho'
          clear ho' hgr hB'
          go_wp2
          go_roundw
          case rel => exact ⟨k + 1, _, _, c3, by go_num, hlt, rfl, by rw [HY.out]; exact HP.out, hBw⟩
          case measure => simp [intOf]; omega
    · obtain rfl : k = d := by omega
      have hlen := trmL_len (ls := ls) (L := L) (k := k) (by rw [HL.out.len]; omega)
      have hm : m = (trmL ls L k).length := by
        rcases ho.form' with ⟨h1, h2⟩ | ⟨g, c2, h1, _⟩
        · injection h1 with _ h1; rw [h1, h2]; rfl
        · injection h1
      have hsl := OwnsL.slAt (enc := Trm.cells) (k := 2) (fun _ => rfl) ho
      have kw := bway_c (trmL ls L k) A' c' wr (by omega) (HL.out.ok HE.out) hsl
      rw [hlen] at kw hm
      subst hm
      have hkr := HK.out.below hb hzz
      have HKR := Lib.hid hkr
      clear ho hsl hlen hkr
      go_wp2_with (go_at_call 31; refine kw.mono ?_; rintro e w2 ⟨rfl, hb2⟩; have hk2 := HKR.out.below hb2 HKR.out.lt; have d0 : w2.cell? ⟨w.heap.size, 0, none⟩ = some (.int .i64 0) := hk2.cell 0; have d1 : w2.cell? ⟨w.heap.size, 1, none⟩ = some (.int .i64 0) := hk2.cell 1; have f0 : w2.frozen? ⟨w.heap.size, 0, none⟩ = false := hk2.frozen 0; have f1 : w2.frozen? ⟨w.heap.size, 1, none⟩ = false := hk2.frozen 1)
      have hBs : Below w.heap.size w2 ((w2.setCell ⟨w.heap.size, 0, none⟩ (.int .i64 (sumC (trmL ls L m) m))).setCell ⟨w.heap.size, 1, none⟩ (.int .i64 (sumD (trmL ls L m) m))) := ((Below.refl w.heap.size w2).setCell (p := ⟨w.heap.size, 0, none⟩) (Nat.le_refl _) _).setCell (p := ⟨w.heap.size, 1, none⟩) (Nat.le_refl _) _
      refine bodyPost_ret (v := .tuple #[.agg #[.int .i64 (sumC (trmL ls L m) m), .int .i64 (sumD (trmL ls L m) m)], .int .i64 0]) (by simp [results, Tryz.results11, go_sem, d0, d1]) rfl ⟨rfl, ((HS.out.below hb).below hb2).kept hr hBs, ?_⟩
      exact (bl_call (below_call HB.out hb HB.out.size) hb2).trans hBs
end Go.Proofs.YtbjdiikjnlgmiaaGreat
