/- The document's way is the table's. -/
import Derived.Test.YtbjdiikjnlgmiaaGreatWaysE
import Derived.Deep.RegionHeld3
namespace Go.Proofs.YtbjdiikjnlgmiaaGreat
open Go.RowKit Go.Shelf

theorem first_near {n : Nat} {ls : List Lnk} {T : Nat → Int} {b cur i0 : Nat} {r : Nat} {x0 : Lnk} (hd : dups ls = false) (hop : Hop n ls T b cur i0 x0) (hf : T (b * 16 + cur) - 1 = r)
    (hl : ∀ (k : Nat) (y : Lnk), ls[k]? = some y → y.src = cur → T (b * 16 + y.dst.toNat) = r → x0.dst ≤ y.dst) (j i : Nat) (y : Lnk) (hji : (outR ls cur n)[j]? = some i) (hy : ls[i]? = some y) (hn : T (b * 16 + y.dst.toNat) = r)
    (hno : ∀ j' i' y', j' < j → (outR ls cur n)[j']? = some i' → ls[i']? = some y' → T (b * 16 + y'.dst.toNat) ≠ r) : i = i0 := by
  have h1 := link_btw hd hop.link
  rw [hop.src] at h1
  have hlo := hop.lo
  have hhi := hop.hi
  have h2 : ((x0.dst.toNat : Nat) : Int) = x0.dst := by omega
  have hin : i0 ∈ outR ls cur n := (outR_mem n).2 ⟨x0.dst.toNat, by omega, by rw [h2]; exact h1⟩
  obtain ⟨p0, hp0⟩ := List.getElem?_of_mem hin
  have hnear : T (b * 16 + x0.dst.toNat) = r := by rw [hop.far, hf]
  rcases Nat.lt_trichotomy p0 j with h | h | h
  · exact absurd hnear (hno p0 i0 x0 h hp0 hop.link)
  · subst h
    rw [hp0] at hji
    injection hji with hji
    exact hji.symm
  · have hs := outR_sorted (ls := ls) (f := (cur : Int)) n
    rw [List.pairwise_iff_getElem] at hs
    obtain ⟨l1, g1⟩ := List.getElem?_eq_some_iff.1 hji
    obtain ⟨l2, g2⟩ := List.getElem?_eq_some_iff.1 hp0
    obtain ⟨s, t, hst, _, b1, b2⟩ := hs j p0 l1 l2 h
    rw [g1] at b1
    rw [g2] at b2
    obtain ⟨y1, hy1, ys, yd⟩ := btw_link b1
    obtain ⟨z1, hz1, zs, zd⟩ := btw_link b2
    rw [hy] at hy1
    injection hy1 with hy1
    subst hy1
    rw [hop.link] at hz1
    injection hz1 with hz1
    subst hz1
    have := hl i y hy ys hn
    omega

set_option maxRecDepth 100000 in
set_option maxHeartbeats 2000000 in
theorem rway_c (n : Nat) (ls : List Lnk) (T : Nat → Int) (A : Option Addr) (cap : Nat) (a b : Int) (w : World) (hg : okp n a b → Good n ls T) (he : newErr n ls = 0) (hs : SlAt w Lnk.cells 8 A ls) :
    Calls Tryz.prog 12 #[rmap n A ls.length cap, .int .i64 a, .int .i64 b] w fun e w' => WayRes w' n ls T a b e ∧ Below w.heap.size w w' := by
  obtain ⟨_, hn16, hl48, _, hdup, _⟩ := newErr_zero he
  obtain ⟨w0, hw0⟩ : ∃ w0, w0 = w.alloc (.cells #[.int .i64 (n : Int), .slice A ls.length cap] 30) := ⟨_, rfl⟩
  have hb0 : Below w.heap.size w w0 := by rw [hw0]; exact bl_alloc (Below.refl _ _) _
  have hbk0 : Blk w0 w.heap.size 30 #[.int .i64 (n : Int), .slice A ls.length cap] := by rw [hw0]; exact Blk.new _ _ _
  have c0 : w0.cell? ⟨w.heap.size, 0, none⟩ = some (.int .i64 (n : Int)) := hbk0.cell 0
  have c1 : w0.cell? ⟨w.heap.size, 1, none⟩ = some (.slice A ls.length cap) := hbk0.cell 1
  by_cases hok : okp n a b
  case neg =>
    have hr : askRes n T a b = (0, 4) := by unfold askRes; rw [if_neg hok]
    have HW := Lib.hid (show ∀ w', WayRes w' n ls T a b (.returned (.tuple #[.slice none 0 0, .int .i64 4])) from fun w' => .inl ⟨by rw [hr]; decide, by rw [hr]⟩)
    unfold okp at hok
    unfold rmap
    clear hr hg
    by_cases a0 : a < 0
    · clear hok
      go_enter Tryz.func12, Tryz.ntmps12
      go_upto_region 1 with fail
      rw [← hw0]
      clear hw0
      go_wp2
      go_ret2
      exact ⟨HW.out _, hb0⟩
    · by_cases a1 : (n : Int) ≤ a
      · clear hok
        go_enter Tryz.func12, Tryz.ntmps12
        go_upto_region 1 with fail
        rw [← hw0]
        clear hw0
        go_wp2
        go_ret2
        exact ⟨HW.out _, hb0⟩
      · by_cases b0 : b < 0
        · clear hok
          go_enter Tryz.func12, Tryz.ntmps12
          go_upto_region 1 with fail
          rw [← hw0]
          clear hw0
          go_wp2
          go_ret2
          exact ⟨HW.out _, hb0⟩
        · have b1 : (n : Int) ≤ b := by omega
          clear hok
          go_enter Tryz.func12, Tryz.ntmps12
          go_upto_region 1 with fail
          rw [← hw0]
          clear hw0
          go_wp2
          go_ret2
          exact ⟨HW.out _, hb0⟩
  case pos =>
    have hgood := hg hok
    obtain ⟨⟨a0, a1⟩, b0, b1⟩ := hok
    obtain ⟨a, rfl⟩ : ∃ k : Nat, a = k := ⟨a.toNat, by omega⟩
    obtain ⟨b, rfl⟩ : ∃ k : Nat, b = k := ⟨b.toNat, by omega⟩
    have ha : a < n := by omega
    have hbn : b < n := by omega
    have hpos := (hgood.2 (b * 16 + a)).1
    have h100 := (hgood.2 (b * 16 + a)).2
    have kf := fun (v : Nat) (hv : v < n) W (hW : Below w.heap.size w W) => rfar_c n ls T A cap v b W hgood he hv hbn (hs.below hW)
    have k0 := kf a ha w0 hb0
    unfold rmap at kf k0 ⊢
    by_cases hz : T (b * 16 + a) = 0
    · have hr : askRes n T a b = (0, 200) := by
        unfold askRes
        rw [if_pos ⟨⟨by omega, by omega⟩, by omega, by omega⟩, Int.toNat_natCast, Int.toNat_natCast, if_pos hz]
      have HW := Lib.hid (show ∀ w', WayRes w' n ls T a b (.returned (.tuple #[.slice none 0 0, .int .i64 200])) from fun w' => .inl ⟨by rw [hr]; decide, by rw [hr]⟩)
      have hf : farI T a b = -1 := by unfold farI; rw [if_pos hz]
      rw [hf] at k0
      clear hr hf hz hg kf hgood
      go_enter Tryz.func12, Tryz.ntmps12
      go_upto_region 1 with fail
      rw [← hw0]
      clear hw0
      go_wp2_with (go_at_call 32; refine k0.mono ?_; rintro e w1 ⟨rfl, hb1⟩)
      go_ret2
      exact ⟨HW.out _, bl_call hb0 hb1⟩
    · obtain ⟨d, hd⟩ : ∃ d : Nat, T (b * 16 + a) = d + 1 := ⟨(T (b * 16 + a) - 1).toNat, by omega⟩
      have hr : askRes n T a b = ((d : Int), 0) := by
        unfold askRes
        rw [if_pos ⟨⟨by omega, by omega⟩, by omega, by omega⟩, Int.toNat_natCast, Int.toNat_natCast, if_neg hz, hd]
        simp
      have HW := Lib.hid (show ∀ w' e, (∃ A c, e = .returned (.tuple #[.slice A d c, .int .i64 0]) ∧ SlAt w' natCells 1 A (wayL ls T b a d)) → WayRes w' n ls T a b e from fun w' e hh => .inr ⟨by rw [hr], by rw [hr]; exact hh⟩)
      have hf : farI T a b = d := by unfold farI; rw [if_neg hz, hd]; omega
      rw [hf] at k0
      have hd100 : d ≤ 100 := by omega
      have HK := Lib.hid kf
      have HGD := Lib.hid hgood
      have HE := Lib.hid he
      have HD := Lib.hid hd
      clear hr hf hz hg kf hgood he hd hpos h100
      go_enter Tryz.func12, Tryz.ntmps12
      go_upto_region 1 with fail
      rw [← hw0]
      clear hw0
      go_upto_region 4 with (go_at_call 32; refine k0.mono ?_; rintro e w1 ⟨rfl, hb1⟩)
      have hbk1 := hbk0.below hb1 hbk0.lt
      have hb2 := bl_call hb0 hb1
      clear k0 hb1 c0 c1 hb0 hbk0
      go_wp2_with fail
      go_loopw [1, 8, 9] (fun s1 s8 s9 wr => ∃ (r : Nat) (A' : Option Addr) (m c' : Nat), s8 = .int .i64 r ∧ r ≤ d ∧ s1 = .int .i64 (pathAt ls T b a (d - r) : Nat) ∧ s9 = .slice A' m c' ∧ OwnsL wr (w.heap.size + 1) 3 natCells 1 s9 (wayL ls T b a (d - r)) ∧ Below w.heap.size w wr ∧ Blk wr w.heap.size 30 #[.int .i64 (n : Int), .slice A ls.length cap]) (fun _ s8 _ _ => (intOf s8).toNat)
      case atStart => exact ⟨d, none, 0, 0, rfl, Nat.le_refl _, by rw [Nat.sub_self]; rfl, rfl, by rw [Nat.sub_self]; exact OwnsL.nil _ _ _, hb2, hbk1⟩
      case round =>
        clear hb2 hbk1
        obtain ⟨r, A', m, c', rfl, hrd, rfl, rfl, ho, hbw, hbk⟩ := hrel
        by_cases hr0 : 0 < r
        · obtain ⟨x0, hop, hpx⟩ := HGD.out.pathHop HE.out (b := b) (a := a) (by omega) (by omega) (d - r) (by rw [HD.out]; omega)
          obtain ⟨hpn, hpf⟩ := HGD.out.path HE.out (b := b) (a := a) (by omega) (by omega) (d - r) (by rw [HD.out]; omega)
          have hcf : T (b * 16 + pathAt ls T b a (d - r)) = r + 1 := by rw [hpf, HD.out]; omega
          have hleast := fun (k : Nat) (y : Lnk) (hy : ls[k]? = some y) (hys : y.src = pathAt ls T b a (d - r)) (hyd : T (b * 16 + y.dst.toNat) = r) => HGD.out.hopLeast HE.out (by omega) hpn (by rw [hcf]; omega) hop hy hys (by rw [hcf, hyd]; omega)
          have hwl := wayL_succ ls T b a (d - r)
          have hsucc : d - r + 1 = d - (r - 1) := by omega
          rw [hsucc] at hpx hwl
          have hwn := wayL_len ls T b a (d - r)
          have kout := rout_c n ls A cap (pathAt ls T b a (d - r)) wr (by omega) (by omega) (hs.below hbw)
          unfold rmap at kout
          have q0 : wr.cell? ⟨w.heap.size, 0, none⟩ = some (.int .i64 (n : Int)) := hbk.cell 0
          have q1 : wr.cell? ⟨w.heap.size, 1, none⟩ = some (.slice A ls.length cap) := hbk.cell 1
          have HHOP := Lib.hid hop
          have HPX := Lib.hid hpx
          have HWL := Lib.hid hwl
          have HO := Lib.hid ho
          have HBK := Lib.hid hbk
          have HL := Lib.hid hleast
          have HCF := Lib.hid hcf
          clear hop hpx hwl ho hbk hleast hcf hpf
          generalize wayAt ls T b a (d - r) = i0 at *
          generalize pathAt ls T b a (d - r) = cur at *
          go_upto_block 2 with (go_at_call 33; refine kout.mono ?_; rintro e w2 ⟨A2, m2, c2, rfl, hm2, hsl2, hb2⟩)
          have hfirst : ∀ (j i : Nat) (y : Lnk), (outR ls cur n)[j]? = some i → ls[i]? = some y → T (b * 16 + y.dst.toNat) = r → (∀ j' i' y', j' < j → (outR ls cur n)[j']? = some i' → ls[i']? = some y' → T (b * 16 + y'.dst.toNat) ≠ r) → i = i0 :=
            first_near hdup HHOP.out (by rw [HCF.out]; omega) HL.out
          have hlink : ∀ (j i : Nat), (outR ls cur n)[j]? = some i → ∃ y, ls[i]? = some y ∧ y.src = cur ∧ 0 ≤ y.dst ∧ y.dst < n := fun j i hji => by
            obtain ⟨t, ht, hbt⟩ := (outR_mem n).1 (List.mem_of_getElem? hji)
            obtain ⟨y, hy, h1, h2⟩ := btw_link hbt
            exact ⟨y, hy, h1, by omega, by omega⟩
          have HF := Lib.hid hfirst
          have HLK := Lib.hid hlink
          have hin := (outR_mem (ls := ls) (f := (cur : Int)) (i := i0) n).2 ⟨x0.dst.toNat, by have := HHOP.out.hi; have := HHOP.out.lo; omega, by
            have h1 := link_btw hdup HHOP.out.link
            rw [HHOP.out.src] at h1
            have h2 : ((x0.dst.toNat : Nat) : Int) = x0.dst := by have := HHOP.out.lo; omega
            rw [h2]; exact h1⟩
          have HIN := Lib.hid hin
          have hbk2 := HBK.out.below hb2 HBK.out.lt
          have ho2 := HO.out.below hb2
          have hbw2 := bl_call hbw hb2
          have HBK2 := Lib.hid hbk2
          have HO2 := Lib.hid ho2
          have HS2 := Lib.hid hsl2
          clear hfirst hlink hin hbk2 ho2 hsl2 q0 q1 kout HO HBK hbw hb2
          go_wp2_with fail
          go_loopw [1, 9, 11] (fun s1 s9 s11 wx => ∃ j : Nat, s11 = .int .i64 j ∧ s1 = .int .i64 cur ∧ s9 = .slice A' m c' ∧ j ≤ m2 ∧ (∀ j' i' y', j' < j → (outR ls cur n)[j']? = some i' → ls[i']? = some y' → T (b * 16 + y'.dst.toNat) ≠ r) ∧ Below w2.heap.size w2 wx) (fun _ _ s11 _ => m2 - (intOf s11).toNat)
          case atStart => exact ⟨0, rfl, rfl, rfl, Nat.zero_le _, fun j' i' y' h => by omega, Below.refl _ _⟩
          case round =>
            obtain ⟨j, rfl, rfl, rfl, hj, hno, hbx⟩ := hrel
            have hol := outR_len ls (cur : Int) n
            have hjl : j < m2 := by
              rcases Nat.lt_or_ge j m2 with h | h
              · exact h
              · obtain ⟨p0, hp0⟩ := List.getElem?_of_mem HIN.out
                have hp1 := (List.getElem?_eq_some_iff.1 hp0).1
                exact absurd (by rw [HHOP.out.far, HCF.out]; omega) (hno p0 i0 x0 (by omega) hp0 HHOP.out.link)
            obtain ⟨i', hi'⟩ : ∃ i', (outR ls cur n)[j]? = some i' := ⟨_, List.getElem?_eq_getElem (by omega)⟩
            obtain ⟨y, hy, hys, hy0, hyn⟩ := HLK.out j i' hi'
            have hbwx := bl_call hbw2 hbx
            obtain ⟨bb, oo, rfl, hbb, hc⟩ := (hs.below hbwx).at_ hy
            obtain ⟨gg, og, rfl, hgg, hcg⟩ := (HS2.out.below hbx).at_ hi'
            have q0 := hc 0 _ rfl
            rw [Nat.add_zero] at q0
            have q1 := hc 1 _ rfl
            have q2 := hc 2 _ rfl
            have q3 := hc 3 _ rfl
            have q4 := hc 4 _ rfl
            have q5 := hc 5 _ rfl
            have q6 := hc 6 _ rfl
            have q7 := hc 7 _ rfl
            have qg := hcg 0 _ rfl
            rw [Nat.add_zero, Nat.mul_one] at qg
            have hbkx := HBK2.out.below hbx HBK2.out.lt
            have qb : wr.cell? ⟨w.heap.size, 1, none⟩ = some (.slice (some ⟨bb, oo, none⟩) ls.length cap) := hbkx.cell 1
            have hil : i' < ls.length := (List.getElem?_eq_some_iff.1 hy).1
            have HY := Lib.hid hy
            have HI := Lib.hid hi'
            have HN := Lib.hid hno
            have HBX := Lib.hid hbx
            clear hc hcg hy hi' hno hbkx hbx
            go_upto_region 12 with fail
            go_region_held3 (fun w' => w'.cell? ⟨w.heap.size, 1, none⟩ = some (.slice (some ⟨bb, oo, none⟩) ls.length cap) ∧ w'.cell? ⟨gg, og + j, none⟩ = some (.int .i64 (i' : Int)) ∧ w'.cell? ⟨bb, oo + i' * 8, none⟩ = some (.int .i64 y.src) ∧ w'.cell? ⟨bb, oo + i' * 8 + 1, none⟩ = some (.int .i64 y.dst) ∧ w'.cell? ⟨bb, oo + i' * 8 + 2, none⟩ = some (.int .i64 y.rate) ∧ w'.cell? ⟨bb, oo + i' * 8 + 3, none⟩ = some (.int .i64 y.share) ∧ w'.cell? ⟨bb, oo + i' * 8 + 4, none⟩ = some (.int .i64 y.far) ∧ w'.cell? ⟨bb, oo + i' * 8 + 5, none⟩ = some (.int .i64 y.most) ∧ w'.cell? ⟨bb, oo + i' * 8 + 6, none⟩ = some (.int .i64 y.room) ∧ w'.cell? ⟨bb, oo + i' * 8 + 7, none⟩ = some (.int .i64 y.fifo)) (first | go_keep | (refine ⟨?_, ?_, ?_, ?_, ?_, ?_, ?_, ?_, ?_, ?_⟩ <;> go_keep)) (fail)
            rename_i hheld
            obtain ⟨W, hW⟩ : ∃ W, W = (wr.alloc (.cells #[.int .i64 (cur : Int), .int .i64 y.dst, .int .i64 y.rate, .int .i64 y.share, .int .i64 y.far, .int .i64 y.most, .int .i64 y.room, .int .i64 y.fifo] 51)).drew := ⟨_, rfl⟩
            have hBW : Below wr.heap.size wr W := by rw [hW]; exact bl_drew (bl_alloc (Below.refl _ _) _)
            have t1 : W.cell? ⟨wr.heap.size, 1, none⟩ = some (.int .i64 y.dst) := by rw [hW]; exact (Blk.new wr 51 #[.int .i64 (cur : Int), .int .i64 y.dst, .int .i64 y.rate, .int .i64 y.share, .int .i64 y.far, .int .i64 y.most, .int .i64 y.room, .int .i64 y.fifo]).cell 1
            have hbW := bl_call hbwx hBW
            obtain ⟨v, hv⟩ : ∃ v : Nat, y.dst = v := ⟨y.dst.toNat, by omega⟩
            have kv := HK.out v (by omega) W hbW
            have hbkW := (HBK2.out.below HBX.out HBK2.out.lt).below hBW (HBK2.out.below HBX.out HBK2.out.lt).lt
            have b0 : W.cell? ⟨w.heap.size, 0, none⟩ = some (.int .i64 (n : Int)) := hbkW.cell 0
            have b1 : W.cell? ⟨w.heap.size, 1, none⟩ = some (.slice (some ⟨bb, oo, none⟩) ls.length cap) := hbkW.cell 1
            have qgW := (hBW.cell (p := ⟨gg, _, none⟩) hgg).trans qg
            have hxW := HBX.out.trans (hBW.mono HBX.out.size)
            have hv' : y.dst.toNat = v := by rw [hv]; rfl
            have hnr : (farI T v b == (r : Int) - 1) = decide (T (b * 16 + v) = r) := by
              have hp := (HGD.out.2 (b * 16 + v)).1
              rw [Bool.eq_iff_iff, beq_iff_eq, decide_eq_true_eq]
              unfold farI
              split <;> omega
            have HV := Lib.hid hv'
            rw [hv] at t1
            rw [← hW]
            clear hW hBW q0 q1 q2 q3 q4 q5 q6 q7 qg qb hheld hv hv'
            have hb12 : w2.heap.size ≤ wr.heap.size := HBX.out.size
            have hob : some wr.heap.size ≠ (Value.slice A' m c').ownBlock := fun e => by
              have := (World.ownsRow.lt HO2.out _ e.symm).2
              omega
            generalize wr.heap.size = b12 at *
            by_cases hnear : T (b * 16 + v) = r
            · rw [decide_eq_true hnear] at hnr
              have hii := HF.out j i' y HI.out HY.out (by rw [HV.out]; exact hnear) HN.out
              subst hii
              have hyx : y = x0 := by
                have := HY.out
                rw [HHOP.out.link] at this
                injection this with this
                exact this.symm
              have hpv : v = pathAt ls T b a (d - (r - 1)) := by rw [HPX.out, ← hyx, HV.out]
              have hfv : farI T v b = (r : Int) - 1 := by simpa using hnr
              rw [hfv] at kv
              have HPV := Lib.hid hpv
              clear hnear hfv hnr hpv
              go_wp2_with (first
                | (go_at_call 32; refine kv.mono ?_; rintro e w3 ⟨rfl, hb3⟩
                   have t3 := (hb3.cell (World.block_lt_of_cell? _ _ t1)).trans t1
                   have qg3 := (hb3.cell (World.block_lt_of_cell? _ _ qgW)).trans qgW
                   have hbk3 := hbkW.below hb3 hbkW.lt
                   have ho3 := HO2.out.below (bl_call hxW hb3)
                   have hbw3 := bl_call hbW hb3
                   have hn3 := Blk.new w3 3 #[.int .i64 (i' : Int)]
                   have HN3 := Lib.hid hn3
                   have HO3 := Lib.hid ho3
                   have hz3 := hbk3.lt
                   clear hn3 ho3 hb3 kv b0 b1 t1 qgW hbkW hxW)
                | (at_builtin; refine wpList_appendT elemN _ rfl _ _ rfl (w.heap.size + 1) _ (wayL ls T b a (d - r)) [i'] rfl (OwnsL.below HO3.out ?_) _ 1 1 rfl rfl (sl_one HN3.out) ?_ ?_ ?_))
              · (repeat (first | exact Below.refl _ _ | refine bl_drew ?_ | refine bl_alloc ?_ _ | refine bl_drewN ?_ _))
              · simp only [hwn, List.length_cons, List.length_nil]; omega
              · simp; omega
              · intro v' w' ho' hgr _
                have hB' : Below (w.heap.size + 1) w3 w' := ((Below.refl _ w3).alloc (by omega) _).grown hgr (by simp; omega) (fun g hg => (World.ownsRow.lt HO3.out g hg).1)
                have hBw := hbw3.trans (hB'.mono (Nat.le_succ _))
                have hbk' := hbk3.below hB' (Nat.lt_succ_self _)
                have t4 : w'.cell? ⟨b12, 1, none⟩ = some (.int .i64 (v : Int)) := World.grownBy.cell hgr ((World.cell?_alloc_lt w3 _ _ (World.block_lt_of_cell? _ _ t3)).trans t3) hob
                rcases ho'.form' with ⟨_, h⟩ | ⟨g, c3, rfl, _, _⟩
                · simp at h
                · have HP := Lib.hid ho'
                  clear ho' hgr hB'
                  go_wp2
                  go_roundw
                  case rel => exact ⟨r - 1, _, _, c3, by go_num, by omega, by rw [← HPV.out], rfl, by rw [HWL.out]; exact HP.out, hBw, hbk'⟩
                  case measure => simp [intOf]; omega
            · rw [decide_eq_false hnear] at hnr
              have hno' : ∀ j' i2 y', j' < j + 1 → (outR ls cur n)[j']? = some i2 → ls[i2]? = some y' → T (b * 16 + y'.dst.toNat) ≠ r := fun j' i2 y' hj' h1 h2 => by
                by_cases e : j' = j
                · subst e
                  rw [HI.out] at h1
                  injection h1 with h1
                  subst h1
                  rw [HY.out] at h2
                  injection h2 with h2
                  subst h2
                  rw [HV.out]
                  exact hnear
                · exact HN.out j' i2 y' (by omega) h1 h2
              have HN' := Lib.hid hno'
              clear hno' hnear
              generalize farI T v b = fv at *
              go_wp2_with (go_at_call 32; refine kv.mono ?_; rintro e w3 ⟨rfl, hb3⟩; obtain ⟨hcc, hff⟩ := bcell hb3)
              go_roundw
              case rel => exact ⟨j + 1, by go_num, rfl, rfl, by omega, HN'.out, bl_call hxW hb3⟩
              case measure => simp [intOf]; omega
        · obtain rfl : r = 0 := by omega
          have hmd : m = d := by
            have := wayL_len ls T b a (d - 0)
            rcases ho.form' with ⟨h1, h2⟩ | ⟨g, c2, h1, _⟩
            · injection h1 with _ h1; rw [h1]; rw [h2] at this; simpa using this
            · injection h1 with _ h1; rw [h1, this, Nat.sub_zero]
          subst hmd
          have hsl := OwnsL.slAt (enc := natCells) (k := 1) (fun _ => rfl) ho
          rw [Nat.sub_zero] at hsl
          have HSL := Lib.hid hsl
          clear ho hsl hbk
          go_wp2
          go_ret2
          exact ⟨HW.out _ _ ⟨A', c', rfl, HSL.out⟩, hbw⟩
end Go.Proofs.YtbjdiikjnlgmiaaGreat
