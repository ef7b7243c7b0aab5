/- The law RouteHops answers true. -/
import Derived.Test.YtbjdiikjnlgmiaaLawNear
namespace Go.Proofs.Ytbjdiikjnlgmiaa
open Go.RowKit Go.Shelf

/-- At the k-th node of the way: what Far and Next answer there. -/
theorem hop_facts {n : Int} {ls : List Lnk} {T : Nat → Int} (h : Good n ls T) (he : newErr n ls = 0) {a b : Int} {d : Nat} (h0 : askRes n T a b = ((d : Int), 0)) (k : Nat) (hk : k < d) :
    ∃ x, ls[wayAt ls T b.toNat a.toNat k]? = some x ∧ x.src = pathAt ls T b.toNat a.toNat k ∧ x.dst = pathAt ls T b.toNat a.toNat (k + 1) ∧
      askRes n T (pathAt ls T b.toNat a.toNat k) b = ((d : Int) - k, 0) ∧ nextRes n T (pathAt ls T b.toNat a.toNat k) b = (((wayAt ls T b.toNat a.toNat k : Nat) : Int), 0) := by
  have hn := (newErr_zero he).2.1
  have he2 : (askRes n T a b).2 = 0 := by rw [h0]
  obtain ⟨t1, d1⟩ := askRes_zero he2
  rw [h0] at d1
  dsimp only at d1
  obtain ⟨⟨a0, a1⟩, b0, b1⟩ := askRes_ok he2
  obtain ⟨x, hop, hpx⟩ := h.pathHop he (b := b.toNat) (a := a.toNat) (by omega) (by omega) k (by omega)
  obtain ⟨hp1, hp2⟩ := h.path he (b := b.toNat) (a := a.toNat) (by omega) (by omega) k (by omega)
  have har : askRes n T (pathAt ls T b.toNat a.toNat k) b = ((d : Int) - k, 0) := by
    unfold askRes
    rw [if_pos ⟨⟨by omega, hp1⟩, b0, b1⟩, Int.toNat_natCast, hp2, if_neg (by omega)]
    congr 1
    omega
  refine ⟨x, hop.link, hop.src, ?_, har, ?_⟩
  · rw [hpx]; have := hop.lo; omega
  · unfold nextRes
    rw [har]
    dsimp only
    rw [if_neg (by simp), if_neg (by omega), Int.toNat_natCast, hop.nx]

theorem way_k (r p : Nat) (n : Int) (ls : List Lnk) (o : Option (Nat → Int)) (a b : Int) (w : World) (h : RSt w r p n ls o) :
    Calls Try.prog 10 #[.pointer (some ⟨r, 0, none⟩), .int .i64 a, .int .i64 b] w fun e w' => ∃ o' A2 d2 c2 er, e = .returned (.tuple #[.slice A2 d2 c2, .int .i64 er]) ∧ er = (askRes n (tabO o') a b).2 ∧
      (er = 0 → d2 = (askRes n (tabO o') a b).1.toNat ∧ SlAt w' natCells 1 A2 (wayL ls (tabO o') b.toNat a.toNat d2)) ∧ Asks w w' r p n ls o o' a b := by
  refine (way_c r p n ls o a b w h).mono ?_
  rintro e w' ⟨o', hw, ha⟩
  rcases hw with ⟨h, rfl⟩ | ⟨h, A, c, rfl, hs⟩
  · exact ⟨o', none, 0, 0, _, rfl, rfl, fun h0 => absurd h0 h, ha⟩
  · exact ⟨o', A, _, c, 0, rfl, h.symm, fun _ => ⟨rfl, hs⟩, ha⟩

theorem MapIn.kept {w w' : World} {B r p : Nat} {n : Int} {ls : List Lnk} (h : MapIn w B p n ls) (hB : B ≤ r) (hr : r < w.heap.size) (hg : w.grownBy w' (some r)) : MapIn w' B p n ls :=
  h.below ⟨hg.os, hg.tape, hg.output, hg.size, fun k hk => hg.block k (by omega) (fun e => by injection e; omega)⟩

set_option maxRecDepth 100000 in
set_option maxHeartbeats 4000000 in
theorem routeHops_c (n : Int) (ls : List Lnk) (A : Option Addr) (cap : Nat) (a b : Int) (w : World) (hs : SlAt w Lnk.cells 8 A ls) :
    Calls Try.prog 3 #[.int .i64 n, .slice A ls.length cap, .agg #[.int .i64 a, .int .i64 b]] w fun e w' => e = .returned (.bool true) ∧ Below w.heap.size w w' := by
  have kn := known_c
  have hb0 : Below w.heap.size w (w.alloc (.cells #[.int .i64 a, .int .i64 b] 23)) := bl_alloc (Below.refl _ _) _
  by_cases h60 : 60 < ls.length
  · clear hs
    go_enter Try.func3, Try.ntmps3
    go_wp2_with (go_at_call 6; refine (kn _).mono ?_; rintro e w1 ⟨rfl, hb1⟩)
    go_ret
    exact ⟨rfl, bl_call hb0 hb1⟩
  by_cases he : newErr n ls = 0
  case neg =>
    have k1 := new_no_c n ls A cap _ (by omega) (hs.below hb0) he
    have hne : (newErr n ls != 0) = true := by rw [bne_iff_ne]; exact he
    clear hs he
    generalize newErr n ls = er at *
    go_enter Try.func3, Try.ntmps3
    go_wp2_with (first | (go_at_call 7; refine k1.mono ?_; rintro e w1 ⟨rfl, hb1⟩) | (go_at_call 6; refine (kn _).mono ?_; rintro e w2 ⟨rfl, hb2⟩))
    go_ret
    exact ⟨rfl, bl_call (bl_call hb0 hb1) hb2⟩
  case pos =>
    have k1 := new_ok_c n ls A cap _ (by omega) (hs.below hb0) he
    have k2 := fun p w (h : MapSt w p n ls) => rnew_c p n ls w h
    clear hs
    go_enter Try.func3, Try.ntmps3
    go_upto_region 7 with (first | (go_at_call 7; refine k1.mono ?_; rintro e w1 ⟨p, rfl, hm, _, hb1⟩) | (go_at_call 8; refine (k2 _ _ hm).mono ?_; rintro e w2 ⟨r, q, rfl, hst, hr, hb2⟩))
    have hz1 := hb1.size
    rw [World.size_alloc] at hz1
    have hne : w.heap.size ≠ r := by omega
    have hr0 : w.heap.size ≤ r := by omega
    have hB2 := bl_call (bl_call hb0 hb1) hb2
    have hbk := ((Blk.new w 23 #[.int .i64 a, .int .i64 b]).below hb1 (by simp)).below hb2 (by omega)
    have hm2 := (hm.in_.below hb2)
    have hkp : ∀ (W W' : World) (_ : W.grownBy W' (some r)) (i : Nat) (v : Value), W.cell? ⟨w.heap.size, i, none⟩ = some v → W'.cell? ⟨w.heap.size, i, none⟩ = some v := fun _ _ hg i v h => hg.cell h (fun e => hne (by injection e))
    have c0 : w2.cell? ⟨w.heap.size, 0, none⟩ = some (.int .i64 a) := hbk.cell 0
    have c1 : w2.cell? ⟨w.heap.size, 1, none⟩ = some (.int .i64 b) := hbk.cell 1
    have HB2 := Lib.hid hB2
    have HK := Lib.hid hkp
    have HE := Lib.hid he
    have HM := Lib.hid hm2
    have hB1 : w1.heap.size ≤ w2.heap.size := hb2.size
    have HR := Lib.hid hr
    have k3 := far_c r q n ls none a b w2 hst
    have hrl := hst.lt
    clear hbk hm hst hb1 hb2 hb0 k1 k2 hB2 hkp he hz1 hr hm2
    go_upto_region 8 with (go_at_call 9; refine k3.mono ?_; rintro e w3 ⟨o1, rfl, ha1⟩)
    have d0 := HK.out _ _ ha1.gr 0 _ c0
    have d1 := HK.out _ _ ha1.gr 1 _ c1
    have HA1 := Lib.hid ha1
    have k4 := way_k r q n ls o1 a b w3 ha1.st
    clear k3 ha1 c0 c1
    go_upto_region 9 with (go_at_call 10; refine k4.mono ?_; rintro e w4 ⟨o2, A2, d2, c2, er, rfl, her, hway, ha2⟩)
    have c0 := HK.out _ _ ha2.gr 0 _ d0
    have c1 := HK.out _ _ ha2.gr 1 _ d1
    have hg24 := HA1.out.gr.trans ha2.gr
    have hB1 := Nat.le_trans hB1 hg24.size
    have hB4 : Below w.heap.size w w4 := HB2.out.grown hg24 HB2.out.size (fun k e => by injection e with e; omega)
    have hm4 := HM.out.kept HR.out hrl hg24
    have e1 := res_final (o4 := o2) HA1.out.made (fun T h => ha2.ext T h)
    rw [e1, ← her]
    have hst4 := ha2.st
    have hmade := ha2.made
    have HA := Lib.hid ha2
    clear k4 ha2 d0 d1 e1 HA1 HM HR hg24
    by_cases hz : er = 0
    case neg =>
      have hz1 : (er == 0) = false := by rw [beq_eq_false_iff_ne]; exact hz
      have hkw := kn w4
      generalize (askRes n (tabO o2) a b).1 = d1 at *
      clear hz hway kn her hmade
      go_wp2_with (go_at_call 6; refine hkw.mono ?_; rintro e w7 ⟨rfl, hb7⟩)
      go_ret
      exact ⟨rfl, bl_call hB4 hb7⟩
    case pos =>
      subst hz
      obtain ⟨T, rfl⟩ := hmade (askRes_ok her.symm)
      have ht : tabO (some T) = T := rfl
      rw [ht] at her hway
      have hgood : Good n ls T := hst4.rt.2
      obtain ⟨hd2, hsl⟩ := hway rfl
      have hbd := askRes_bd hgood a b
      obtain ⟨d, hd⟩ : ∃ d : Nat, askRes n T a b = ((d : Int), 0) := ⟨(askRes n T a b).1.toNat, by
        have h1 : ((askRes n T a b).1.toNat : Int) = (askRes n T a b).1 := by omega
        rw [h1]
        exact Prod.ext rfl her.symm⟩
      have hdd : (askRes n (tabO (some T)) a b).1 = d := by rw [ht, hd]
      have hd100 : d ≤ 100 := by rw [hd] at hbd; exact Int.ofNat_le.1 hbd.2
      have hd2' : d = d2 := by rw [hd2, hd]; rfl
      subst hd2'
      rw [hdd]
      obtain ⟨⟨a0, a1⟩, b0, b1⟩ := askRes_ok (h := her.symm)
      have hpa : a = (pathAt ls T b.toNat a.toNat 0 : Nat) := by simp [pathAt]; omega
      have hend : (pathAt ls T b.toNat a.toNat d : Int) = b := by
        obtain ⟨t1, dd1⟩ := askRes_zero her.symm
        have hh := hgood.pathEnd HE.out (b := b.toNat) (a := a.toNat) (by omega) (by omega) t1
        rw [hd] at dd1
        dsimp only at dd1
        have h2 : (T (b.toNat * 16 + a.toNat) - 1).toNat = d := by omega
        rw [h2] at hh
        rw [hh]
        omega
      have hHF := fun k (hk : k < d) => hop_facts hgood HE.out hd k hk
      have HF := Lib.hid hHF
      have HS4 := Lib.hid hst4
      have HM4 := Lib.hid hm4
      have HSL := Lib.hid hsl
      have HP := Lib.hid hpa
      have HEND := Lib.hid hend
      have hzw := hB4.size
      have hzb := World.block_lt_of_cell? _ _ c1
      dsimp only at hzb
      have hlw := wayL_len ls T b.toNat a.toNat d
      clear hHF hst4 hm4 hsl hpa hend hway hd2 hd hdd her hbd hmade ht hgood
      go_upto_block 0 with fail
      go_wp2_with fail
      go_loopw [15, 16] (fun s15 s16 wr => ∃ k : Nat, s16 = .int .i64 k ∧ k ≤ d ∧ s15 = .int .i64 (pathAt ls T b.toNat a.toNat k : Nat) ∧ RSt wr r q n ls (some T) ∧ Below w4.heap.size w4 wr) (fun _ s16 _ => d - (intOf s16).toNat)
      case atStart => exact ⟨0, rfl, Nat.zero_le _, by rw [← HP.out], HS4.out, Below.refl _ _⟩
      case round =>
        obtain ⟨k, rfl, hk, rfl, hst, hb⟩ := hrel
        have c1r := (hb.cell (World.block_lt_of_cell? _ _ c1)).trans c1
        by_cases hlt : k < d
        · obtain ⟨x, hx, hxs, hxd, har, hnx⟩ := HF.out k hlt
          have hwk : (wayL ls T b.toNat a.toNat d)[k]? = some (wayAt ls T b.toNat a.toNat k) := by
            unfold wayL
            rw [List.getElem?_map, List.getElem?_range hlt]
            rfl
          obtain ⟨g, o, rfl, hgl, hc⟩ := (HSL.out.below hb).at_ hwk
          have cw := hc 0 _ rfl
          rw [Nat.add_zero, Nat.mul_one] at cw
          have hmr := (HM4.out.below (hb.mono hB1)).st
          have kN : Calls Try.prog 11 #[.pointer (some ⟨r, 0, none⟩), .int .i64 (pathAt ls T b.toNat a.toNat k : Nat), .int .i64 b] wr fun e w' => e = .returned (.tuple #[.int .i64 (wayAt ls T b.toNat a.toNat k : Nat), .int .i64 0]) ∧ Below wr.heap.size wr w' := by
            refine (next_c r q n ls (some T) _ b wr hst).mono ?_
            rintro e w' ⟨o', rfl, ha⟩
            obtain rfl := ha.ext T rfl
            have ht : tabO (some T) = T := rfl
            rw [ht, hnx]
            exact ⟨rfl, ha.same T rfl⟩
          have kF : ∀ W, Below wr.heap.size wr W → Calls Try.prog 9 #[.pointer (some ⟨r, 0, none⟩), .int .i64 (pathAt ls T b.toNat a.toNat k : Nat), .int .i64 b] W fun e w' => e = .returned (.tuple #[.int .i64 ((d : Int) - k), .int .i64 0]) ∧ Below W.heap.size W w' := fun W hW => by
            refine (far_c r q n ls (some T) _ b W (hst.below hW)).mono ?_
            rintro e w' ⟨o', rfl, ha⟩
            obtain rfl := ha.ext T rfl
            have ht : tabO (some T) = T := rfl
            rw [ht, har]
            exact ⟨rfl, ha.same T rfl⟩
          have kL : ∀ W, Below wr.heap.size wr W → Calls Try.prog 12 #[.pointer (some ⟨p, 0, none⟩), .int .i64 (wayAt ls T b.toNat a.toNat k : Nat)] W fun e w' => e = .returned (.tuple #[.agg #[.int .i64 x.src, .int .i64 x.dst, .int .i64 x.rate, .int .i64 x.share, .int .i64 x.far, .int .i64 x.most, .int .i64 x.room, .int .i64 x.fifo], .int .i64 0]) ∧ Below W.heap.size W w' := fun W hW => link_c p n ls _ x hx W (hmr.below hW)
          have HS := Lib.hid hst
          have HXD := Lib.hid hxd
          have hzr := hb.size
          have hzc := World.block_lt_of_cell? _ _ c1r
          dsimp only at hzc
          clear hc hmr hst hx har hnx hxd hwk
          rw [hxs] at kL
          clear hxs
          generalize pathAt ls T b.toNat a.toNat k = cur at *
          generalize wayAt ls T b.toNat a.toNat k = i at *
          go_upto_region 18 with (go_at_call 11; refine kN.mono ?_; rintro e w5 ⟨rfl, hb5⟩; obtain ⟨hcc, hff⟩ := bcell hb5; have hz5 := hb5.size)
          have kL5 := kL w5 hb5
          go_upto_region 19 with (go_at_call 12; refine kL5.mono ?_; rintro e w6 ⟨rfl, hb6⟩)
          obtain ⟨W, hW⟩ : ∃ W, W = w6.alloc (.cells #[.int .i64 (cur : Int), .int .i64 x.dst, .int .i64 x.rate, .int .i64 x.share, .int .i64 x.far, .int .i64 x.most, .int .i64 x.room, .int .i64 x.fifo] 38) := ⟨_, rfl⟩
          have hBW : Below wr.heap.size wr W := by rw [hW]; exact bl_alloc (bl_call hb5 hb6) _
          have q0 : W.cell? ⟨w6.heap.size, 0, none⟩ = some (.int .i64 (cur : Int)) := by rw [hW]; simp
          have q1 : W.cell? ⟨w6.heap.size, 1, none⟩ = some (.int .i64 x.dst) := by rw [hW]; simp
          have qb := (hBW.cell (p := ⟨w.heap.size, 1, none⟩) hzc).trans c1r
          have qw := (hBW.cell (p := ⟨g, _, none⟩) hgl).trans cw
          have kFW := kF W hBW
          rw [← hW]
          clear hW hcc hff hb5 hb6 kL5 kL kF kN c1r cw hz5
          generalize w6.heap.size = b19 at *
          go_upto_region 20 with (go_at_call 9; refine kFW.mono ?_; rintro e w7 ⟨rfl, hb7⟩)
          have r0 := (hb7.cell (World.block_lt_of_cell? _ _ q0)).trans q0
          have r1 := (hb7.cell (World.block_lt_of_cell? _ _ q1)).trans q1
          have rw7 := (hb7.cell (World.block_lt_of_cell? _ _ qw)).trans qw
          have hB7 := bl_call hBW hb7
          have hwr : IntKind.i64.wrap ((d : Int) - k) = (d : Int) - k := IntWalk.i64_in _ (by omega)
          clear kFW q0 q1 qb qw hb7 hBW
          go_wp2_with fail
          go_roundw
          case rel => exact ⟨k + 1, by go_num, hlt, by rw [HXD.out], HS.out.below hB7, hb.trans (hB7.mono hb.size)⟩
          case measure => simp [intOf]; omega
        · obtain rfl : k = d := by omega
          have hkw := kn wr
          rw [HEND.out]
          have hB := hB4.trans (hb.mono hzw)
          clear kn HF HS4 HM4 HSL HP HEND
          go_wp2_with (go_at_call 6; refine hkw.mono ?_; rintro e w7 ⟨rfl, hb7⟩)
          go_ret
          exact ⟨rfl, bl_call hB hb7⟩
end Go.Proofs.Ytbjdiikjnlgmiaa
