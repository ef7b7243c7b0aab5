/- The law RouteWays answers true. -/
import Derived.Test.YtbjdiikjnlgmiaaGreatWaysM
namespace Go.Proofs.YtbjdiikjnlgmiaaGreat
open Go.RowKit Go.Shelf

set_option maxRecDepth 100000 in
set_option maxHeartbeats 4000000 in
theorem ways_long (n : Int) (ls : List Lnk) (A : Option Addr) (cap : Nat) (a b : Int) (w : World) (h60 : 60 < ls.length) :
    Calls Tryz.prog 3 #[.int .i64 n, .slice A ls.length cap, .agg #[.int .i64 a, .int .i64 b]] w fun e w' => e = .returned (.bool true) ∧ Below w.heap.size w w' := by
  have kn := known_c
  have hb0 : Below w.heap.size w (w.alloc (.cells #[.int .i64 a, .int .i64 b] 23)) := bl_alloc (Below.refl _ _) _
  go_enter Tryz.func3, Tryz.ntmps3
  go_wp2_with (go_at_call 4; refine (kn _).mono ?_; rintro e w1 ⟨rfl, hb1⟩)
  go_ret
  exact ⟨rfl, bl_call hb0 hb1⟩

set_option maxRecDepth 100000 in
set_option maxHeartbeats 4000000 in
theorem ways_none (n : Int) (ls : List Lnk) (A : Option Addr) (cap : Nat) (a b : Int) (w : World) (hs : SlAt w Lnk.cells 8 A ls) (h60 : ls.length ≤ 60) (he : newErr n ls ≠ 0) :
    Calls Tryz.prog 3 #[.int .i64 n, .slice A ls.length cap, .agg #[.int .i64 a, .int .i64 b]] w fun e w' => e = .returned (.bool true) ∧ Below w.heap.size w w' := by
  have kn := known_c
  have hb0 : Below w.heap.size w (w.alloc (.cells #[.int .i64 a, .int .i64 b] 23)) := bl_alloc (Below.refl _ _) _
  have k1 := new_no_c n ls A cap _ (by omega) (hs.below hb0) he
  have k2 := fun W hW => refNew_no_c n ls A cap W (by omega) (hs.below hW) he
  have k3 := new_none
  have hne : (newErr n ls != 0) = true := by rw [bne_iff_ne]; exact he
  have hne2 : (newErr n ls == 0) = false := by rw [beq_eq_false_iff_ne]; exact he
  clear hs he
  generalize newErr n ls = er at *
  go_enter Tryz.func3, Tryz.ntmps3
  go_wp2_with (first
    | (go_at_call 5; refine k1.mono ?_; rintro e w1 ⟨rfl, hb1⟩; have hB1 := bl_call hb0 hb1)
    | (go_at_call 6; refine (k2 _ hB1).mono ?_; rintro e w2 ⟨er2, he1, he2, rfl, hb2⟩; have hB2 := bl_alloc (bl_call hB1 hb2) (.cells #[.int .i64 0, .slice none 0 0] 30))
    | (go_at_call 7; refine (k3 _).mono ?_; rintro e w3 ⟨rfl, rfl⟩)
    | (go_at_call 4; refine (kn _).mono ?_; rintro e w4 ⟨rfl, hb4⟩))
  go_ret
  exact ⟨rfl, bl_call hB2 hb4⟩

theorem next_first {n : Int} {ls : List Lnk} {T : Nat → Int} {a b : Int} {d : Nat} (hg : Good n ls T) (hne : newErr n ls = 0) (he : askRes n T a b = ((d : Int), 0)) (h0 : 0 < d) : nextRes n T a b = (((wayAt ls T b.toNat a.toNat 0 : Nat) : Int), 0) := by
  have h2 : (askRes n T a b).2 = 0 := by rw [he]
  obtain ⟨hT0, hd⟩ := askRes_zero h2
  obtain ⟨⟨a0, a1⟩, b0, b1⟩ := askRes_ok h2
  rw [he] at hd
  dsimp only at hd
  obtain ⟨x, hop, _⟩ := hg.pathHop hne (by omega : ((b.toNat : Nat) : Int) < n) (by omega : ((a.toNat : Nat) : Int) < n) 0 (by omega)
  have hx : T (256 + b.toNat * 16 + a.toNat) = ((wayAt ls T b.toNat a.toNat 0 : Nat) : Int) := hop.nx
  unfold nextRes
  rw [he]
  dsimp only
  rw [if_neg (by simp), if_neg (by omega), hx]
theorem next_zero {n : Int} {T : Nat → Int} {a b : Int} (he : askRes n T a b = (0, 0)) : nextRes n T a b = (0, 200) := by
  unfold nextRes
  rw [he]
  rfl

set_option maxRecDepth 100000 in
set_option maxHeartbeats 4000000 in
theorem ways_map (n : Nat) (ls : List Lnk) (A : Option Addr) (cap : Nat) (a b : Int) (w : World) (hs : SlAt w Lnk.cells 8 A ls) (h60 : ls.length ≤ 60) (he : newErr n ls = 0) :
    Calls Tryz.prog 3 #[.int .i64 (n : Int), .slice A ls.length cap, .agg #[.int .i64 a, .int .i64 b]] w fun e w' => e = .returned (.bool true) ∧ Below w.heap.size w w' := by
  have kn := known_c
  have hb0 : Below w.heap.size w (w.alloc (.cells #[.int .i64 a, .int .i64 b] 23)) := bl_alloc (Below.refl _ _) _
  have k1 := new_ok_c n ls A cap _ (by omega) (hs.below hb0) he
  have k2 := fun W hW => refNew_ok_c n ls A cap W (by omega) (hs.below hW) he
  have k3 := fun p w (h : MapSt w p n ls) => rnew_c p n ls w h
  have HSL := Lib.hid hs
  have HE := Lib.hid he
  clear hs he
  go_enter Tryz.func3, Tryz.ntmps3
  go_upto_region 8 with (first
    | (go_at_call 5; refine k1.mono ?_; rintro e w1 ⟨p, rfl, hm, _, hb1⟩; have hB1 := bl_call hb0 hb1)
    | (go_at_call 6; refine (k2 _ hB1).mono ?_; rintro e w2 ⟨rfl, hb2⟩; have hB2 := bl_alloc (bl_call hB1 hb2) (.cells #[.int .i64 (n : Int), .slice A ls.length cap] 30); have hm2 := (hm.in_.below hb2).below (bl_alloc (Below.refl w2.heap.size w2) (.cells #[.int .i64 (n : Int), .slice A ls.length cap] 30) |>.mono hb2.size))
    | (go_at_call 7; refine (k3 _ _ hm2.st).mono ?_; rintro e w3 ⟨r, q, rfl, hst, hr, hb3⟩))
  have hz1 := hb1.size
  have hz2 := hb2.size
  have hz3 := hr
  rw [World.size_alloc] at hz1 hz3
  have hL3 : LawSt w n ls A cap p w1.heap.size r q w2.heap.size none w3 :=
    ⟨bl_call hB2 hb3, hm2.below (hb3.mono (by rw [World.size_alloc]; omega)), hst, (Blk.new w2 30 _).below hb3 (by simp), by omega, by omega, by omega⟩
  have hbk := (((Blk.new w 23 #[.int .i64 a, .int .i64 b]).below hb1 (by simp)).below hb2 (by omega)).below ((bl_alloc (Below.refl _ _) _ : Below w2.heap.size w2 (w2.alloc (.cells #[.int .i64 (n : Int), .slice A ls.length cap] 30)))) (by omega)
  have hbk3 := hbk.below hb3 (by rw [World.size_alloc]; omega)
  have c0 : w3.cell? ⟨w.heap.size, 0, none⟩ = some (.int .i64 a) := hbk3.cell 0
  have c1 : w3.cell? ⟨w.heap.size, 1, none⟩ = some (.int .i64 b) := hbk3.cell 1
  have HL3 := Lib.hid hL3
  clear hB1 hB2 hb1 hb2 hb3 hm hm2 hst hr hL3 hbk hbk3 hz1 hz2 hz3 k1 k2 k3 hb0
  generalize w2.heap.size = b9 at *
  generalize w1.heap.size = B at *
  go_quiet (fail)
  rename_i nq
  go_upto_region 9 with fail
  obtain ⟨W, hW⟩ : ∃ W, W = w3.drewN nq := ⟨_, rfl⟩
  have hLW : LawSt w n ls A cap p B r q b9 none W := by rw [hW]; exact HL3.out.below (below_drewN (Below.refl _ _) _)
  rw [← hW]
  clear hW HL3 c0 c1
  have k1 := way_k r q n ls none a b W hLW.rt
  go_upto_region 10 with (go_at_call 8; refine k1.mono ?_; rintro e w4 ⟨o1, A2, d2, c2, er, rfl, her, hok, hno, ha⟩; have HER := Lib.hid her; clear her)
  clear k1
  have her := HER.out
  clear HER
  have hL4 := hLW.grow ha.gr ha.st
  by_cases hz : er = 0
  case neg =>
    obtain ⟨rfl, rfl, rfl⟩ := hno hz
    have hn4 : NoWay n o1 a b er := by rw [her]; exact NoWay.of ha.made (by rw [← her]; exact hz)
    have hz1 : (er == 0) = false := by rw [beq_eq_false_iff_ne]; exact hz
    have hz2 : (er != 0) = true := by rw [bne_iff_ne]; exact hz
    have k1 := next_no_c r q n ls o1 a b w4 er hL4.rt hn4
    have HL4 := Lib.hid hL4
    clear her hok hno ha hz hL4 hn4 hLW
    go_upto_region 11 with (go_at_call 9; refine k1.mono ?_; rintro e w5 ⟨o2, rfl, hst5, hn5, hg5⟩)
    have hL5 := HL4.out.grow hg5 hst5
    have k2 := far_no_c r q n ls o2 a b w5 er hst5 hn5
    have HL5 := Lib.hid hL5
    clear k1 hst5 hn5 hg5 HL4 hL5
    go_upto_region 12 with (go_at_call 10; refine k2.mono ?_; rintro e w6 ⟨o3, rfl, hst6, hn6, hg6⟩)
    have hL6 := HL5.out.grow hg6 hst6
    have k3 := terms_no_c r q n ls o3 a b er w6 hst6 hn6
    have HL6 := Lib.hid hL6
    clear k2 hst6 hn6 hg6 HL5 hL6
    go_upto_region 13 with (go_at_call 11; refine k3.mono ?_; rintro e w7 ⟨o4, rfl, hst7, hn7, hg7⟩)
    have hL7 := HL6.out.grow hg7 hst7
    obtain ⟨W8, hW8⟩ : ∃ W8, W8 = w7.alloc (.cells #[.int .i64 0, .int .i64 0] 42) := ⟨_, rfl⟩
    have hL8 : LawSt w n ls A cap p B r q b9 o4 W8 := by rw [hW8]; exact hL7.below (bl_alloc (Below.refl _ _) _)
    have hk8 : Blk W8 w7.heap.size 42 #[.int .i64 0, .int .i64 0] := by rw [hW8]; exact Blk.new _ _ _
    have e0 : W8.cell? ⟨b9, 0, none⟩ = some (.int .i64 (n : Int)) := hL8.bk.cell 0
    have e1 : W8.cell? ⟨b9, 1, none⟩ = some (.slice A ls.length cap) := hL8.bk.cell 1
    have k4 := rway_no_c r q ls o4 a b W8 er n A cap hL8.rt hn7 HE.out (HSL.out.below hL8.bel)
    rw [← hW8]
    have HL8 := Lib.hid hL8
    have HK8 := Lib.hid hk8
    have HN7 := Lib.hid hn7
    clear k3 hst7 hn7 hg7 HL6 hL7 hL8 hk8 hW8
    generalize w7.heap.size = b21 at *
    go_upto_region 14 with (go_at_call 12; refine k4.mono ?_; rintro e w9 ⟨rfl, hb9⟩)
    have ks : Calls Tryz.prog 13 #[.slice none 0 0, .slice none 0 0] w9 fun e w' => e = .returned (.bool true) ∧ Below w9.heap.size w9 w' := (lsame_c ([] : List Nat) none none 0 0 w9 (by simp) (.inl rfl) (.inl rfl)).mono (by rintro e w' ⟨he, q, rfl⟩; exact ⟨he, below_drewN (Below.refl _ _) _⟩)
    clear k4 e0 e1
    go_upto_region 16 with (go_at_call 13; refine ks.mono ?_; rintro e w10 ⟨rfl, hb10⟩)
    have hb9 := bl_call hb9 hb10
    clear ks hb10
    generalize w10 = w9 at *
    have hL9 := HL8.out.below hb9
    have hk9 := HK8.out.below hb9 HK8.out.lt
    have u0 : w9.cell? ⟨b21, 0, none⟩ = some (.int .i64 0) := hk9.cell 0
    have u1 : w9.cell? ⟨b21, 1, none⟩ = some (.int .i64 0) := hk9.cell 1
    have hu := hk9.lt
    have HL9 := Lib.hid hL9
    have k5 : ∀ W, Below w9.heap.size w9 W → Calls Tryz.prog 15 #[.pointer (some ⟨r, 0, none⟩), .int .i64 a, .int .i64 b] W fun e w' => e = .returned (.int .i64 0) ∧ Below w.heap.size w w' := fun W hW => (ahead_no_c r q n ls o4 a b er W (HL9.out.below hW).rt HN7.out).mono (by
      rintro e w' ⟨o', rfl, hs, _, hg⟩
      exact ⟨rfl, ((HL9.out.below hW).grow hg hs).bel⟩)
    clear hb9 hk9 hL9 HK8 HL8
    go_wp2_with (first
      | (go_at_call 15; refine (k5 _ ?_).mono ?_; (repeat (first | exact Below.refl _ _ | refine bl_drew ?_ | refine bl_alloc ?_ _ | refine bl_drewN ?_ _)); rintro e w11 ⟨rfl, hb11⟩)
      | (go_at_call 4; refine (kn _).mono ?_; rintro e w12 ⟨rfl, hb12⟩))
    go_ret
    exact ⟨rfl, bl_call hb11 hb12⟩
  case pos =>
    subst hz
    obtain ⟨T, rfl⟩ := ha.made (askRes_ok her.symm)
    have ht : tabO (some T) = T := rfl
    rw [ht] at her hok
    have hgood := hL4.good T rfl
    obtain ⟨hd2, hsl⟩ := hok rfl
    have hbd := askRes_bd hgood a b
    obtain ⟨d, hd⟩ : ∃ d : Nat, askRes n T a b = ((d : Int), 0) := ⟨(askRes n T a b).1.toNat, by
      have h1 : ((askRes n T a b).1.toNat : Int) = (askRes n T a b).1 := by omega
      rw [h1]
      exact Prod.ext rfl her.symm⟩
    have hd2' : d = d2 := by rw [hd2, hd]; rfl
    subst hd2'
    have hwi := wayIn hgood HE.out hd
    have hfirst := fun (h0 : 0 < d) => next_first hgood HE.out hd h0
    have hzero := fun (h0 : d = 0) => next_zero (n := n) (T := T) (a := a) (b := b) (by rw [hd, h0]; rfl)
    have HD := Lib.hid hd
    have HG := Lib.hid hgood
    have HFI := Lib.hid hfirst
    have HZE := Lib.hid hzero
    have HWI := Lib.hid hwi
    have HSW := Lib.hid hsl
    have hd100 := hwi.few
    have k1 := next_ok_c r q n ls a b w4 T d hL4.rt hd
    have HL4 := Lib.hid hL4
    clear her hok hno ha hL4 hLW hd2 hd hwi hfirst hzero hsl hbd hgood ht
    go_upto_region 11 with (go_at_call 9; refine k1.mono ?_; rintro e w5 ⟨rfl, hst5, hb5⟩)
    have hL5 := HL4.out.below hb5
    have hs5 := HSW.out.below hb5
    have k2 := far_ok_c r q n ls a b w5 T d hst5 HD.out
    have HL5 := Lib.hid hL5
    have HS5 := Lib.hid hs5
    clear k1 hst5 hb5 HL4 hL5 HSW hs5
    go_upto_region 12 with (go_at_call 10; refine k2.mono ?_; rintro e w6 ⟨rfl, hst6, hb6⟩)
    have hL6 := HL5.out.below hb6
    have hs6 := HS5.out.below hb6
    have k3 := terms_ok_c r q n ls T a b d w6 hst6 HD.out
    have HL6 := Lib.hid hL6
    have HS6 := Lib.hid hs6
    clear k2 hst6 hb6 HL5 hL6 HS5 hs6
    go_upto_region 13 with (go_at_call 11; refine k3.mono ?_; rintro e w7 ⟨rfl, hst7, hb7⟩)
    have hL7 := HL6.out.below hb7
    have hs7 := HS6.out.below hb7
    obtain ⟨W8, hW8⟩ : ∃ W8, W8 = w7.alloc (.cells #[.int .i64 (sumC (trmL ls (wayL ls T b.toNat a.toNat d) d) d), .int .i64 (sumD (trmL ls (wayL ls T b.toNat a.toNat d) d) d)] 42) := ⟨_, rfl⟩
    have hbW8 : Below w7.heap.size w7 W8 := by rw [hW8]; exact bl_alloc (Below.refl _ _) _
    have hL8 := hL7.below hbW8
    have hs8 := hs7.below hbW8
    have hk8 : Blk W8 w7.heap.size 42 #[.int .i64 (sumC (trmL ls (wayL ls T b.toNat a.toNat d) d) d), .int .i64 (sumD (trmL ls (wayL ls T b.toNat a.toNat d) d) d)] := by rw [hW8]; exact Blk.new _ _ _
    have e0 : W8.cell? ⟨b9, 0, none⟩ = some (.int .i64 (n : Int)) := hL8.bk.cell 0
    have e1 : W8.cell? ⟨b9, 1, none⟩ = some (.slice A ls.length cap) := hL8.bk.cell 1
    have k4 := rway_ok_c ls a b W8 T d n A cap HG.out HD.out HE.out (HSL.out.below hL8.bel)
    rw [← hW8]
    have HL8 := Lib.hid hL8
    have HK8 := Lib.hid hk8
    have HS8 := Lib.hid hs8
    clear k3 hst7 hb7 HL6 HS6 hL7 hs7 hL8 hk8 hs8 hW8 hbW8
    generalize w7.heap.size = b21 at *
    go_upto_region 14 with (go_at_call 12; refine k4.mono ?_; rintro e w9 ⟨A3, c3, rfl, hs9, hb9⟩)
    have hL9 := HL8.out.below hb9
    have hk9 := HK8.out.below hb9 HK8.out.lt
    have hs8 := HS8.out.below hb9
    have ks0 := lsame_c (wayL ls T b.toNat a.toNat d) A2 A3 c2 c3 w9 (by rw [HWI.out.len]; omega) hs8 hs9
    rw [HWI.out.len] at ks0
    have ks : Calls Tryz.prog 13 #[.slice A2 d c2, .slice A3 d c3] w9 fun e w' => e = .returned (.bool true) ∧ Below w9.heap.size w9 w' := ks0.mono (by rintro e w' ⟨he, q, rfl⟩; exact ⟨he, below_drewN (Below.refl _ _) _⟩)
    have HL9 := Lib.hid hL9
    have HK9 := Lib.hid hk9
    have HS9 := Lib.hid hs9
    have hu := hk9.lt
    clear k4 hb9 hk9 hL9 HK8 HL8 e0 e1 HS8 hs8 hs9 ks0
    go_upto_region 16 with (go_at_call 13; refine ks.mono ?_; rintro e w10 ⟨rfl, hb10⟩)
    have hu10 := Nat.lt_of_lt_of_le hu hb10.size
    have hk10 := HK9.out.below hb10 hu
    have hL10 := HL9.out.below hb10
    have hs10 := HS9.out.below hb10
    obtain ⟨W, hW⟩ : ∃ W, W = w10.alloc (.cells #[.int .i64 0, .int .i64 0] 42) := ⟨_, rfl⟩
    have hbW : Below w10.heap.size w10 W := by rw [hW]; exact bl_alloc (Below.refl _ _) _
    have hkW : Blk W w10.heap.size 42 #[.int .i64 0, .int .i64 0] := by rw [hW]; exact Blk.new _ _ _
    have hLW := hL10.below hbW
    have hsW := hs10.below hbW
    have hk21 := hk10.below hbW hu10
    have e0 : W.cell? ⟨b9, 0, none⟩ = some (.int .i64 (n : Int)) := hLW.bk.cell 0
    have e1 : W.cell? ⟨b9, 1, none⟩ = some (.slice A ls.length cap) := hLW.bk.cell 1
    have k5 := rterms_c n ls A cap (wayL ls T b.toNat a.toNat d) A3 c3 d W HE.out HWI.out (HSL.out.below hLW.bel) hsW
    unfold rmap at k5
    have HL10 := Lib.hid hL10
    have HK10 := Lib.hid hk10
    have HS10 := Lib.hid hs10
    have HKW := Lib.hid hkW
    have HBW := Lib.hid hbW
    have h25' : b21 < w10.heap.size := hu10
    clear ks hb10 hk10 hL10 hs10 hbW hkW hLW hsW hk21 HL9 HK9 HS9 hu hu10
    go_upto_region 19 with fail
    rw [← hW]
    clear hW
    obtain ⟨b25, h25⟩ : ∃ b25, w10.heap.size = b25 := ⟨_, rfl⟩
    rw [h25] at h25' HKW
    have H25 := Lib.hid h25
    rw [h25]
    clear h25
    go_upto_block 0 with (go_at_call 14; refine k5.mono ?_; rintro e w11 ⟨rfl, hb11⟩; have hk11 := HKW.out.below hb11 HKW.out.lt; have d0 : w11.cell? ⟨b25, 0, none⟩ = some (.int .i64 0) := hk11.cell 0; have d1 : w11.cell? ⟨b25, 1, none⟩ = some (.int .i64 0) := hk11.cell 1; have f0 : w11.frozen? ⟨b25, 0, none⟩ = false := hk11.frozen 0; have f1 : w11.frozen? ⟨b25, 1, none⟩ = false := hk11.frozen 1)
    obtain ⟨X, hX⟩ : ∃ X, X = (w11.setCell ⟨b25, 0, none⟩ (.int .i64 (sumC (trmL ls (wayL ls T b.toNat a.toNat d) d) d))).setCell ⟨b25, 1, none⟩ (.int .i64 (sumD (trmL ls (wayL ls T b.toNat a.toNat d) d) d)) := ⟨_, rfl⟩
    have hbX : Below w10.heap.size w10 X := by rw [hX]; exact bl_set (bl_set (bl_call HBW.out hb11) (by show _ ≤ b25; rw [H25.out]; exact Nat.le_refl _) _) (by show _ ≤ b25; rw [H25.out]; exact Nat.le_refl _) _
    have hk25 : Blk X b25 42 #[.int .i64 (sumC (trmL ls (wayL ls T b.toNat a.toNat d) d) d), .int .i64 (sumD (trmL ls (wayL ls T b.toNat a.toNat d) d) d)] := by rw [hX]; exact (hk11.setC 0 _).setC 1 _
    have hLX := HL10.out.below hbX
    have hsX := HS10.out.below hbX
    have hk21 := HK10.out.below hbX (by rw [H25.out]; exact h25')
    have e1 : X.cell? ⟨b9, 1, none⟩ = some (.slice A ls.length cap) := hLX.bk.cell 1
    rw [← hX]
    have HLX := Lib.hid hLX
    have HSX := Lib.hid hsX
    have HK21 := Lib.hid hk21
    have HK25 := Lib.hid hk25
    have hsL := HSL.out.below hLX.bel
    have HSA := Lib.hid hsL
    clear hX hbX hk25 hLX hsX hk21 k5 hb11 hk11 d0 d1 f0 f1 HL10 HS10 HK10 HKW HBW e0 hsL
    go_wp2_with fail
    go_loopw [27, 28] (fun s27 s28 wx => ∃ k q : Nat, s28 = .int .i64 k ∧ k ≤ d ∧ s27 = .int .i64 (aheadUpto ls (wayL ls T b.toNat a.toNat d) k) ∧ wx = X.drewN q) (fun _ s28 _ => d - (intOf s28).toNat)
    case atStart => exact ⟨0, 0, rfl, Nat.zero_le _, rfl, rfl⟩
    case round =>
      obtain ⟨k, q3, rfl, hk, rfl, rfl⟩ := hrel
      by_cases hlt : k < d
      · obtain ⟨i, x, hi, hx⟩ := HWI.out.all k hlt
        have hup : aheadUpto ls (wayL ls T b.toNat a.toNat d) (k + 1) = IntKind.i64.wrap (aheadUpto ls (wayL ls T b.toNat a.toNat d) k + x.far) := by
          show IntKind.i64.wrap (aheadUpto ls (wayL ls T b.toNat a.toNat d) k + (((wayL ls T b.toNat a.toNat d)[k]?.bind fun i => ls[i]?.map Lnk.far).getD 0)) = _
          rw [hi]
          simp only [Option.bind_some, hx, Option.map_some, Option.getD_some]
        obtain ⟨bb, oo, rfl, hbb, hc⟩ := HSA.out.at_ hx
        obtain ⟨gg, og, rfl, hgg, hcg⟩ := HSX.out.at_ hi
        have q4 := hc 4 _ rfl
        have qg := hcg 0 _ rfl
        rw [Nat.add_zero, Nat.mul_one] at qg
        have hil : i < ls.length := (List.getElem?_eq_some_iff.1 hx).1
        have HU := Lib.hid hup
        clear hc hcg hi hx hup
        generalize aheadUpto ls (wayL ls T b.toNat a.toNat d) k = S at *
        go_upto_region 23 with fail
        go_quiet (fail)
        go_wp2_with fail
        go_roundw
        case rel => exact ⟨k + 1, _, by go_num, hlt, by rw [HU.out]; try rw [IntWalk.i64_left], rfl⟩
        case measure => simp [intOf]; omega
      · obtain rfl : k = d := by omega
        obtain ⟨Y, hY⟩ : ∃ Y, Y = X.drewN q3 := ⟨_, rfl⟩
        have hbY : Below X.heap.size X Y := by rw [hY]; exact below_drewN (Below.refl _ _) _
        have hLY := HLX.out.below hbY
        have hk21 := HK21.out.below hbY HK21.out.lt
        have hk25 := HK25.out.below hbY HK25.out.lt
        have hsY := HSX.out.below hbY
        have u0 : Y.cell? ⟨b21, 0, none⟩ = some (.int .i64 (sumC (trmL ls (wayL ls T b.toNat a.toNat k) k) k)) := hk21.cell 0
        have u1 : Y.cell? ⟨b21, 1, none⟩ = some (.int .i64 (sumD (trmL ls (wayL ls T b.toNat a.toNat k) k) k)) := hk21.cell 1
        have v0 : Y.cell? ⟨b25, 0, none⟩ = some (.int .i64 (sumC (trmL ls (wayL ls T b.toNat a.toNat k) k) k)) := hk25.cell 0
        have v1 : Y.cell? ⟨b25, 1, none⟩ = some (.int .i64 (sumD (trmL ls (wayL ls T b.toNat a.toNat k) k) k)) := hk25.cell 1
        have ka := ahead_ok_c r q n ls a b Y T k hLY.rt HD.out
        rw [← hY]
        have HLY := Lib.hid hLY
        have HSY := Lib.hid hsY
        clear hY hbY hLY hk21 hk25 hsY e1 HLX HSX HK21 HK25 HSA
        by_cases h0 : k = 0
        · have hE : ((k : Int) == 0) = true := by simp [h0]
          rw [HZE.out h0]
          dsimp only
          clear h0
          generalize sumC (trmL ls (wayL ls T b.toNat a.toNat k) k) k = C at *
          generalize sumD (trmL ls (wayL ls T b.toNat a.toNat k) k) k = D at *
          generalize aheadUpto ls (wayL ls T b.toNat a.toNat k) k = S at *
          go_wp2_with (first
            | (go_at_call 15; refine ka.mono ?_; rintro e w12 ⟨rfl, hst12, hb12⟩; have hL12 := HLY.out.below hb12)
            | (go_at_call 4; refine (kn _).mono ?_; rintro e w13 ⟨rfl, hb13⟩))
          go_ret
          exact ⟨rfl, bl_call hL12.bel hb13⟩
        · have hpos : 0 < k := by omega
          have hE : ((k : Int) == 0) = false := by rw [beq_eq_false_iff_ne]; omega
          have hwk : (wayL ls T b.toNat a.toNat k)[0]? = some (wayAt ls T b.toNat a.toNat 0) := by
            unfold wayL
            rw [List.getElem?_map, List.getElem?_range hpos]
            rfl
          rw [HFI.out hpos]
          obtain ⟨gg, og, rfl, hgg, hcg⟩ := HSY.out.at_ hwk
          have qg : Y.cell? ⟨gg, og, none⟩ = some (.int .i64 ((wayAt ls T b.toNat a.toNat 0 : Nat) : Int)) := hcg 0 _ rfl
          dsimp only
          clear h0 hcg hwk
          generalize sumC (trmL ls (wayL ls T b.toNat a.toNat k) k) k = C at *
          generalize sumD (trmL ls (wayL ls T b.toNat a.toNat k) k) k = D at *
          generalize aheadUpto ls (wayL ls T b.toNat a.toNat k) k = S at *
          generalize wayAt ls T b.toNat a.toNat 0 = i0 at *
          go_wp2_with (first
            | (go_at_call 15; refine ka.mono ?_; rintro e w12 ⟨rfl, hst12, hb12⟩
               have hL12 := HLY.out.below hb12
               have qg2 := (hb12.cell (World.block_lt_of_cell? _ _ qg)).trans qg
               have kr := rmap_c r q n ls (some T) w12 hL12.rt)
            | (go_at_call 17; refine kr.mono ?_; rintro e w13 ⟨p2, rfl, hm13, hb13⟩
               have hL13 := hL12.below hb13
               have ksm := same_c p2 p n ls w13 hm13 hL13.mp.st)
            | (go_at_call 16; refine ksm.mono ?_; rintro e w14 ⟨rfl, q4, rfl⟩)
            | (go_at_call 4; refine (kn _).mono ?_; rintro e w15 ⟨rfl, hb15⟩))
          go_ret
          exact ⟨rfl, bl_call hL13.bel (bl_undrewN hb15)⟩

theorem routeWays_c (n : Int) (ls : List Lnk) (A : Option Addr) (cap : Nat) (a b : Int) (w : World) (hs : SlAt w Lnk.cells 8 A ls) :
    Calls Tryz.prog 3 #[.int .i64 n, .slice A ls.length cap, .agg #[.int .i64 a, .int .i64 b]] w fun e w' => e = .returned (.bool true) ∧ Below w.heap.size w w' := by
  by_cases h60 : 60 < ls.length
  · exact ways_long n ls A cap a b w h60
  · by_cases he : newErr n ls = 0
    · obtain ⟨N, rfl⟩ : ∃ N : Nat, n = N := ⟨n.toNat, by have := (newErr_zero he).1; omega⟩
      exact ways_map N ls A cap a b w hs (by omega) he
    · exact ways_none n ls A cap a b w hs (by omega) he
end Go.Proofs.YtbjdiikjnlgmiaaGreat
