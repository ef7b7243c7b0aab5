/- The law RouteNear answers true. -/
import Derived.Test.YtbjdiikjnlgmiaaRouteO
import Derived.Test.YtbjdiikjnlgmiaaDist
namespace Go.Proofs.Ytbjdiikjnlgmiaa
open Go.RowKit Go.Shelf

structure NearF (R1 R2 R3 R4 : Int × Int) (a b : Int) : Prop where
  sym : R1 = R4
  bd : (0 ≤ R1.1 ∧ R1.1 ≤ 100) ∧ (0 ≤ R2.1 ∧ R2.1 ≤ 100) ∧ (0 ≤ R3.1 ∧ R3.1 ≤ 100)
  tri : R1.2 = 0 → R2.2 = 0 → R3.2 = 0 ∧ R3.1 ≤ R1.1 + R2.1
  idn : R1.2 = 0 → (R1.1 = 0 ↔ a = b)

theorem near_facts {n : Int} {ls : List Lnk} {o : Option (Nat → Int)} (he : newErr n ls = 0) (a b c : Int) (hg : ∀ T, o = some T → Good n ls T) (h1 : okp n a b → ∃ T, o = some T) (h2 : okp n b c → ∃ T, o = some T) (h3 : okp n a c → ∃ T, o = some T) :
    NearF (askRes n (tabO o) a b) (askRes n (tabO o) b c) (askRes n (tabO o) a c) (askRes n (tabO o) b a) a b := by
  cases o with
  | some T =>
    have h := hg T rfl
    exact ⟨askRes_sym h he a b, ⟨askRes_bd h a b, askRes_bd h b c, askRes_bd h a c⟩, askRes_tri h he a b c, askRes_id h he a b⟩
  | none =>
    have no : ∀ x y, (okp n x y → ∃ T, (none : Option (Nat → Int)) = some T) → ∀ T, askRes n T x y = (0, 4) := fun x y hh T => by
      unfold askRes
      rw [if_neg (fun ho => by obtain ⟨T, hT⟩ := hh ho; cases hT)]
    rw [no a b h1, no b c h2, no a c h3, no b a (fun ho => h1 ⟨ho.2, ho.1⟩)]
    exact ⟨rfl, by decide, (fun h => by cases h), (fun h => by cases h)⟩

theorem RSt.good {w : World} {r p : Nat} {n : Int} {ls : List Lnk} {o : Option (Nat → Int)} (h : RSt w r p n ls o) : ∀ T, o = some T → Good n ls T := fun T e => by
  subst e
  exact h.rt.2

set_option maxRecDepth 100000 in
set_option maxHeartbeats 4000000 in
theorem routeNear_c (n : Int) (ls : List Lnk) (A : Option Addr) (cap : Nat) (a b c : Int) (w : World) (hs : SlAt w Lnk.cells 8 A ls) :
    Calls Try.prog 4 #[.int .i64 n, .slice A ls.length cap, .agg #[.int .i64 a, .int .i64 b, .int .i64 c]] w fun e w' => e = .returned (.bool true) ∧ Below w.heap.size w w' := by
  have kn := known_c
  have hb0 : Below w.heap.size w (w.alloc (.cells #[.int .i64 a, .int .i64 b, .int .i64 c] 42)) := bl_alloc (Below.refl _ _) _
  by_cases h60 : 60 < ls.length
  · clear hs
    go_enter Try.func4, Try.ntmps4
    go_wp2_with (go_at_call 6; refine (kn _).mono ?_; rintro e w1 ⟨rfl, hb1⟩)
    go_ret
    exact ⟨rfl, bl_call hb0 hb1⟩
  by_cases he : newErr n ls = 0
  case neg =>
    have k1 := new_no_c n ls A cap _ (by omega) (hs.below hb0) he
    have hne : (newErr n ls != 0) = true := by rw [bne_iff_ne]; exact he
    clear hs he
    generalize newErr n ls = er at *
    go_enter Try.func4, Try.ntmps4
    go_wp2_with (first | (go_at_call 7; refine k1.mono ?_; rintro e w1 ⟨rfl, hb1⟩) | (go_at_call 6; refine (kn _).mono ?_; rintro e w2 ⟨rfl, hb2⟩))
    go_ret
    exact ⟨rfl, bl_call (bl_call hb0 hb1) hb2⟩
  case pos =>
    have k1 := new_ok_c n ls A cap _ (by omega) (hs.below hb0) he
    have k2 := fun p w (h : MapSt w p n ls) => rnew_c p n ls w h
    clear hs
    go_enter Try.func4, Try.ntmps4
    go_upto_region 7 with (first | (go_at_call 7; refine k1.mono ?_; rintro e w1 ⟨p, rfl, hm, _, hb1⟩) | (go_at_call 8; refine (k2 _ _ hm).mono ?_; rintro e w2 ⟨r, q, rfl, hst, hr, hb2⟩))
    have hz1 := hb1.size
    rw [World.size_alloc] at hz1
    have hne : w.heap.size ≠ r := by omega
    have hr0 : w.heap.size ≤ r := by omega
    have hB2 := bl_call (bl_call hb0 hb1) hb2
    have hbk := ((Blk.new w 42 #[.int .i64 a, .int .i64 b, .int .i64 c]).below hb1 (by simp)).below hb2 (by omega)
    have hkp : ∀ (W W' : World) (_ : W.grownBy W' (some r)) (i : Nat) (v : Value), W.cell? ⟨w.heap.size, i, none⟩ = some v → W'.cell? ⟨w.heap.size, i, none⟩ = some v := fun _ _ hg i v h => hg.cell h (fun e => hne (by injection e))
    have c0 : w2.cell? ⟨w.heap.size, 0, none⟩ = some (.int .i64 a) := hbk.cell 0
    have c1 : w2.cell? ⟨w.heap.size, 1, none⟩ = some (.int .i64 b) := hbk.cell 1
    have c2 : w2.cell? ⟨w.heap.size, 2, none⟩ = some (.int .i64 c) := hbk.cell 2
    have HB2 := Lib.hid hB2
    have HK := Lib.hid hkp
    have HE := Lib.hid he
    have k3 := far_c r q n ls none a b w2 hst
    clear hbk hm hst hb1 hb2 hb0 k1 k2 hB2 hkp he hz1 hr
    go_upto_region 8 with (go_at_call 9; refine k3.mono ?_; rintro e w3 ⟨o1, rfl, ha1⟩)
    have d0 := HK.out _ _ ha1.gr 0 _ c0
    have d1 := HK.out _ _ ha1.gr 1 _ c1
    have d2 := HK.out _ _ ha1.gr 2 _ c2
    have HA1 := Lib.hid ha1
    have k4 := far_c r q n ls o1 b c w3 ha1.st
    clear k3 ha1 c0 c1 c2
    go_upto_region 9 with (go_at_call 9; refine k4.mono ?_; rintro e w4 ⟨o2, rfl, ha2⟩)
    have c0 := HK.out _ _ ha2.gr 0 _ d0
    have c1 := HK.out _ _ ha2.gr 1 _ d1
    have c2 := HK.out _ _ ha2.gr 2 _ d2
    have HA2 := Lib.hid ha2
    have k5 := far_c r q n ls o2 a c w4 ha2.st
    clear k4 ha2 d0 d1 d2
    go_upto_region 10 with (go_at_call 9; refine k5.mono ?_; rintro e w5 ⟨o3, rfl, ha3⟩)
    have d0 := HK.out _ _ ha3.gr 0 _ c0
    have d1 := HK.out _ _ ha3.gr 1 _ c1
    have d2 := HK.out _ _ ha3.gr 2 _ c2
    have HA3 := Lib.hid ha3
    have k6 := far_c r q n ls o3 b a w5 ha3.st
    clear k5 ha3 c0 c1 c2
    go_upto_region 11 with (go_at_call 9; refine k6.mono ?_; rintro e w6 ⟨o4, rfl, ha4⟩)
    have c0 := HK.out _ _ ha4.gr 0 _ d0
    have c1 := HK.out _ _ ha4.gr 1 _ d1
    have hB6 : Below w.heap.size w w6 := by
      have g := ((HA1.out.gr.trans HA2.out.gr).trans HA3.out.gr).trans ha4.gr
      exact HB2.out.grown g HB2.out.size (fun k e => by injection e with e; omega)
    have x3 : ∀ T, o3 = some T → o4 = some T := fun T h => ha4.ext T h
    have x2 : ∀ T, o2 = some T → o4 = some T := fun T h => x3 T (HA3.out.ext T h)
    have x1 : ∀ T, o1 = some T → o4 = some T := fun T h => x2 T (HA2.out.ext T h)
    have e1 := res_final HA1.out.made x1
    have e2 := res_final HA2.out.made x2
    have e3 := res_final HA3.out.made x3
    have hF := near_facts HE.out a b c ha4.st.good (fun h => by obtain ⟨T, hT⟩ := HA1.out.made h; exact ⟨T, x1 T hT⟩) (fun h => by obtain ⟨T, hT⟩ := HA2.out.made h; exact ⟨T, x2 T hT⟩) (fun h => by obtain ⟨T, hT⟩ := HA3.out.made h; exact ⟨T, x3 T hT⟩)
    rw [e1, e2, e3]
    clear e1 e2 e3 x1 x2 x3 HA1 HA2 HA3 ha4 k6 d0 d1 d2 HK HE HB2
    generalize askRes n (tabO o4) a b = R1 at *
    generalize askRes n (tabO o4) b c = R2 at *
    generalize askRes n (tabO o4) a c = R3 at *
    generalize askRes n (tabO o4) b a = R4 at *
    obtain ⟨rfl, ⟨⟨p1, p2⟩, ⟨p3, p4⟩, p5, p6⟩, htri, hid⟩ := hF
    obtain ⟨f1, r1⟩ := R1
    obtain ⟨f2, r2⟩ := R2
    obtain ⟨f3, r3⟩ := R3
    dsimp only at p1 p2 p3 p4 p5 p6 htri hid ⊢
    have hkw := kn w6
    clear kn
    by_cases z1 : r1 = 0
    · subst z1
      have hid := hid rfl
      have htri := htri rfl
      have hab : (f1 == 0) = (a == b) := by
        by_cases hh : a = b
        · rw [hid.2 hh, hh]; simp
        · have h1 : f1 ≠ 0 := fun h => hh (hid.1 h)
          rw [beq_eq_false_iff_ne.2 hh, beq_eq_false_iff_ne.2 h1]
      obtain ⟨x, hx⟩ : ∃ x, (a == b) = x := ⟨_, rfl⟩
      rw [hx] at hab
      clear hid
      by_cases z2 : r2 = 0
      · subst z2
        obtain ⟨rfl, hle⟩ := htri rfl
        have hnle : ¬ (f3 > f1 + f2) := by omega
        cases x
        · go_wp2_with (go_at_call 6; refine hkw.mono ?_; rintro e w7 ⟨rfl, hb7⟩)
          go_ret
          exact ⟨rfl, bl_call hB6 hb7⟩
        · go_wp2_with (go_at_call 6; refine hkw.mono ?_; rintro e w7 ⟨rfl, hb7⟩)
          go_ret
          exact ⟨rfl, bl_call hB6 hb7⟩
      · have hz2 : (r2 == 0) = false := by rw [beq_eq_false_iff_ne]; exact z2
        clear htri z2
        cases x
        · go_wp2_with (go_at_call 6; refine hkw.mono ?_; rintro e w7 ⟨rfl, hb7⟩)
          go_ret
          exact ⟨rfl, bl_call hB6 hb7⟩
        · go_wp2_with (go_at_call 6; refine hkw.mono ?_; rintro e w7 ⟨rfl, hb7⟩)
          go_ret
          exact ⟨rfl, bl_call hB6 hb7⟩
    · have hz1 : (r1 == 0) = false := by rw [beq_eq_false_iff_ne]; exact z1
      clear htri hid z1
      go_wp2_with (go_at_call 6; refine hkw.mono ?_; rintro e w7 ⟨rfl, hb7⟩)
      go_ret
      exact ⟨rfl, bl_call hB6 hb7⟩
end Go.Proofs.Ytbjdiikjnlgmiaa
