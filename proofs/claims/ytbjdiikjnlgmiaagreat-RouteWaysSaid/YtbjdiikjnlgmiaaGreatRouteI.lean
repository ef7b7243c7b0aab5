/- The table is made once; asked, Far. -/
import Derived.Test.YtbjdiikjnlgmiaaGreatRouteH
import Derived.Test.YtbjdiikjnlgmiaaGreatRouteS
namespace Go.Proofs.YtbjdiikjnlgmiaaGreat
open Go.RowKit Go.Shelf

theorem RtAt.setDone {w : World} {r p : Nat} {d s : Int} {T : Nat → Int} (h : RtAt w r p d s T) (d' : Int) : RtAt (w.setCell ⟨r, 1, none⟩ (.int .u32 d')) r p d' s T := by
  have ne : ∀ o, o ≠ 1 → (⟨r, 1, none⟩ : Addr) ≠ ⟨r, o, none⟩ := fun o ho e => by injection e with _ e; exact ho e.symm
  exact ⟨(World.cell?_setCell_other _ _ _ _ (ne 0 (by omega))).trans h.plan, World.cell?_setCell_same _ _ _ h.done, (World.cell?_setCell_other _ _ _ _ (ne 2 (by omega))).trans h.mu, fun i hi => (World.cell?_setCell_other _ _ _ _ (ne (4 + i) (by omega))).trans (h.tab i hi), fun o => by rw [World.frozen?_setCell]; exact h.free o⟩
theorem RtAt.setMu {w : World} {r p : Nat} {d s : Int} {T : Nat → Int} (h : RtAt w r p d s T) (s' : Int) : RtAt (w.setCell ⟨r, 2, none⟩ (.int .i32 s')) r p d s' T := by
  have ne : ∀ o, o ≠ 2 → (⟨r, 2, none⟩ : Addr) ≠ ⟨r, o, none⟩ := fun o ho e => by injection e with _ e; exact ho e.symm
  exact ⟨(World.cell?_setCell_other _ _ _ _ (ne 0 (by omega))).trans h.plan, (World.cell?_setCell_other _ _ _ _ (ne 1 (by omega))).trans h.done, World.cell?_setCell_same _ _ _ h.mu, fun i hi => (World.cell?_setCell_other _ _ _ _ (ne (4 + i) (by omega))).trans (h.tab i hi), fun o => by rw [World.frozen?_setCell]; exact h.free o⟩

theorem MapIn.grown {w w' : World} {r p : Nat} {n : Int} {ls : List Lnk} (h : MapIn w r p n ls) (hr : r < w.heap.size) (hg : w.grownBy w' (some r)) : MapIn w' r p n ls :=
  h.below ⟨hg.os, hg.tape, hg.output, hg.size, fun k hk => hg.block k (by omega) (fun e => by injection e; omega)⟩

theorem once_ask (r p : Nat) (n : Int) (ls : List Lnk) (o : Option (Nat → Int)) (w : World) (h : RSt w r p n ls o) :
    Calls Tryz.prog 44 #[.pointer (some ⟨r, 1, none⟩), .func (.func 45) #[.pointer (some ⟨r, 0, none⟩)] #[]] w fun e w' => e = .returned (.tuple #[]) ∧ ∃ T, RSt w' r p n ls (some T) ∧ (∀ T', o = some T' → T = T') ∧ w.grownBy w' (some r) ∧ (∀ T', o = some T' → w = w') := by
  cases o with
  | some T =>
    refine (once_done ⟨r, 1, none⟩ _ w h.rt.1.done).mono ?_
    rintro e w' ⟨rfl, rfl⟩
    exact ⟨rfl, T, h, (fun T' e => by injection e), World.grownBy.refl w _, fun _ _ => rfl⟩
  | none =>
    have hrt : RtAt w r p 0 0 fun _ => 0 := h.rt
    have hg1 : w.grownBy (w.setCell ⟨r, 2, none⟩ (.int .i32 1)) (some r) := setCell_grown w r 2 _
    refine (once_first r 1 45 #[.pointer (some ⟨r, 0, none⟩)] #[] (fun W => (w.setCell ⟨r, 2, none⟩ (.int .i32 1)).grownBy W (some r) ∧ ∃ T, RtAt W r p 0 1 T ∧ Good n ls T) w hrt.done hrt.mu (hrt.free 1) (hrt.free 2) (enters_of Tryz.func45 (by kernel_rfl) rfl) ?_).mono ?_
    · refine (work_c r p 0 1 n ls (w.setCell ⟨r, 2, none⟩ (.int .i32 1)) (h.mp.grown hrt.lt hg1) (hrt.setMu 1) (fun node => sort_c ls node)).mono ?_
      rintro e W ⟨rfl, hg, T, ht, htab, hb⟩
      exact ⟨rfl, ⟨hg, T, ht, htab, hb⟩, ht.done, ht.mu, ht.free 1, ht.free 2⟩
    · rintro e w' ⟨rfl, W, ⟨hg, T, ht, hgood⟩, rfl⟩
      have hgW : w.grownBy ((W.drew.setCell ⟨r, 1, none⟩ (.int .u32 1)).setCell ⟨r, 2, none⟩ (.int .i32 0)) (some r) :=
        (((hg1.trans hg).trans ((grown_below (bl_drew (Below.refl _ _))).but _)).trans (setCell_grown W.drew r 1 (.int .u32 1))).trans (setCell_grown (W.drew.setCell ⟨r, 1, none⟩ (.int .u32 1)) r 2 (.int .i32 0))
      refine ⟨rfl, T, ⟨h.mp.grown hrt.lt hgW, ?_, hgood⟩, (fun T' e => by cases e), hgW, (fun T' e => by cases e)⟩
      have h1 : RtAt W.drew r p 0 1 T := ht.block rfl
      exact (h1.setDone 1).setMu 0

def okp (n a b : Int) : Prop := (0 ≤ a ∧ a < n) ∧ (0 ≤ b ∧ b < n)
instance (n a b : Int) : Decidable (okp n a b) := by unfold okp; infer_instance

/-- What asked answers. -/
def askRes (n : Int) (T : Nat → Int) (a b : Int) : Int × Int :=
  if okp n a b then (if T (b.toNat * 16 + a.toNat) = 0 then (0, 200) else (T (b.toNat * 16 + a.toNat) - 1, 0)) else (0, 4)

def tabO (o : Option (Nat → Int)) : Nat → Int := o.getD fun _ => 0

/-- What an asking does to the routes. -/
structure Asks (w w' : World) (r p : Nat) (n : Int) (ls : List Lnk) (o o' : Option (Nat → Int)) (a b : Int) : Prop where
  st : RSt w' r p n ls o'
  ext : ∀ T, o = some T → o' = some T
  made : okp n a b → ∃ T, o' = some T
  gr : w.grownBy w' (some r)
  same : ∀ T, o = some T → Below w.heap.size w w'

set_option maxRecDepth 100000 in
set_option maxHeartbeats 1000000 in
theorem asked_c (r p : Nat) (n : Int) (ls : List Lnk) (o : Option (Nat → Int)) (a b : Int) (w : World) (h : RSt w r p n ls o) :
    Calls Tryz.prog 28 #[.pointer (some ⟨r, 0, none⟩), .int .i64 a, .int .i64 b] w fun e w' => ∃ o', e = .returned (.tuple #[.int .i64 (askRes n (tabO o') a b).1, .int .i64 (askRes n (tabO o') a b).2]) ∧ Asks w w' r p n ls o o' a b := by
  have k1 := rnone_no r p w h.plan
  have k2 := nodes_c p n ls w h.mp.st
  have k3 := once_ask r p n ls o w h
  have hp := h.plan
  have hmf : ∀ (fn : Fn) (first cap : Array Value) (w : World), (Instr.makeFunc fn first cap).run Tryz.prog w = .ok (.func fn first cap) w := fun _ _ _ _ => rfl
  have hn16 := (newErr_zero h.mp.ok).2.1
  by_cases hok : okp n a b
  · obtain ⟨⟨a0, a1⟩, b0, b1⟩ := hok
    have HOK := Lib.hid (show okp n a b from ⟨⟨a0, a1⟩, b0, b1⟩)
    clear h
    have x1 : a.toNat < 16 := by omega
    have x2 : b.toNat < 16 := by omega
    have x3 : a < 16 := by omega
    have x4 : b < 16 := by omega
    go_enter Tryz.func28, Tryz.ntmps28
    go_upto_region 7 with (first | (go_at_call 38; refine k1.mono ?_; rintro e w1 ⟨rfl, rfl⟩) | (go_at_call 43; refine k2.mono ?_; rintro e w1 ⟨rfl, rfl⟩) | (go_at_call 44; refine k3.mono ?_; rintro e w1 ⟨rfl, T, hst, hext, hgr, hsm⟩))
    have q := hst.rt.1.tab (b.toNat * 16 + a.toNat) (by omega)
    have qb := hst.rt.2.2 (b.toNat * 16 + a.toNat)
    rw [← Nat.add_assoc] at q
    have HR : askRes n (tabO (some T)) a b = if T (b.toNat * 16 + a.toNat) = 0 then (0, 200) else (T (b.toNat * 16 + a.toNat) - 1, 0) := by unfold askRes; rw [if_pos HOK.out]; rfl
    have HA : Asks w w1 r p n ls o (some T) a b := ⟨hst, fun T' e => by rw [hext T' e], fun _ => ⟨T, rfl⟩, hgr, fun T' e => by rw [← hsm T' e]; exact Below.refl _ _⟩
    have HH := Lib.hid HR
    have HAA := Lib.hid HA
    have hw : IntKind.i64.wrap (T (b.toNat * 16 + a.toNat) - 1) = T (b.toNat * 16 + a.toNat) - 1 := IntWalk.i64_in _ (by omega)
    clear HR HA k1 k2 k3 hp hst hext hgr hsm
    generalize T (b.toNat * 16 + a.toNat) = t at *
    by_cases ht : t = 0
    · subst ht
      go_wp2
      go_ret2
      exact ⟨some T, by rw [HH.out]; rfl, HAA.out⟩
    · go_wp2
      go_ret2
      exact ⟨some T, by rw [HH.out, if_neg ht]; rfl, HAA.out⟩
  · have hr : ∀ T, askRes n T a b = (0, 4) := fun T => by unfold askRes; rw [if_neg hok]
    have HR := Lib.hid hr
    have HA := Lib.hid (show Asks w w r p n ls o o a b from ⟨h, fun _ e => e, fun h => absurd h hok, World.grownBy.refl w _, fun _ _ => Below.refl _ _⟩)
    unfold okp at hok
    clear hr h k3
    by_cases a0 : a < 0
    · clear hok
      go_enter Tryz.func28, Tryz.ntmps28
      go_wp2_with (first | (go_at_call 38; refine k1.mono ?_; rintro e w1 ⟨rfl, rfl⟩) | (go_at_call 43; refine k2.mono ?_; rintro e w1 ⟨rfl, rfl⟩))
      go_ret2
      exact ⟨o, by rw [HR.out]; rfl, HA.out⟩
    · by_cases a1 : n ≤ a
      · clear hok
        go_enter Tryz.func28, Tryz.ntmps28
        go_wp2_with (first | (go_at_call 38; refine k1.mono ?_; rintro e w1 ⟨rfl, rfl⟩) | (go_at_call 43; refine k2.mono ?_; rintro e w1 ⟨rfl, rfl⟩))
        go_ret2
        exact ⟨o, by rw [HR.out]; rfl, HA.out⟩
      · by_cases b0 : b < 0
        · clear hok
          go_enter Tryz.func28, Tryz.ntmps28
          go_wp2_with (first | (go_at_call 38; refine k1.mono ?_; rintro e w1 ⟨rfl, rfl⟩) | (go_at_call 43; refine k2.mono ?_; rintro e w1 ⟨rfl, rfl⟩))
          go_ret2
          exact ⟨o, by rw [HR.out]; rfl, HA.out⟩
        · have b1 : n ≤ b := by omega
          clear hok
          go_enter Tryz.func28, Tryz.ntmps28
          go_wp2_with (first | (go_at_call 38; refine k1.mono ?_; rintro e w1 ⟨rfl, rfl⟩) | (go_at_call 43; refine k2.mono ?_; rintro e w1 ⟨rfl, rfl⟩))
          go_ret2
          exact ⟨o, by rw [HR.out]; rfl, HA.out⟩

theorem far_c (r p : Nat) (n : Int) (ls : List Lnk) (o : Option (Nat → Int)) (a b : Int) (w : World) (h : RSt w r p n ls o) :
    Calls Tryz.prog 10 #[.pointer (some ⟨r, 0, none⟩), .int .i64 a, .int .i64 b] w fun e w' => ∃ o', e = .returned (.tuple #[.int .i64 (askRes n (tabO o') a b).1, .int .i64 (askRes n (tabO o') a b).2]) ∧ Asks w w' r p n ls o o' a b := by
  have k := asked_c r p n ls o a b w h
  clear h
  go_enter Tryz.func10, Tryz.ntmps10
  go_wp2_with (go_at_call 28; refine k.mono ?_; rintro e w1 ⟨o', rfl, ha⟩)
  go_ret2
  exact ⟨o', rfl, ha⟩
end Go.Proofs.YtbjdiikjnlgmiaaGreat
