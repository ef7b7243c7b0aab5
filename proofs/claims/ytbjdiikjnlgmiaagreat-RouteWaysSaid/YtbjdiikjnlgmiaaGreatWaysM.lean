/- What the law asks of the routes, call by call. -/
import Derived.Test.YtbjdiikjnlgmiaaGreatWaysL
import Derived.Test.YtbjdiikjnlgmiaaGreatWaysG
import Derived.Test.YtbjdiikjnlgmiaaGreatWaysF
import Derived.Test.YtbjdiikjnlgmiaaGreatRouteO
namespace Go.Proofs.YtbjdiikjnlgmiaaGreat
open Go.RowKit Go.Shelf

theorem MapIn.kept {w w' : World} {B r p : Nat} {n : Int} {ls : List Lnk} (h : MapIn w B p n ls) (hB : B ≤ r) (hr : r < w.heap.size) (hg : w.grownBy w' (some r)) : MapIn w' B p n ls :=
  h.below ⟨hg.os, hg.tape, hg.output, hg.size, fun k hk => hg.block k (by omega) (fun e => by injection e; omega)⟩

/-- The world inside the law, behind the making of the maps and the routes. -/
structure LawSt (w : World) (n : Int) (ls : List Lnk) (A : Option Addr) (cap p B r q b9 : Nat) (o : Option (Nat → Int)) (W : World) : Prop where
  bel : Below w.heap.size w W
  mp : MapIn W B p n ls
  rt : RSt W r q n ls o
  bk : Blk W b9 30 #[.int .i64 n, .slice A ls.length cap]
  hB : B ≤ r
  h9 : b9 < r
  hw : w.heap.size ≤ r

section
variable {w : World} {n : Int} {ls : List Lnk} {A : Option Addr} {cap p B r q b9 : Nat} {o o' : Option (Nat → Int)} {W W' : World}
theorem LawSt.grow (h : LawSt w n ls A cap p B r q b9 o W) (hg : W.grownBy W' (some r)) (hs : RSt W' r q n ls o') : LawSt w n ls A cap p B r q b9 o' W' :=
  ⟨h.bel.grown hg h.bel.size (fun k e => by injection e with e; have := h.hw; omega), h.mp.kept h.hB h.rt.lt hg, hs, (hg.block _ h.bk.lt (by have := h.h9; simp; omega)).trans h.bk, h.hB, h.h9, h.hw⟩
theorem LawSt.below (h : LawSt w n ls A cap p B r q b9 o W) (hb : Below W.heap.size W W') : LawSt w n ls A cap p B r q b9 o W' := h.grow ((grown_below hb).but _) (h.rt.below hb)
theorem LawSt.good (h : LawSt w n ls A cap p B r q b9 o W) : ∀ T, o = some T → Good n ls T := fun T e => by
  have := h.rt.rt
  subst e
  exact this.2
end

section
variable (r p : Nat) (n : Int) (ls : List Lnk) (o : Option (Nat → Int)) (a b : Int) (w : World)
theorem way_k (h : RSt w r p n ls o) :
    Calls Tryz.prog 8 #[.pointer (some ⟨r, 0, none⟩), .int .i64 a, .int .i64 b] w fun e w' => ∃ o' A2 d2 c2 er, e = .returned (.tuple #[.slice A2 d2 c2, .int .i64 er]) ∧ er = (askRes n (tabO o') a b).2 ∧
      (er = 0 → d2 = (askRes n (tabO o') a b).1.toNat ∧ SlAt w' natCells 1 A2 (wayL ls (tabO o') b.toNat a.toNat d2)) ∧ (er ≠ 0 → A2 = none ∧ d2 = 0 ∧ c2 = 0) ∧ Asks w w' r p n ls o o' a b := by
  refine (way_c r p n ls o a b w h).mono ?_
  rintro e w' ⟨o', hw, ha⟩
  rcases hw with ⟨h, rfl⟩ | ⟨h, A, c, rfl, hs⟩
  · exact ⟨o', none, 0, 0, _, rfl, rfl, fun h0 => absurd h0 h, fun _ => ⟨rfl, rfl, rfl⟩, ha⟩
  · exact ⟨o', A, _, c, 0, rfl, h.symm, fun _ => ⟨rfl, hs⟩, fun h0 => absurd rfl h0, ha⟩

variable (er : Int)
theorem next_no_c (h : RSt w r p n ls o) (hno : NoWay n o a b er) :
    Calls Tryz.prog 9 #[.pointer (some ⟨r, 0, none⟩), .int .i64 a, .int .i64 b] w fun e w' => ∃ o', e = .returned (.tuple #[.int .i64 0, .int .i64 er]) ∧ RSt w' r p n ls o' ∧ NoWay n o' a b er ∧ w.grownBy w' (some r) := by
  refine (next_c r p n ls o a b w h).mono ?_
  rintro e w' ⟨o', rfl, ha⟩
  have hn := hno.next ha.ext
  have hx : nextRes n (tabO o') a b = (0, er) := by unfold nextRes; rw [hn.2.2, if_pos hn.1]
  exact ⟨o', by rw [hx], ha.st, hn, ha.gr⟩
theorem far_no_c (h : RSt w r p n ls o) (hno : NoWay n o a b er) :
    Calls Tryz.prog 10 #[.pointer (some ⟨r, 0, none⟩), .int .i64 a, .int .i64 b] w fun e w' => ∃ o', e = .returned (.tuple #[.int .i64 0, .int .i64 er]) ∧ RSt w' r p n ls o' ∧ NoWay n o' a b er ∧ w.grownBy w' (some r) := by
  refine (far_c r p n ls o a b w h).mono ?_
  rintro e w' ⟨o', rfl, ha⟩
  have hn := hno.next ha.ext
  exact ⟨o', by rw [hn.2.2], ha.st, hn, ha.gr⟩
theorem rway_no_c (N : Nat) (A : Option Addr) (cap : Nat) (h : RSt w r p N ls o) (hno : NoWay N o a b er) (hne : newErr N ls = 0) (hs : SlAt w Lnk.cells 8 A ls) :
    Calls Tryz.prog 12 #[.agg #[.int .i64 (N : Int), .slice A ls.length cap], .int .i64 a, .int .i64 b] w fun e w' => e = .returned (.tuple #[.slice none 0 0, .int .i64 er]) ∧ Below w.heap.size w w' := by
  refine (rway_c N ls (tabO o) A cap a b w (fun hok => ?_) hne hs).mono ?_
  · obtain ⟨T, rfl⟩ := hno.2.1 hok
    exact h.rt.2
  · rintro e w' ⟨hw, hb⟩
    rcases hw with ⟨_, rfl⟩ | ⟨h0, _⟩
    · exact ⟨by rw [hno.2.2], hb⟩
    · rw [hno.2.2] at h0; exact absurd h0 hno.1

variable (T : Nat → Int) (d : Nat)
theorem next_ok_c (h : RSt w r p n ls (some T)) (he : askRes n T a b = ((d : Int), 0)) :
    Calls Tryz.prog 9 #[.pointer (some ⟨r, 0, none⟩), .int .i64 a, .int .i64 b] w fun e w' => e = .returned (.tuple #[.int .i64 (nextRes n T a b).1, .int .i64 (nextRes n T a b).2]) ∧ RSt w' r p n ls (some T) ∧ Below w.heap.size w w' := by
  refine (next_c r p n ls (some T) a b w h).mono ?_
  rintro e w' ⟨o', rfl, ha⟩
  obtain rfl := ha.ext T rfl
  exact ⟨rfl, ha.st, ha.same T rfl⟩
theorem far_ok_c (h : RSt w r p n ls (some T)) (he : askRes n T a b = ((d : Int), 0)) :
    Calls Tryz.prog 10 #[.pointer (some ⟨r, 0, none⟩), .int .i64 a, .int .i64 b] w fun e w' => e = .returned (.tuple #[.int .i64 d, .int .i64 0]) ∧ RSt w' r p n ls (some T) ∧ Below w.heap.size w w' := by
  refine (far_c r p n ls (some T) a b w h).mono ?_
  rintro e w' ⟨o', rfl, ha⟩
  obtain rfl := ha.ext T rfl
  have ht : tabO (some T) = T := rfl
  rw [ht, he]
  exact ⟨rfl, ha.st, ha.same T rfl⟩
theorem rway_ok_c (N : Nat) (A : Option Addr) (cap : Nat) (hg : Good N ls T) (he : askRes N T a b = ((d : Int), 0)) (hne : newErr N ls = 0) (hs : SlAt w Lnk.cells 8 A ls) :
    Calls Tryz.prog 12 #[.agg #[.int .i64 (N : Int), .slice A ls.length cap], .int .i64 a, .int .i64 b] w fun e w' => ∃ A2 c2, e = .returned (.tuple #[.slice A2 d c2, .int .i64 0]) ∧ SlAt w' natCells 1 A2 (wayL ls T b.toNat a.toNat d) ∧ Below w.heap.size w w' := by
  refine (rway_c N ls T A cap a b w (fun _ => hg) hne hs).mono ?_
  rintro e w' ⟨hw, hb⟩
  unfold WayRes at hw
  rw [he] at hw
  rcases hw with ⟨h, _⟩ | ⟨_, A2, c2, rfl, hs2⟩
  · exact absurd rfl h
  · exact ⟨A2, c2, rfl, hs2, hb⟩
theorem ahead_ok_c (h : RSt w r p n ls (some T)) (he : askRes n T a b = ((d : Int), 0)) :
    Calls Tryz.prog 15 #[.pointer (some ⟨r, 0, none⟩), .int .i64 a, .int .i64 b] w fun e w' => e = .returned (.int .i64 (aheadUpto ls (wayL ls T b.toNat a.toNat d) d)) ∧ RSt w' r p n ls (some T) ∧ Below w.heap.size w w' := by
  refine (ahead_c r p n ls T a b w h (by rw [he])).mono ?_
  rintro e w' ⟨rfl, hs, hb⟩
  rw [he]
  exact ⟨rfl, hs, hb⟩
end

theorem refNew_ok_c (n : Int) (ls : List Lnk) (A : Option Addr) (cap : Nat) (w : World) (hl : ls.length ≤ 1000) (hs : SlAt w Lnk.cells 8 A ls) (he : newErr n ls = 0) :
    Calls Tryz.prog 6 #[.int .i64 n, .slice A ls.length cap] w fun e w' => e = .returned (.tuple #[.agg #[.int .i64 n, .slice A ls.length cap], .int .i64 0]) ∧ Below w.heap.size w w' := by
  refine (refNew_c n ls A cap w hl hs).mono ?_
  rintro e w' ⟨hb, h⟩
  rcases h with ⟨_, rfl⟩ | ⟨h, _⟩
  · exact ⟨rfl, hb⟩
  · exact absurd he h
theorem refNew_no_c (n : Int) (ls : List Lnk) (A : Option Addr) (cap : Nat) (w : World) (hl : ls.length ≤ 1000) (hs : SlAt w Lnk.cells 8 A ls) (he : newErr n ls ≠ 0) :
    Calls Tryz.prog 6 #[.int .i64 n, .slice A ls.length cap] w fun e w' => ∃ er, (er != 0) = true ∧ (er == 0) = false ∧ e = .returned (.tuple #[.agg #[.int .i64 0, .slice none 0 0], .int .i64 er]) ∧ Below w.heap.size w w' := by
  refine (refNew_c n ls A cap w hl hs).mono ?_
  rintro e w' ⟨hb, h⟩
  rcases h with ⟨h, _⟩ | ⟨_, er, hne, rfl⟩
  · exact absurd h he
  · exact ⟨er, by rw [bne_iff_ne]; exact hne, by rw [beq_eq_false_iff_ne]; exact hne, rfl, hb⟩
end Go.Proofs.YtbjdiikjnlgmiaaGreat
