/- The checks of a link (package topo): within, none, flaws, Check: what each call answers. -/
import Derived.Test.YtbjdiikjnlgmiaaGreatProg
import Derived.Test.YtbjdiikjnlgmiaaGreatKit
namespace Go.Proofs.YtbjdiikjnlgmiaaGreat
open Go.RowKit Go.Shelf

/-- Is a number from one to another one? -/
def wi (n a b : Int) : Bool := decide (a ≤ n) && decide (n ≤ b)

theorem within_int (n a b : Int) (w : World) :
    Calls Tryz.prog 20 #[.int .i64 n, .int .i64 a, .int .i64 b] w fun e w' => e = .returned (.bool (wi n a b)) ∧ w = w' := by
  unfold wi
  by_cases h1 : a ≤ n
  · by_cases h2 : n ≤ b
    · go_enter Tryz.func20, Tryz.ntmps20
      go_wp2
      go_ret
      simp [h1, h2]
    · go_enter Tryz.func20, Tryz.ntmps20
      go_wp2
      go_ret
      simp; omega
  · go_enter Tryz.func20, Tryz.ntmps20
    go_wp2
    go_ret
    simp; omega

theorem within_i64 (n a b : Int) (w : World) :
    Calls Tryz.prog 53 #[.int .i64 n, .int .i64 a, .int .i64 b] w fun e w' => e = .returned (.bool (wi n a b)) ∧ w = w' := by
  unfold wi
  by_cases h1 : a ≤ n
  · by_cases h2 : n ≤ b
    · go_enter Tryz.func53, Tryz.ntmps53
      go_wp2
      go_ret
      simp [h1, h2]
    · go_enter Tryz.func53, Tryz.ntmps53
      go_wp2
      go_ret
      simp; omega
  · go_enter Tryz.func53, Tryz.ntmps53
    go_wp2
    go_ret
    simp; omega

theorem eqby (r : Option Nat) (w : World) : (binOp .eql 60 (.map r) (.map none)).run Tryz.prog w = .ok (.bool r.isNone) w := run_eql_map_nil w _ _ _ r Tryz.underlying60
attribute [local go_sem] eqby

/-- Is there no map? -/
theorem tnone_no (b off m : Nat) (w : World) (h : w.cell? ⟨b, off + 2, none⟩ = some (.map (some m))) :
    Calls Tryz.prog 36 #[.pointer (some ⟨b, off, none⟩)] w fun e w' => e = .returned (.bool false) ∧ w = w' := by
  go_enter Tryz.func36, Tryz.ntmps36
  go_wp2
  go_ret
  exact ⟨rfl, rfl⟩

theorem tnone_nil (w : World) :
    Calls Tryz.prog 36 #[.pointer none] w fun e w' => e = .returned (.bool true) ∧ w = w' := by
  go_enter Tryz.func36, Tryz.ntmps36
  go_wp2
  go_ret
  exact ⟨rfl, rfl⟩

structure Lnk where
  src : Int
  dst : Int
  rate : Int
  share : Int
  far : Int
  most : Int
  room : Int
  fifo : Int
  deriving DecidableEq

def Lnk.cells (L : Lnk) : List Value := [.int .i64 L.src, .int .i64 L.dst, .int .i64 L.rate, .int .i64 L.share, .int .i64 L.far, .int .i64 L.most, .int .i64 L.room, .int .i64 L.fifo]
def Lnk.arr (L : Lnk) : Array Value := #[.int .i64 L.src, .int .i64 L.dst, .int .i64 L.rate, .int .i64 L.share, .int .i64 L.far, .int .i64 L.most, .int .i64 L.room, .int .i64 L.fifo]

def flaw1 (nodes : Int) (L : Lnk) : Bool := !wi L.src 0 (nodes - 1) || (!wi L.dst 0 (nodes - 1) || L.src == L.dst)
def flaw2 (L : Lnk) : Bool := !wi L.rate 1 1000000 || !wi L.share 0 L.rate
def flaw3 (L : Lnk) : Bool := !wi L.far 0 1000 || !wi L.most 1 2000
def flaw4 (L : Lnk) : Bool := !wi L.room 0 1000000000 || !wi L.fifo 0 1000000

theorem flaws2_c (L : Lnk) (w : World) : Calls Tryz.prog 52 #[.agg L.arr] w fun e w' => e = .returned (.bool (flaw2 L)) ∧ Below w.heap.size w w' := by
  unfold flaw2 Lnk.arr
  cases h1 : wi L.rate 1 1000000 <;> cases h2 : wi L.share 0 L.rate <;>
  · go_enter Tryz.func52, Tryz.ntmps52
    go_wp2_with (go_at_call 53; refine (within_i64 _ _ _ _).mono ?_; rintro e w1 ⟨rfl, rfl⟩)
    go_ret
    exact ⟨rfl, (Below.refl _ _).alloc (Nat.le_refl _) _⟩

theorem flaws3_c (L : Lnk) (w : World) : Calls Tryz.prog 54 #[.agg L.arr] w fun e w' => e = .returned (.bool (flaw3 L)) ∧ Below w.heap.size w w' := by
  unfold flaw3 Lnk.arr
  cases h1 : wi L.far 0 1000 <;> cases h2 : wi L.most 1 2000 <;>
  · go_enter Tryz.func54, Tryz.ntmps54
    go_wp2_with (go_at_call 53; refine (within_i64 _ _ _ _).mono ?_; rintro e w1 ⟨rfl, rfl⟩)
    go_ret
    exact ⟨rfl, (Below.refl _ _).alloc (Nat.le_refl _) _⟩

theorem flaws4_c (L : Lnk) (w : World) : Calls Tryz.prog 55 #[.agg L.arr] w fun e w' => e = .returned (.bool (flaw4 L)) ∧ Below w.heap.size w w' := by
  unfold flaw4 Lnk.arr
  cases h1 : wi L.room 0 1000000000 <;> cases h2 : wi L.fifo 0 1000000 <;>
  · go_enter Tryz.func55, Tryz.ntmps55
    go_wp2_with (go_at_call 53; refine (within_i64 _ _ _ _).mono ?_; rintro e w1 ⟨rfl, rfl⟩)
    go_ret
    exact ⟨rfl, (Below.refl _ _).alloc (Nat.le_refl _) _⟩

theorem flaws1_c (L : Lnk) (nodes : Int) (nb : Nat) (w : World) (hn : 1 ≤ nodes) (hn2 : nodes ≤ 16) (hb : nb < w.heap.size) (hc : w.cell? ⟨nb, 0, none⟩ = some (.int .i64 nodes)) :
    Calls Tryz.prog 51 #[.agg L.arr, .pointer (some ⟨nb, 0, none⟩)] w fun e w' => e = .returned (.bool (flaw1 nodes L)) ∧ Below w.heap.size w w' := by
  unfold flaw1 Lnk.arr
  cases h1 : wi L.src 0 (nodes - 1) <;> cases h2 : wi L.dst 0 (nodes - 1) <;>
  · go_enter Tryz.func51, Tryz.ntmps51
    go_wp2_with (go_at_call 20; refine (within_int _ _ _ _).mono ?_; rintro e w1 ⟨rfl, rfl⟩)
    go_ret
    exact ⟨rfl, (Below.refl _ _).alloc (Nat.le_refl _) _⟩

end Go.Proofs.YtbjdiikjnlgmiaaGreat
