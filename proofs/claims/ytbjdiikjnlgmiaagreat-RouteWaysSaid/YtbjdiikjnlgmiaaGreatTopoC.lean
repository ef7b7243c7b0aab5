/- A link's check; slices.Clone. -/
import Derived.Test.YtbjdiikjnlgmiaaGreatTopoB
namespace Go.Proofs.YtbjdiikjnlgmiaaGreat
open Go.RowKit Go.Shelf

/-- n, if b; else 0. -/
def eif (b : Bool) (n : Int) : Int := if b then n else 0

theorem check_c (nodes : Int) (L : Lnk) (w : World) :
    Calls Tryz.prog 23 #[.agg L.arr, .int .i64 nodes] w fun e w' => e = .returned (.int .i64 (eif (linkBad nodes L) 2)) ∧ Below w.heap.size w w' := by
  have hmf : ∀ (fn : Fn) (first cap : Array Value) (w : World), (Instr.makeFunc fn first cap).run Tryz.prog w = .ok (.func fn first cap) w := fun _ _ _ _ => rfl
  unfold linkBad
  cases h1 : wi nodes 1 16
  · unfold Lnk.arr
    go_enter Tryz.func23, Tryz.ntmps23
    go_wp2_with (go_at_call 20; refine (within_int _ _ _ _).mono ?_; rintro e w1 ⟨rfl, rfl⟩)
    go_ret
    exact ⟨rfl, (Below.refl _ _).alloc (Nat.le_refl _) _⟩
  · have hn : 1 ≤ nodes ∧ nodes ≤ 16 := by unfold wi at h1; simpa using h1
    have eg : ∀ args w, (callFunc 42 args).run Tryz.prog w = .ok (.enter 42 args) w := enters_of Tryz.func42 (by kernel_rfl) rfl
    have hany := any4 nodes L
    have HA := Lib.hid hany
    clear hany
    obtain ⟨W0, hW0⟩ : ∃ W0, W0 = w.alloc (.cells L.arr 51) := ⟨_, rfl⟩
    have hlb : Blk W0 w.heap.size 51 L.arr := by rw [hW0]; exact Blk.new _ _ _
    have hb0 : Below w.heap.size w W0 := by rw [hW0]; exact (Below.refl _ _).alloc (Nat.le_refl _) _
    have hf := flaws_c nodes W0
    have hz0 : w.heap.size < W0.heap.size := hlb.lt
    unfold Lnk.arr at hW0
    have HW := Lib.hid hW0
    unfold Lnk.arr
    clear hW0
    go_enter Tryz.func23, Tryz.ntmps23
    go_wp2_with (go_at_call 20; refine (within_int _ _ _ _).mono ?_; rintro e w1 ⟨rfl, rfl⟩)
    rw [← HW.out]
    refine hf.mono ?_
    rintro e w1 ⟨a, rfl, hs, hcn, hz, hb1⟩
    have hc := contF_c (flV W0.heap.size) (flB nodes L) [0, 1, 2, 3] (some a) 4 42 #[.pointer (some ⟨w.heap.size, 0, none⟩)] w1 (by simp) hs
      (fun x _ W hW => check1_c nodes hn.1 hn.2 W0.heap.size w.heap.size L x W (Nat.lt_of_lt_of_le hz hW.size) (cell_later hW hcn) ((hlb.below hb1 hz0).below hW (Nat.lt_trans hz0 hz))) eg
    rw [HA.out] at hc
    have hbw : Below w.heap.size w w1 := below_call hb0 hb1 (Nat.le_of_lt hz0)
    cases h2 : (flaw1 nodes L || (flaw2 L || (flaw3 L || flaw4 L)))
    · rw [h2] at hc
      have H2 := Lib.hid h2
      clear h2
      go_wp2_with (go_at_call 40; refine hc.mono ?_; rintro e w2 ⟨rfl, hb2⟩)
      go_ret
      exact ⟨by rw [H2.out]; rfl, below_call hbw hb2 hbw.size⟩
    · rw [h2] at hc
      have H2 := Lib.hid h2
      clear h2
      go_wp2_with (go_at_call 40; refine hc.mono ?_; rintro e w2 ⟨rfl, hb2⟩)
      go_ret
      exact ⟨by rw [H2.out]; rfl, below_call hbw hb2 hbw.size⟩

/-- The closure that New hands to ContainsFunc. -/
theorem new1_c (nodes : Int) (nb : Nat) (L : Lnk) (w : World) (hnb : nb < w.heap.size) (hc : w.cell? ⟨nb, 0, none⟩ = some (.int .i64 nodes)) :
    Calls Tryz.prog 22 #[.agg L.arr, .pointer (some ⟨nb, 0, none⟩)] w fun e w' => e = .returned (.bool (linkBad nodes L)) ∧ Below w.heap.size w w' := by
  have hk := fun W => check_c nodes L W
  cases h : linkBad nodes L
  · rw [h] at hk
    unfold Lnk.arr at hk ⊢
    clear h
    go_enter Tryz.func22, Tryz.ntmps22
    go_wp2_with (go_at_call 23; refine (hk _).mono ?_; rintro e w2 ⟨rfl, hb2⟩)
    go_ret
    exact ⟨rfl, below_call ((Below.refl _ _).alloc (Nat.le_refl _) _) hb2 (by simp)⟩
  · rw [h] at hk
    unfold Lnk.arr at hk ⊢
    clear h
    go_enter Tryz.func22, Tryz.ntmps22
    go_wp2_with (go_at_call 23; refine (hk _).mono ?_; rintro e w2 ⟨rfl, hb2⟩)
    go_ret
    exact ⟨rfl, below_call ((Below.refl _ _).alloc (Nat.le_refl _) _) hb2 (by simp)⟩
end Go.Proofs.YtbjdiikjnlgmiaaGreat
