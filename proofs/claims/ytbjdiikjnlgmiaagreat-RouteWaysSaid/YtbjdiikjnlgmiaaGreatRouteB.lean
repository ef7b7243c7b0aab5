/- The order of a node's links: cmp.Compare, the closure over it. -/
import Derived.Test.YtbjdiikjnlgmiaaGreatRouteA
import Derived.Lib.Small
namespace Go.Proofs.YtbjdiikjnlgmiaaGreat
open Go.RowKit Go.Shelf

/-- What cmp.Compare answers. -/
def cmpI (a b : Int) : Int := if a < b then -1 else if b < a then 1 else 0

theorem compare_c (a b : Int) (w : World) : Calls Tryz.prog 71 #[.int .i64 a, .int .i64 b] w fun e w' => e = .returned (.int .i64 (cmpI a b)) ∧ w = w' := by
  have na : (a != a) = false := by simp
  have nb : (b != b) = false := by simp
  unfold cmpI
  by_cases h1 : a < b
  · rw [if_pos h1]
    go_enter Tryz.func71, Tryz.ntmps71
    go_wp2
    go_ret
    exact ⟨rfl, rfl⟩
  · by_cases h2 : b < a
    · rw [if_neg h1, if_pos h2]
      go_enter Tryz.func71, Tryz.ntmps71
      go_wp2
      go_ret
      exact ⟨rfl, rfl⟩
    · rw [if_neg h1, if_neg h2]
      go_enter Tryz.func71, Tryz.ntmps71
      go_wp2
      go_ret
      exact ⟨rfl, rfl⟩

theorem quietL {P : Program} {f : FuncId} {args : Array Value} {w : World} {n : Nat} {v : Value}
    (h : Calls P f args (w.drewN n) fun e w' => e = .returned v ∧ w.drewN n = w') : Calls P f args (w.drewN n) fun e w'' => e = .returned v ∧ ∃ m, w'' = w.drewN m :=
  h.mono fun _ _ ⟨he, hm⟩ => ⟨he, n, hm.symm⟩

set_option maxRecDepth 100000 in
set_option maxHeartbeats 1000000 in
theorem out11_c (bm p : Nat) (nodes : Int) (ls : List Lnk) (i j : Nat) (x y : Lnk) (hx : ls[i]? = some x) (hy : ls[j]? = some y) (w : World) (hm : MapSt w p nodes ls) (hb : w.cell? ⟨bm, 0, none⟩ = some (.pointer (some ⟨p, 0, none⟩))) :
    Calls Tryz.prog 70 #[.int .i64 i, .int .i64 j, .pointer (some ⟨bm, 0, none⟩)] w fun e w' => e = .returned (.int .i64 (cmpI x.dst y.dst)) ∧ ∃ q, w' = w.drewN q := by
  have hi : i < ls.length := (List.getElem?_eq_some_iff.1 hx).1
  have hj : j < ls.length := (List.getElem?_eq_some_iff.1 hy).1
  have hl48 := (newErr_zero hm.ok).2.2.1
  obtain ⟨⟨A, c, m, hob, hby⟩, he⟩ := hm
  have p1 := hob.blk.cell 1
  obtain ⟨b, o, rfl, hlb, hc⟩ := hob.row.at_ hx
  obtain ⟨b', o', hA, _, hc'⟩ := hob.row.at_ hy
  injection hA with hA
  injection hA with hA1 hA2
  subst hA1 hA2
  have c1 := hc 1 _ rfl
  have d1 := hc' 1 _ rfl
  simp only [List.getElem?_toArray, List.getElem?_cons_zero, List.getElem?_cons_succ] at p1
  have hcmp := fun W => compare_c x.dst y.dst W
  generalize cmpI x.dst y.dst = r at hcmp ⊢
  generalize x.dst = xd at *
  generalize y.dst = yd at *
  clear hx hy hc hc' hob hby he
  go_enter Tryz.func70, Tryz.ntmps70
  go_wp2_with fail
  go_quiet ((go_at_call 71; exact quietL (hcmp _)))
  go_wp2
  go_ret
  exact ⟨rfl, _, rfl⟩
end Go.Proofs.YtbjdiikjnlgmiaaGreat
