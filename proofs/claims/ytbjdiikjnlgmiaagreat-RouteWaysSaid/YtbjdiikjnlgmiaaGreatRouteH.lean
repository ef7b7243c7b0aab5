/- route.New. -/
import Derived.Test.YtbjdiikjnlgmiaaGreatRouteG
import Derived.Laws.Tables
namespace Go.Proofs.YtbjdiikjnlgmiaaGreat
open Go.RowKit Go.Shelf

def rtBase : Array Value := #[.pointer none, .int .u32 0, .int .i32 0, .int .u32 0] ++ Array.replicate 512 (.int .i64 0)
theorem rt_base : Tryz.zeroCells88 = rtBase := by kernel_rfl

/-- What the table must be. -/
def Good (n : Int) (ls : List Lnk) (T : Nat → Int) : Prop := TabUpto n ls T n.toNat ∧ ∀ j, 0 ≤ T j ∧ T j ≤ 100

/-- Routes over a map: nothing asked yet, or the table made. -/
structure RSt (w : World) (r p : Nat) (n : Int) (ls : List Lnk) (o : Option (Nat → Int)) : Prop where
  mp : MapIn w r p n ls
  rt : match o with
    | none => RtAt w r p 0 0 fun _ => 0
    | some T => RtAt w r p 1 0 T ∧ Good n ls T

theorem RSt.lt {w : World} {r p : Nat} {n : Int} {ls : List Lnk} {o : Option (Nat → Int)} (h : RSt w r p n ls o) : r < w.heap.size := by
  cases o with
  | none => exact h.rt.lt
  | some T => exact h.rt.1.lt
theorem RSt.plan {w : World} {r p : Nat} {n : Int} {ls : List Lnk} {o : Option (Nat → Int)} (h : RSt w r p n ls o) : w.cell? ⟨r, 0, none⟩ = some (.pointer (some ⟨p, 0, none⟩)) := by
  cases o with
  | none => exact h.rt.plan
  | some T => exact h.rt.1.plan
theorem RSt.below {w w' : World} {r p : Nat} {n : Int} {ls : List Lnk} {o : Option (Nat → Int)} (h : RSt w r p n ls o) (hb : Below w.heap.size w w') : RSt w' r p n ls o := by
  refine ⟨h.mp.below (hb.mono (Nat.le_of_lt h.lt)), ?_⟩
  have hr := h.rt
  cases o with
  | none => exact hr.below hb
  | some T => exact ⟨hr.1.below hb, hr.2⟩

theorem base_lo (i : Nat) (hi : i < 4) : rtBase[i]? = #[.pointer none, .int .u32 0, .int .i32 0, .int .u32 0][i]? := by
  unfold rtBase
  exact Array.getElem?_append_left hi
theorem base_hi (i : Nat) (hi : i < 512) : rtBase[4 + i]? = some (.int .i64 0) := by
  unfold rtBase
  rw [Array.getElem?_append_right (Nat.le_add_right 4 i)]
  show (Array.replicate 512 (Value.int .i64 0))[4 + i - 4]? = _
  rw [Nat.add_sub_cancel_left, Array.getElem?_replicate, if_pos hi]
theorem rt_0 (v : Value) : (Tryz.zeroCells88.setIfInBounds 0 v)[0]? = some v := by
  rw [rt_base, Array.getElem?_setIfInBounds, if_pos rfl, if_pos]
  have := base_lo 0 (by decide)
  exact (Array.getElem?_eq_some_iff.1 (this.trans rfl)).1
theorem rt_s (v : Value) (i : Nat) (hi : i ≠ 0) : (Tryz.zeroCells88.setIfInBounds 0 v)[i]? = rtBase[i]? := by
  rw [rt_base, Array.getElem?_setIfInBounds, if_neg (fun e => hi e.symm)]

theorem rt_new {w w' : World} {q : Nat} (h : Blk w' w.heap.size 88 (Tryz.zeroCells88.setIfInBounds 0 (.pointer (some ⟨q, 0, none⟩)))) : RtAt w' w.heap.size q 0 0 fun _ => 0 :=
  ⟨(h.cell 0).trans (rt_0 _), (h.cell 1).trans ((rt_s _ 1 (by decide)).trans ((base_lo 1 (by decide)).trans rfl)), (h.cell 2).trans ((rt_s _ 2 (by decide)).trans ((base_lo 2 (by decide)).trans rfl)),
    fun i hi => (h.cell (4 + i)).trans ((rt_s _ (4 + i) (by omega)).trans (base_hi i hi)), fun o => h.frozen o⟩

set_option maxRecDepth 100000 in
theorem rnew_c (p : Nat) (nodes : Int) (ls : List Lnk) (w : World) (h : MapSt w p nodes ls) : Calls Tryz.prog 7 #[.pointer (some ⟨p, 0, none⟩)] w fun e w' =>
    ∃ r q, e = .returned (.tuple #[.pointer (some ⟨r, 0, none⟩), .int .i64 0]) ∧ RSt w' r q nodes ls none ∧ w.heap.size ≤ r ∧ Below w.heap.size w w' := by
  have k := same_nil_c p nodes ls w h
  have k2 := copy_c p nodes ls w h
  clear h
  go_enter Tryz.func7, Tryz.ntmps7
  go_wp2_with (first | (go_at_call 16; refine k.mono ?_; rintro e w1 ⟨rfl, rfl⟩) | (go_at_call 27; refine k2.mono ?_; rintro e w1 ⟨q, rfl, hm, hq, hb⟩))
  go_ret2
  have hn := Blk.new w1 88 (Tryz.zeroCells88.setIfInBounds 0 (.pointer (some ⟨q, 0, none⟩)))
  have hbn : Below w1.heap.size w1 (w1.alloc (.cells (Tryz.zeroCells88.setIfInBounds 0 (.pointer (some ⟨q, 0, none⟩))) 88)) := bl_alloc (Below.refl _ _) _
  exact ⟨_, q, rfl, ⟨hm.in_.below hbn, rt_new hn⟩, hb.size, bl_call hb hbn⟩
end Go.Proofs.YtbjdiikjnlgmiaaGreat
