/- The map's other methods: Same against nil, Copy, Link, Nodes, Len. -/
import Derived.Test.YtbjdiikjnlgmiaaGreatTopoF
namespace Go.Proofs.YtbjdiikjnlgmiaaGreat
open Go.RowKit Go.Shelf

/-- A map that New made. -/
structure MapSt (w : World) (p : Nat) (nodes : Int) (ls : List Lnk) : Prop where
  ob : ∃ A c m, MapOb w p nodes A c m ls ∧ byIs w m (byList ls)
  ok : newErr nodes ls = 0

theorem MapSt.lt {w : World} {p : Nat} {nodes : Int} {ls : List Lnk} (h : MapSt w p nodes ls) : p < w.heap.size := by
  obtain ⟨⟨A, c, m, hob, hby⟩, _⟩ := h
  exact hob.blk.lt
theorem MapSt.below {w w' : World} {p : Nat} {nodes : Int} {ls : List Lnk} (h : MapSt w p nodes ls) (hb : Below w.heap.size w w') : MapSt w' p nodes ls := by
  obtain ⟨⟨A, c, m, hob, hby⟩, he⟩ := h
  exact ⟨⟨A, c, m, ⟨hob.blk.below hb hob.blk.lt, hob.row.below hb⟩, MapIs.below hby hb hby.lt⟩, he⟩

theorem newErr_zero {nodes : Int} {ls : List Lnk} (h : newErr nodes ls = 0) : 1 ≤ nodes ∧ nodes ≤ 16 ∧ ls.length ≤ 48 ∧ (∀ L ∈ ls, linkBad nodes L = false) ∧ dups ls = false ∧ noBack ls = false := by
  unfold newErr at h
  split at h
  · cases h
  · rename_i h1
    split at h
    · cases h
    · rename_i h2
      split at h
      · cases h
      · rename_i h3
        split at h
        · cases h
        · rename_i h4
          simp only [Bool.or_eq_true, Bool.not_eq_true', not_or, Bool.not_eq_false, Bool.not_eq_true] at h1 h3 h4
          have hw := h1.1
          unfold wi at hw
          simp only [Bool.and_eq_true, decide_eq_true_eq] at hw
          exact ⟨hw.1, hw.2, by omega, fun L hL => by have := List.any_eq_false.1 h1.2 L hL; simpa using this, h3, h4⟩

theorem same_nil_c (p : Nat) (nodes : Int) (ls : List Lnk) (w : World) (h : MapSt w p nodes ls) :
    Calls Tryz.prog 16 #[.pointer (some ⟨p, 0, none⟩), .pointer none] w fun e w' => e = .returned (.bool false) ∧ w = w' := by
  obtain ⟨⟨A, c, m, hob, hby⟩, he⟩ := h
  have p2 := hob.blk.cell 2
  have k1 := tnone_no p 0 m w p2
  have k2 := tnone_nil w
  go_enter Tryz.func16, Tryz.ntmps16
  go_wp2_with (first | (go_at_call_of 36 (Value.pointer (some ⟨p, 0, none⟩)); refine k1.mono ?_; rintro e w1 ⟨rfl, rfl⟩) | (go_at_call 36; refine k2.mono ?_; rintro e w1 ⟨rfl, rfl⟩))
  go_ret
  exact ⟨rfl, rfl⟩

theorem same_nil_nil_c (w : World) :
    Calls Tryz.prog 16 #[.pointer none, .pointer none] w fun e w' => e = .returned (.bool true) ∧ w = w' := by
  have k2 := tnone_nil w
  go_enter Tryz.func16, Tryz.ntmps16
  go_wp2_with (go_at_call 36; refine k2.mono ?_; rintro e w1 ⟨rfl, rfl⟩)
  go_ret
  exact ⟨rfl, rfl⟩

theorem nodes_c (p : Nat) (nodes : Int) (ls : List Lnk) (w : World) (h : MapSt w p nodes ls) :
    Calls Tryz.prog 43 #[.pointer (some ⟨p, 0, none⟩)] w fun e w' => e = .returned (.int .i64 nodes) ∧ w = w' := by
  obtain ⟨⟨A, c, m, hob, hby⟩, he⟩ := h
  have p0 := hob.blk.cell 0
  have p2 := hob.blk.cell 2
  have k1 := tnone_no p 0 m w p2
  go_enter Tryz.func43, Tryz.ntmps43
  go_wp2_with (go_at_call 36; refine k1.mono ?_; rintro e w1 ⟨rfl, rfl⟩)
  go_ret
  exact ⟨rfl, rfl⟩

theorem len_c (p : Nat) (nodes : Int) (ls : List Lnk) (w : World) (h : MapSt w p nodes ls) :
    Calls Tryz.prog 58 #[.pointer (some ⟨p, 0, none⟩)] w fun e w' => e = .returned (.int .i64 ls.length) ∧ w = w' := by
  obtain ⟨⟨A, c, m, hob, hby⟩, he⟩ := h
  have p1 := hob.blk.cell 1
  have p2 := hob.blk.cell 2
  have k1 := tnone_no p 0 m w p2
  go_enter Tryz.func58, Tryz.ntmps58
  go_wp2_with (go_at_call 36; refine k1.mono ?_; rintro e w1 ⟨rfl, rfl⟩)
  go_ret
  exact ⟨rfl, rfl⟩

def zeroL : Lnk := ⟨0, 0, 0, 0, 0, 0, 0, 0⟩

theorem link_c (p : Nat) (nodes : Int) (ls : List Lnk) (i : Nat) (x : Lnk) (hx : ls[i]? = some x) (w : World) (h : MapSt w p nodes ls) :
    Calls Tryz.prog 29 #[.pointer (some ⟨p, 0, none⟩), .int .i64 i] w fun e w' => e = .returned (.tuple #[.agg x.arr, .int .i64 0]) ∧ Below w.heap.size w w' := by
  have hi : i < ls.length := (List.getElem?_eq_some_iff.1 hx).1
  have hl48 := (newErr_zero h.ok).2.2.1
  obtain ⟨⟨A, c, m, hob, hby⟩, he⟩ := h
  have hpl := hob.blk.lt
  have p1 := hob.blk.cell 1
  have p2 := hob.blk.cell 2
  have k1 := fun W (hW : Below w.heap.size w W) => tnone_no p 0 m W ((hW.cell (p := ⟨p, 2, none⟩) hpl).trans p2)
  obtain ⟨b, o, rfl, hlb, hc⟩ := hob.row.at_ hx
  have c0 := hc 0 _ rfl
  rw [Nat.add_zero] at c0
  have c1 := hc 1 _ rfl
  have c2 := hc 2 _ rfl
  have c3 := hc 3 _ rfl
  have c4 := hc 4 _ rfl
  have c5 := hc 5 _ rfl
  have c6 := hc 6 _ rfl
  have c7 := hc 7 _ rfl
  have hwi : wi i 0 ((ls.length : Int) - 1) = true := by unfold wi; simp; omega
  clear hc hx hob hby he
  unfold Lnk.arr
  go_enter Tryz.func29, Tryz.ntmps29
  go_wp2_with (first | (go_at_call 36; refine (k1 _ ?_).mono ?_; (repeat (first | exact Below.refl _ _ | refine bl_drew ?_ | refine bl_alloc ?_ _ | refine bl_drewN ?_ _)); rintro e w1 ⟨rfl, rfl⟩) | (go_at_call 20; refine (within_int _ _ _ _).mono ?_; rintro e w1 ⟨rfl, rfl⟩))
  refine bodyPost_ret (v := .tuple #[.agg x.arr, .int .i64 0]) (by simp [results, Tryz.results29, go_sem, Lnk.arr]) rfl ⟨rfl, ?_⟩
  exact bl_alloc (Below.refl _ _) _

theorem new_ok_c (nodes : Int) (ls : List Lnk) (A : Option Addr) (cap : Nat) (w : World) (hn : ls.length ≤ 100000) (hs : SlAt w Lnk.cells 8 A ls) (he : newErr nodes ls = 0) :
    Calls Tryz.prog 5 #[.int .i64 nodes, .slice A ls.length cap] w fun e w' => ∃ p, e = .returned (.tuple #[.pointer (some ⟨p, 0, none⟩), .int .i64 0]) ∧ MapSt w' p nodes ls ∧ w.heap.size ≤ p ∧ Below w.heap.size w w' :=
  (new_c nodes ls A cap w hn hs).mono fun e w' ⟨hb, h⟩ => by
    rcases h with ⟨_, p, A', c, m, rfl, hob, hby, hp, _⟩ | ⟨hne, _⟩
    · exact ⟨p, rfl, ⟨⟨A', c, m, hob, hby⟩, he⟩, hp, hb⟩
    · exact absurd he hne

theorem new_no_c (nodes : Int) (ls : List Lnk) (A : Option Addr) (cap : Nat) (w : World) (hn : ls.length ≤ 100000) (hs : SlAt w Lnk.cells 8 A ls) (he : newErr nodes ls ≠ 0) :
    Calls Tryz.prog 5 #[.int .i64 nodes, .slice A ls.length cap] w fun e w' => e = .returned (.tuple #[.pointer none, .int .i64 (newErr nodes ls)]) ∧ Below w.heap.size w w' :=
  (new_c nodes ls A cap w hn hs).mono fun e w' ⟨hb, h⟩ => by
    rcases h with ⟨h0, _⟩ | ⟨_, h⟩
    · exact absurd h0 he
    · exact ⟨h, hb⟩

set_option maxRecDepth 100000 in
set_option maxHeartbeats 1000000 in
theorem copy_c (p : Nat) (nodes : Int) (ls : List Lnk) (w : World) (h : MapSt w p nodes ls) :
    Calls Tryz.prog 27 #[.pointer (some ⟨p, 0, none⟩)] w fun e w' => ∃ p', e = .returned (.pointer (some ⟨p', 0, none⟩)) ∧ MapSt w' p' nodes ls ∧ w.heap.size ≤ p' ∧ Below w.heap.size w w' := by
  have hz := newErr_zero h.ok
  obtain ⟨⟨A, c, m, hob, hby⟩, he⟩ := h
  have p0 := hob.blk.cell 0
  have p1 := hob.blk.cell 1
  have p2 := hob.blk.cell 2
  have k1 := tnone_no p 0 m w p2
  have hrow := hob.row
  have hn : ls.length ≤ 100000 := by omega
  have kn := fun W (hW : Below w.heap.size w W) => new_ok_c nodes ls A c W hn (hrow.below hW) he
  simp only [List.getElem?_toArray, List.getElem?_cons_zero, List.getElem?_cons_succ] at p0 p1
  clear hob hby he hrow hz
  go_enter Tryz.func27, Tryz.ntmps27
  go_wp2_with (go_at_call 36; refine k1.mono ?_; rintro e w1 ⟨rfl, rfl⟩)
  go_region_held3 (fun w' => w'.cell? ⟨p, 0, none⟩ = some (.int .i64 nodes) ∧ w'.cell? ⟨p, 1, none⟩ = some (.slice A ls.length c)) (first | go_keep | (refine ⟨cell_later hb1 ?_, cell_later hb1 ?_⟩ <;> assumption)) ((go_at_call 5; refine (kn _ ?_).mono ?_; (repeat (first | exact Below.refl _ _ | refine bl_drew ?_ | refine bl_alloc ?_ _ | refine bl_drewN ?_ _)); rintro e w1 ⟨p', rfl, hm', hp', hb1⟩))
  go_wp2
  go_ret
  exact ⟨p', rfl, hm', hp', bl_undrew hb1⟩
end Go.Proofs.YtbjdiikjnlgmiaaGreat
