/- The routes' object; the closure that looks for the nearest next node; the order of a node's links. -/
import Derived.Test.YtbjdiikjnlgmiaaGreatTopoG
namespace Go.Proofs.YtbjdiikjnlgmiaaGreat
open Go.RowKit Go.Shelf

/-- A map that New made, all of whose blocks lie below B. -/
structure MapIn (w : World) (B p : Nat) (nodes : Int) (ls : List Lnk) : Prop where
  ob : ∃ A c m, MapOb w p nodes A c m ls ∧ byIs w m (byList ls) ∧ p < B ∧ m < B ∧ (ls = [] ∨ ∃ b o, A = some ⟨b, o, none⟩ ∧ b < B)
  ok : newErr nodes ls = 0

theorem SlAt.kept {α : Type} {w w' : World} {enc : α → List Value} {k B : Nat} {A : Option Addr} {l : List α} (h : SlAt w enc k A l) (hA : l = [] ∨ ∃ b o, A = some ⟨b, o, none⟩ ∧ b < B) (hb : Below B w w') : SlAt w' enc k A l := by
  rcases h with h | ⟨b, o, rfl, hlt, h⟩
  · exact .inl h
  · rcases hA with hA | ⟨b', o', hA, hB⟩
    · exact .inl hA
    · have e : b = b' := by injection hA with hA; injection hA
      subst e
      exact .inr ⟨b, o, rfl, Nat.lt_of_lt_of_le hlt hb.size, fun i x hx j v hv => (hb.cell (p := ⟨b, _, none⟩) hB).trans (h i x hx j v hv)⟩

theorem MapIn.st {w : World} {B p : Nat} {nodes : Int} {ls : List Lnk} (h : MapIn w B p nodes ls) : MapSt w p nodes ls := by
  obtain ⟨⟨A, c, m, hob, hby, _⟩, he⟩ := h
  exact ⟨⟨A, c, m, hob, hby⟩, he⟩
theorem MapIn.below {w w' : World} {B p : Nat} {nodes : Int} {ls : List Lnk} (h : MapIn w B p nodes ls) (hb : Below B w w') : MapIn w' B p nodes ls := by
  obtain ⟨⟨A, c, m, hob, hby, hp, hm, hA⟩, he⟩ := h
  exact ⟨⟨A, c, m, ⟨hob.blk.below hb hp, hob.row.kept hA hb⟩, MapIs.below hby hb hm, hp, hm, hA⟩, he⟩
theorem MapSt.in_ {w : World} {p : Nat} {nodes : Int} {ls : List Lnk} (h : MapSt w p nodes ls) : MapIn w w.heap.size p nodes ls := by
  obtain ⟨⟨A, c, m, hob, hby⟩, he⟩ := h
  refine ⟨⟨A, c, m, hob, hby, hob.blk.lt, hby.lt, ?_⟩, he⟩
  rcases hob.row with h | ⟨b, o, hA, hlt, _⟩
  · exact .inl h
  · exact .inr ⟨b, o, hA, hlt⟩

/-- The routes' object in block r: its map in block p, whether the table is made (d), the lock's word (s), the table T. -/
structure RtAt (w : World) (r p : Nat) (d s : Int) (T : Nat → Int) : Prop where
  plan : w.cell? ⟨r, 0, none⟩ = some (.pointer (some ⟨p, 0, none⟩))
  done : w.cell? ⟨r, 1, none⟩ = some (.int .u32 d)
  mu : w.cell? ⟨r, 2, none⟩ = some (.int .i32 s)
  tab : ∀ i, i < 512 → w.cell? ⟨r, 4 + i, none⟩ = some (.int .i64 (T i))
  free : ∀ o, w.frozen? ⟨r, o, none⟩ = false

theorem RtAt.lt {w : World} {r p : Nat} {d s : Int} {T : Nat → Int} (h : RtAt w r p d s T) : r < w.heap.size := World.block_lt_of_cell? _ _ h.plan
theorem RtAt.block {w w' : World} {r p : Nat} {d s : Int} {T : Nat → Int} (h : RtAt w r p d s T) (hb : w'.heap[r]? = w.heap[r]?) : RtAt w' r p d s T :=
  ⟨(World.cell?_of_block (a := ⟨r, _, none⟩) hb).trans h.plan, (World.cell?_of_block (a := ⟨r, _, none⟩) hb).trans h.done, (World.cell?_of_block (a := ⟨r, _, none⟩) hb).trans h.mu,
    fun i hi => (World.cell?_of_block (a := ⟨r, _, none⟩) hb).trans (h.tab i hi), fun o => (World.frozen?_of_block (a := ⟨r, _, none⟩) hb).trans (h.free o)⟩
theorem RtAt.below {w w' : World} {r p : Nat} {d s : Int} {T : Nat → Int} (h : RtAt w r p d s T) (hb : Below w.heap.size w w') : RtAt w' r p d s T := h.block (hb.block r h.lt)

def upd (T : Nat → Int) (i : Nat) (v : Int) : Nat → Int := fun j => if j = i then v else T j

theorem RtAt.set_ {w : World} {r p : Nat} {d s : Int} {T : Nat → Int} (h : RtAt w r p d s T) {i : Nat} (hi : i < 512) (v : Int) : RtAt (w.setCell ⟨r, 4 + i, none⟩ (.int .i64 v)) r p d s (upd T i v) := by
  have ne : ∀ o, o ≠ 4 + i → (⟨r, 4 + i, none⟩ : Addr) ≠ ⟨r, o, none⟩ := fun o ho e => by injection e with _ e; exact ho e.symm
  refine ⟨(World.cell?_setCell_other _ _ _ _ (ne 0 (by omega))).trans h.plan, (World.cell?_setCell_other _ _ _ _ (ne 1 (by omega))).trans h.done, (World.cell?_setCell_other _ _ _ _ (ne 2 (by omega))).trans h.mu, fun j hj => ?_, fun o => by rw [World.frozen?_setCell]; exact h.free o⟩
  unfold upd
  by_cases hij : j = i
  · subst hij
    rw [if_pos rfl]
    exact World.cell?_setCell_same _ _ _ (h.tab j hj)
  · rw [if_neg hij]
    exact (World.cell?_setCell_other _ _ _ _ (ne (4 + j) (by omega))).trans (h.tab j hj)

/-- Is the node behind a link nearer? -/
def nearB (T : Nat → Int) (tg src : Nat) (x : Lnk) : Bool := decide (0 < T (tg * 16 + x.dst.toNat)) && decide (T (tg * 16 + x.dst.toNat) = T (tg * 16 + src) - 1)

theorem link_range {nodes : Int} {ls : List Lnk} (he : newErr nodes ls = 0) {x : Lnk} (hx : x ∈ ls) : 0 ≤ x.src ∧ x.src < nodes ∧ 0 ≤ x.dst ∧ x.dst < nodes ∧ x.src ≠ x.dst ∧ nodes ≤ 16 := by
  obtain ⟨h1, h2, _, hb, _⟩ := newErr_zero he
  have hl := hb x hx
  unfold linkBad flaw1 wi at hl
  simp only [Bool.or_eq_false_iff, Bool.not_eq_false', Bool.and_eq_true, decide_eq_true_eq, beq_eq_false_iff_ne, ne_eq] at hl
  obtain ⟨_, ⟨ha, hb, hc⟩, _⟩ := hl
  exact ⟨ha.1, by omega, hb.1, by omega, hc, h2⟩

set_option maxRecDepth 100000 in
set_option maxHeartbeats 1000000 in
theorem near_c (br bf bi r p : Nat) (d s : Int) (T : Nat → Int) (nodes : Int) (ls : List Lnk) (tg src i : Nat) (x : Lnk) (hx : ls[i]? = some x) (w : World) (hto : tg < 16) (hsrc : src < 16) (hT : ∀ j, 0 ≤ T j ∧ T j ≤ 100)
    (hrt : RtAt w r p d s T) (hm : MapSt w p nodes ls)
    (h1 : w.cell? ⟨br, 0, none⟩ = some (.pointer (some ⟨r, 0, none⟩))) (h2 : w.cell? ⟨bf, 0, none⟩ = some (.pointer (some ⟨r, 4 + tg * 16, none⟩))) (h3 : w.cell? ⟨bi, 0, none⟩ = some (.int .i64 src)) :
    Calls Tryz.prog 59 #[.int .i64 i, .pointer (some ⟨br, 0, none⟩), .pointer (some ⟨bf, 0, none⟩), .pointer (some ⟨bi, 0, none⟩)] w fun e w' => e = .returned (.bool (nearB T tg src x)) ∧ Below w.heap.size w w' := by
  obtain ⟨a1, a2, a3, a4, a5, a6⟩ := link_range hm.ok (List.mem_of_getElem? hx)
  have hk := link_c p nodes ls i x hx w hm
  have hp := hrt.plan
  have ht1 := hrt.tab (tg * 16 + x.dst.toNat) (by omega)
  have ht2 := hrt.tab (tg * 16 + src) (by omega)
  have hb1 := hT (tg * 16 + x.dst.toNat)
  have hb2 := hT (tg * 16 + src)
  unfold nearB
  have hr := hrt.lt
  have hbr := World.block_lt_of_cell? _ _ h1
  have hbf := World.block_lt_of_cell? _ _ h2
  have hbi := World.block_lt_of_cell? _ _ h3
  unfold Lnk.arr at hk
  rw [← Nat.add_assoc] at ht1 ht2
  clear hx hm hT hrt
  generalize T (tg * 16 + x.dst.toNat) = t1 at *
  generalize T (tg * 16 + src) = t2 at *
  dsimp only at hbr hbf hbi
  go_enter Tryz.func59, Tryz.ntmps59
  go_wp2_with (go_at_call 29; refine hk.mono ?_; rintro e w1 ⟨rfl, hw1⟩; obtain ⟨hcc, hff⟩ := bcell hw1; have hz1 := hw1.size)
  obtain ⟨W, hW⟩ : ∃ W, W = w1.alloc (.cells x.arr 51) := ⟨_, rfl⟩
  have hbw : Below w1.heap.size w1 W := by rw [hW]; exact bl_alloc (Below.refl _ _) _
  have q1 : W.cell? ⟨w1.heap.size, 1, none⟩ = some (.int .i64 x.dst) := by rw [hW]; simp [Lnk.arr]
  have hB : Below w.heap.size w W := bl_call hw1 hbw
  have q2 : W.cell? ⟨bf, 0, none⟩ = some (.pointer (some ⟨r, 4 + tg * 16, none⟩)) := (hB.cell (p := ⟨bf, 0, none⟩) hbf).trans h2
  have q3 : W.cell? ⟨bi, 0, none⟩ = some (.int .i64 src) := (hB.cell (p := ⟨bi, 0, none⟩) hbi).trans h3
  have q4 : W.cell? ⟨r, 4 + tg * 16 + x.dst.toNat, none⟩ = some (.int .i64 t1) := (hB.cell (p := ⟨r, _, none⟩) hr).trans ht1
  have q5 : W.cell? ⟨r, 4 + tg * 16 + src, none⟩ = some (.int .i64 t2) := (hB.cell (p := ⟨r, _, none⟩) hr).trans ht2
  unfold Lnk.arr at hW
  rw [← hW]
  clear hW hcc hff hw1 hbw h1 h2 h3 hp ht1 ht2 hbr hbf hbi hz1
  by_cases e1 : 0 < t1
  · by_cases e2 : t1 = t2 - 1
    · have eb : (t1 == t2 - 1) = true := by rw [beq_iff_eq]; exact e2
      have E2 := Lib.hid e2
      clear e2
      go_quiet (fail)
      go_wp2
      go_ret
      exact ⟨by rw [decide_eq_true e1, decide_eq_true E2.out]; rfl, bl_drewN hB _⟩
    · have eb : (t1 == t2 - 1) = false := by rw [beq_eq_false_iff_ne]; exact e2
      have E2 := Lib.hid e2
      clear e2
      go_quiet (fail)
      go_wp2
      go_ret
      exact ⟨by rw [decide_eq_true e1, decide_eq_false E2.out]; rfl, bl_drewN hB _⟩
  · have eb : decide (t1 > 0) = false := decide_eq_false e1
    go_quiet (fail)
    go_wp2
    go_ret
    exact ⟨rfl, bl_drewN hB _⟩
end Go.Proofs.YtbjdiikjnlgmiaaGreat
