/- What the table is to hold; what the work keeps: words for the walk. -/
import Derived.Test.YtbjdiikjnlgmiaaGreatRouteD
import Derived.Test.YtbjdiikjnlgmiaaGreatBfs
namespace Go.Proofs.YtbjdiikjnlgmiaaGreat
open Go.RowKit Go.Shelf

def nearF (f : Nat → Int) (src : Nat) (x : Lnk) : Bool := decide (0 < f x.dst.toNat) && decide (f x.dst.toNat = f src - 1)
def qOf (ls : List Lnk) (f : Nat → Int) (node : Nat) (a : OutI ls node) : Bool := ls[a.1]?.any (nearF f node)
def nextSpec (ls : List Lnk) (f : Nat → Int) (node : Nat) : Int := (found (qOf ls f node) (outList ls node)).1

structure RowOK (n : Int) (ls : List Lnk) (T : Nat → Int) (tg : Nat) : Prop where
  far : FarOK n ls tg (rowF T tg)
  next : ∀ v : Nat, (v : Int) < n → rowG T tg v = nextSpec ls (rowF T tg) v

structure OthA (n : Int) (ls : List Lnk) (T : Nat → Int) (tg : Nat) : Prop where
  old : ∀ a, a < tg → RowOK n ls T a
  zf : ∀ a, tg < a → a < 16 → rowF T a = fun _ => 0
  zg : ∀ a, tg < a → a < 16 → rowG T a = fun _ => 0

structure TabUpto (n : Int) (ls : List Lnk) (T : Nat → Int) (tg : Nat) : Prop where
  old : ∀ a, a < tg → RowOK n ls T a
  zf : ∀ a, tg ≤ a → a < 16 → rowF T a = fun _ => 0
  zg : ∀ a, tg ≤ a → a < 16 → rowG T a = fun _ => 0

theorem OthA.upd {n : Int} {ls : List Lnk} {T : Nat → Int} {tg i : Nat} (h : OthA n ls T tg) (h16 : tg < 16) (hi : ∃ a, a < 16 ∧ (i = tg * 16 + a ∨ i = 256 + tg * 16 + a)) (v : Int) : OthA n ls (upd T i v) tg := by
  obtain ⟨a, ha, hi⟩ := hi
  have hf : ∀ b, b ≠ tg → b < 16 → rowF (YtbjdiikjnlgmiaaGreat.upd T i v) b = rowF T b := fun b hb hb16 => rowF_upd_other T b i v fun c hc => by rcases hi with h | h <;> omega
  have hg : ∀ b, b ≠ tg → b < 16 → rowG (YtbjdiikjnlgmiaaGreat.upd T i v) b = rowG T b := fun b hb hb16 => rowG_upd_other T b i v fun c hc => by rcases hi with h | h <;> omega
  refine ⟨fun b hb => ?_, fun b hb hb16 => ?_, fun b hb hb16 => ?_⟩
  · have := h.old b hb
    exact ⟨by rw [hf b (by omega) (by omega)]; exact this.far, fun v hv => by rw [hf b (by omega) (by omega), hg b (by omega) (by omega)]; exact this.next v hv⟩
  · rw [hf b (by omega) hb16]; exact h.zf b hb hb16
  · rw [hg b (by omega) hb16]; exact h.zg b hb hb16
theorem TabUpto.start {n : Int} {ls : List Lnk} {T : Nat → Int} {tg : Nat} (h : TabUpto n ls T tg) : OthA n ls T tg := ⟨h.old, fun a ha => h.zf a (by omega), fun a ha => h.zg a (by omega)⟩
theorem OthA.done {n : Int} {ls : List Lnk} {T : Nat → Int} {tg : Nat} (h : OthA n ls T tg) (hr : RowOK n ls T tg) : TabUpto n ls T (tg + 1) :=
  ⟨fun a ha => by by_cases e : a = tg; subst e; exact hr; exact h.old a (by omega), fun a ha => h.zf a (by omega), fun a ha => h.zg a (by omega)⟩

/-- What the work keeps while it goes. -/
structure WInv (w : World) (r p : Nat) (d s : Int) (n : Int) (ls : List Lnk) (T : Nat → Int) (wr : World) : Prop where
  rt : RtAt wr r p d s T
  mp : MapIn wr r p n ls
  gr : w.grownBy wr (some r)
  tb : ∀ j, 0 ≤ T j ∧ T j ≤ 100
  rlt : r < w.heap.size
  bx : wr.cell? ⟨w.heap.size, 0, none⟩ = some (.pointer (some ⟨r, 0, none⟩))

theorem setCell_grown (W : World) (b o : Nat) (v : Value) : W.grownBy (W.setCell ⟨b, o, none⟩ v) (some b) :=
  ⟨rfl, rfl, rfl, by simp [World.setCell], fun k _ hk => Below.heap_setCell _ _ _ _ (fun e => hk (by rw [e]))⟩

section
variable {w : World} {r p : Nat} {d s : Int} {n : Int} {ls : List Lnk} {T : Nat → Int} {wr : World}

theorem WInv.below {w' : World} (h : WInv w r p d s n ls T wr) (hb : Below wr.heap.size wr w') : WInv w r p d s n ls T w' :=
  ⟨h.rt.below hb, h.mp.below (hb.mono (Nat.le_of_lt h.rt.lt)), h.gr.trans ((grown_below hb).but _), h.tb, h.rlt, (hb.cell (World.block_lt_of_cell? _ _ h.bx)).trans h.bx⟩
theorem WInv.drewN (h : WInv w r p d s n ls T wr) (k : Nat) : WInv w r p d s n ls T (wr.drewN k) := h.below (bl_drewN (Below.refl _ _) k)
theorem WInv.drew (h : WInv w r p d s n ls T wr) : WInv w r p d s n ls T wr.drew := h.below (bl_drew (Below.refl _ _))
theorem WInv.set (h : WInv w r p d s n ls T wr) {i : Nat} (hi : i < 512) {v : Int} (hv : 0 ≤ v ∧ v ≤ 100) : WInv w r p d s n ls (upd T i v) (wr.setCell ⟨r, 4 + i, none⟩ (.int .i64 v)) := by
  have hrw := h.rlt
  refine ⟨h.rt.set_ hi v, h.mp.below ((Below.refl r wr).setCell (p := ⟨r, 4 + i, none⟩) (Nat.le_refl _) _), h.gr.trans (setCell_grown wr r (4 + i) _), fun j => ?_, h.rlt, (World.cell?_setCell_other _ _ _ _ (by intro e; injection e with e; omega)).trans h.bx⟩
  unfold upd
  split
  · exact hv
  · exact h.tb j
end

theorem nearB_F {T : Nat → Int} {tg src : Nat} {x : Lnk} (hs : src < 16) (hx : x.dst.toNat < 16) : nearB T tg src x = nearF (rowF T tg) src x := by
  unfold nearB nearF rowF
  rw [if_pos hs, if_pos hx]

theorem near_q (br bf bi r p : Nat) (d s : Int) (T : Nat → Int) (nodes : Int) (ls : List Lnk) (tg node : Nat) (a : OutI ls node) (w : World) (hto : tg < 16) (hnode : node < 16) (hT : ∀ j, 0 ≤ T j ∧ T j ≤ 100)
    (hrt : RtAt w r p d s T) (hm : MapSt w p nodes ls)
    (h1 : w.cell? ⟨br, 0, none⟩ = some (.pointer (some ⟨r, 0, none⟩))) (h2 : w.cell? ⟨bf, 0, none⟩ = some (.pointer (some ⟨r, 4 + tg * 16, none⟩))) (h3 : w.cell? ⟨bi, 0, none⟩ = some (.int .i64 node)) :
    Calls Tryz.prog 59 #[.int .i64 a.1, .pointer (some ⟨br, 0, none⟩), .pointer (some ⟨bf, 0, none⟩), .pointer (some ⟨bi, 0, none⟩)] w fun e w' => e = .returned (.bool (qOf ls (rowF T tg) node a)) ∧ Below w.heap.size w w' := by
  obtain ⟨i, hi⟩ := a
  obtain ⟨x, hx⟩ : ∃ x, ls[i]? = some x := by
    cases h : ls[i]? with
    | none => rw [h] at hi; cases hi
    | some x => exact ⟨x, rfl⟩
  obtain ⟨_, _, a3, a4, _, a6⟩ := link_range hm.ok (List.mem_of_getElem? hx)
  have := near_c br bf bi r p d s T nodes ls tg node i x hx w hto hnode hT hrt hm h1 h2 h3
  unfold qOf
  dsimp only
  rw [hx]
  simp only [Option.any_some]
  rw [← nearB_F hnode (by omega)]
  exact this
end Go.Proofs.YtbjdiikjnlgmiaaGreat
