/- Ahead, where the table is made. -/
import Derived.Test.YtbjdiikjnlgmiaaGreatRouteK
namespace Go.Proofs.YtbjdiikjnlgmiaaGreat
open Go.RowKit Go.Shelf

def aheadS (ls : List Lnk) : List Nat → Int
  | [] => 0
  | i :: r => ((ls[i]?.map Lnk.far).getD 0) + aheadS ls r
def aheadUpto (ls : List Lnk) (l : List Nat) : Nat → Int
  | 0 => 0
  | k + 1 => IntKind.i64.wrap (aheadUpto ls l k + ((l[k]?.bind fun i => ls[i]?.map Lnk.far).getD 0))

set_option maxRecDepth 100000 in
set_option maxHeartbeats 1000000 in
theorem ahead_c (r p : Nat) (n : Int) (ls : List Lnk) (T : Nat → Int) (a b : Int) (w : World) (h : RSt w r p n ls (some T)) (he : (askRes n T a b).2 = 0) :
    Calls Tryz.prog 15 #[.pointer (some ⟨r, 0, none⟩), .int .i64 a, .int .i64 b] w fun e w' => e = .returned (.int .i64 (aheadUpto ls (wayL ls T b.toNat a.toNat (askRes n T a b).1.toNat) (askRes n T a b).1.toNat)) ∧ RSt w' r p n ls (some T) ∧ Below w.heap.size w w' := by
  have k := way_c r p n ls (some T) a b w h
  have hne := h.mp.ok
  have hnew := newErr_zero hne
  have hgood : Good n ls T := h.rt.2
  have hok := askRes_ok he
  obtain ⟨hT0, hd⟩ := askRes_zero he
  obtain ⟨⟨a0, a1⟩, b0, b1⟩ := hok
  have hpos := (hgood.2 (b.toNat * 16 + a.toNat)).1
  have h100 := (hgood.2 (b.toNat * 16 + a.toNat)).2
  obtain ⟨d, hdn⟩ : ∃ d : Nat, (askRes n T a b).1 = d := ⟨(askRes n T a b).1.toNat, by omega⟩
  have k' : Calls Tryz.prog 8 #[.pointer (some ⟨r, 0, none⟩), .int .i64 a, .int .i64 b] w fun e w' => ∃ A c, e = .returned (.tuple #[.slice A d c, .int .i64 0]) ∧ SlAt w' natCells 1 A (wayL ls T b.toNat a.toNat d) ∧ RSt w' r p n ls (some T) ∧ Below w.heap.size w w' := by
    refine k.mono ?_
    rintro e w' ⟨o', hw, ha⟩
    obtain rfl := ha.ext T rfl
    have h1 : tabO (some T) = T := rfl
    rw [h1] at hw
    rcases hw with ⟨h, _⟩ | ⟨_, A, c, rfl, hs⟩
    · exact absurd he h
    · rw [hdn] at hs ⊢
      exact ⟨A, c, rfl, hs, ha.st, ha.same T rfl⟩
  have hlen := wayL_len ls T b.toNat a.toNat d
  have hlinks : ∀ k, k < d → ∃ x, (wayL ls T b.toNat a.toNat d)[k]? = some (wayAt ls T b.toNat a.toNat k) ∧ ls[wayAt ls T b.toNat a.toNat k]? = some x := fun k hk => by
    obtain ⟨x, hop, _⟩ := hgood.pathHop hne (by omega : ((b.toNat : Nat) : Int) < n) (by omega : ((a.toNat : Nat) : Int) < n) k (by omega)
    refine ⟨x, ?_, hop.link⟩
    unfold wayL
    rw [List.getElem?_map, List.getElem?_range hk]
    rfl
  rw [hdn, Int.toNat_natCast]
  have hd100 : d ≤ 100 := by omega
  have HL := Lib.hid hlinks
  have hr := h.lt
  clear k h hT0 hd he hdn hgood hlinks hnew hne
  generalize wayL ls T b.toNat a.toNat d = L at *
  go_enter Tryz.func15, Tryz.ntmps15
  go_upto_block 0 with (go_at_call 8; refine k'.mono ?_; rintro e w1 ⟨A, c, rfl, hs, hst, hgr⟩)
  clear k'
  have hr1 := hst.lt
  have HS := Lib.hid hst
  have HSL := Lib.hid hs
  have HG := Lib.hid hgr
  clear hst hs hgr
  go_wp2_with fail
  go_loopw [9, 23] (fun s9 s23 wr => ∃ k : Nat, s23 = .int .i64 k ∧ k ≤ d ∧ s9 = .int .i64 (aheadUpto ls L k) ∧ Below w1.heap.size w1 wr) (fun _ s23 _ => d - (intOf s23).toNat)
  case atStart => exact ⟨0, rfl, Nat.zero_le _, rfl, Below.refl _ _⟩
  case round =>
    obtain ⟨k, rfl, hk, rfl, hb⟩ := hrel
    by_cases hlt : k < d
    · obtain ⟨x, hxL, hx⟩ := HL.out k hlt
      have hsw := HS.out.below hb
      have hsl := HSL.out.below hb
      obtain ⟨g, o, rfl, hgl, hc⟩ := hsl.at_ hxL
      have cx := hc 0 _ rfl
      rw [Nat.add_zero, Nat.mul_one] at cx
      have qp := hsw.plan
      have kk := link_c p n ls _ x hx wr hsw.mp.st
      unfold Lnk.arr at kk
      have hup : aheadUpto ls L (k + 1) = IntKind.i64.wrap (aheadUpto ls L k + x.far) := by
        show IntKind.i64.wrap (aheadUpto ls L k + ((L[k]?.bind fun i => ls[i]?.map Lnk.far).getD 0)) = _
        rw [hxL]
        simp only [Option.bind_some, hx, Option.map_some, Option.getD_some]
      have HU := Lib.hid hup
      clear hup hsl hc hsw hxL hx
      generalize aheadUpto ls L k = S at *
      generalize wayAt ls T b.toNat a.toNat k = i at *
      go_wp2_with (go_at_call 29; refine kk.mono ?_; rintro e w2 ⟨rfl, hw2⟩; obtain ⟨hcc, hff⟩ := bcell hw2)
      go_roundw
      case rel => exact ⟨k + 1, by go_num, hlt, by rw [HU.out, IntWalk.i64_left], below_call hb (bl_alloc hw2 _) hb.size⟩
      case measure => simp [intOf]; omega
    · obtain rfl : k = d := by omega
      go_wp2
      go_ret
      exact ⟨rfl, HS.out.below hb, below_call HG.out hb HG.out.size⟩
end Go.Proofs.YtbjdiikjnlgmiaaGreat
