/- Two lists of numbers compared, two lists of links, two maps; the routes' map. -/
import Derived.Test.YtbjdiikjnlgmiaaGreatWaysK
namespace Go.Proofs.YtbjdiikjnlgmiaaGreat
open Go.RowKit Go.Shelf

/-- Two equal lists of numbers are the same. -/
theorem lsame_c (L : List Nat) (A B : Option Addr) (c d : Nat) (w : World) (hl : L.length ≤ 1000) (ha : SlAt w natCells 1 A L) (hb : SlAt w natCells 1 B L) :
    Calls Tryz.prog 13 #[.slice A L.length c, .slice B L.length d] w fun e w' => e = .returned (.bool true) ∧ ∃ q, w' = w.drewN q := by
  go_enter Tryz.func13, Tryz.ntmps13
  go_wp2_with fail
  go_loopw [5] (fun s5 wx => ∃ k q : Nat, s5 = .int .i64 k ∧ k ≤ L.length ∧ wx = w.drewN q) (fun s5 _ => L.length - (intOf s5).toNat)
  case atStart => exact ⟨0, 0, rfl, Nat.zero_le _, rfl⟩
  case round =>
    obtain ⟨k, q, rfl, hk, rfl⟩ := hrel
    by_cases hlt : k < L.length
    · obtain ⟨i, hi⟩ : ∃ i, L[k]? = some i := ⟨_, List.getElem?_eq_getElem hlt⟩
      obtain ⟨b1, o1, rfl, _, h1⟩ := ha.at_ hi
      obtain ⟨b2, o2, rfl, _, h2⟩ := hb.at_ hi
      have c1 := h1 0 _ rfl
      have c2 := h2 0 _ rfl
      rw [Nat.add_zero, Nat.mul_one] at c1 c2
      clear h1 h2 hi ha hb
      go_upto_region 6 with fail
      go_quiet (fail)
      go_wp2_with fail
      go_roundw
      case rel => exact ⟨k + 1, _, by go_num, hlt, rfl⟩
      case measure => simp [intOf]; omega
    · go_wp2
      go_ret
      exact ⟨rfl, q, rfl⟩

set_option maxRecDepth 100000 in
set_option maxHeartbeats 1000000 in
theorem equalL_c (ls : List Lnk) (A B : Option Addr) (c d : Nat) (w : World) (hl : ls.length ≤ 1000) (ha : SlAt w Lnk.cells 8 A ls) (hb : SlAt w Lnk.cells 8 B ls) :
    Calls Tryz.prog 37 #[.slice A ls.length c, .slice B ls.length d] w fun e w' => e = .returned (.bool true) ∧ ∃ q, w' = w.drewN q := by
  go_enter Tryz.func37, Tryz.ntmps37
  go_wp2_with fail
  go_loopw [5, 13] (fun _ s13 wx => ∃ k q : Nat, s13 = .int .i64 k ∧ k ≤ ls.length ∧ wx = w.drewN q) (fun _ s13 _ => ls.length - (intOf s13).toNat)
  case atStart => exact ⟨0, 0, rfl, Nat.zero_le _, rfl⟩
  case round =>
    obtain ⟨k, q, rfl, hk, rfl⟩ := hrel
    by_cases hlt : k < ls.length
    · obtain ⟨x, hx⟩ : ∃ x, ls[k]? = some x := ⟨_, List.getElem?_eq_getElem hlt⟩
      obtain ⟨b1, o1, rfl, _, h1⟩ := ha.at_ hx
      obtain ⟨b2, o2, rfl, _, h2⟩ := hb.at_ hx
      have c0 := h1 0 _ rfl
      have d0 := h2 0 _ rfl
      rw [Nat.add_zero] at c0 d0
      have c1 := h1 1 _ rfl
      have d1 := h2 1 _ rfl
      have c2 := h1 2 _ rfl
      have d2 := h2 2 _ rfl
      have c3 := h1 3 _ rfl
      have d3 := h2 3 _ rfl
      have c4 := h1 4 _ rfl
      have d4 := h2 4 _ rfl
      have c5 := h1 5 _ rfl
      have d5 := h2 5 _ rfl
      have c6 := h1 6 _ rfl
      have d6 := h2 6 _ rfl
      have c7 := h1 7 _ rfl
      have d7 := h2 7 _ rfl
      clear h1 h2 hx ha hb
      go_upto_region 6 with fail
      go_quiet (fail)
      go_wp2_with fail
      go_roundw
      case rel => exact ⟨k + 1, _, by go_num, hlt, rfl⟩
      case measure => simp [intOf]; omega
    · go_wp2
      go_ret
      exact ⟨rfl, q, rfl⟩

set_option maxRecDepth 100000 in
set_option maxHeartbeats 1000000 in
/-- Two maps of the same nodes and links are the same. -/
theorem same_c (p q : Nat) (n : Int) (ls : List Lnk) (w : World) (h1 : MapSt w p n ls) (h2 : MapSt w q n ls) :
    Calls Tryz.prog 16 #[.pointer (some ⟨p, 0, none⟩), .pointer (some ⟨q, 0, none⟩)] w fun e w' => e = .returned (.bool true) ∧ ∃ k, w' = w.drewN k := by
  have hl48 := (newErr_zero h1.ok).2.2.1
  obtain ⟨⟨A, c, m, hob, hby⟩, he⟩ := h1
  obtain ⟨⟨B, d, m2, hob2, hby2⟩, _⟩ := h2
  have p0 := hob.blk.cell 0
  have p1 := hob.blk.cell 1
  have p2 := hob.blk.cell 2
  have q0 := hob2.blk.cell 0
  have q1 := hob2.blk.cell 1
  have q2 := hob2.blk.cell 2
  have k1 := tnone_no p 0 m w p2
  have k2 := tnone_no q 0 m2 w q2
  have ke := fun W (hW : Below w.heap.size w W) => equalL_c ls A B c d W (by omega) (hob.row.below hW) (hob2.row.below hW)
  simp only [List.getElem?_toArray, List.getElem?_cons_zero, List.getElem?_cons_succ] at p0 p1 q0 q1
  clear hob hby hob2 hby2 he
  go_enter Tryz.func16, Tryz.ntmps16
  go_upto_region 3 with (first | (go_at_call_of 36 (Value.pointer (some ⟨p, 0, none⟩)); refine k1.mono ?_; rintro e w1 ⟨rfl, rfl⟩) | (go_at_call 36; refine k2.mono ?_; rintro e w1 ⟨rfl, rfl⟩))
  clear k1 k2
  go_quiet ((go_at_call 37; exact Calls.quiet_of (ke _ (below_drewN (Below.refl _ _) _))))
  go_wp2_with fail
  go_ret
  exact ⟨rfl, _, rfl⟩

theorem rmap_c (r p : Nat) (n : Int) (ls : List Lnk) (o : Option (Nat → Int)) (w : World) (h : RSt w r p n ls o) :
    Calls Tryz.prog 17 #[.pointer (some ⟨r, 0, none⟩)] w fun e w' => ∃ q, e = .returned (.pointer (some ⟨q, 0, none⟩)) ∧ MapSt w' q n ls ∧ Below w.heap.size w w' := by
  have k1 := rnone_no r p w h.plan
  have k2 := copy_c p n ls w h.mp.st
  have hp := h.plan
  clear h
  go_enter Tryz.func17, Tryz.ntmps17
  go_wp2_with (first | (go_at_call 38; refine k1.mono ?_; rintro e w1 ⟨rfl, rfl⟩) | (go_at_call 27; refine k2.mono ?_; rintro e w1 ⟨q, rfl, hm, _, hb⟩))
  go_ret
  exact ⟨q, rfl, hm, hb⟩
end Go.Proofs.YtbjdiikjnlgmiaaGreat
