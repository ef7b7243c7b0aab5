/- The document's map: which link leads from node to node; a node's links. -/
import Derived.Test.YtbjdiikjnlgmiaaGreatRouteL
namespace Go.Proofs.YtbjdiikjnlgmiaaGreat
open Go.RowKit Go.Shelf

/-- The document's map as a value. -/
def rmap (n : Int) (A : Option Addr) (len cap : Nat) : Value := .agg #[.int .i64 n, .slice A len cap]

def btwQ (f t : Int) (x : Lnk) : Bool := x.src == f && x.dst == t
def btwI (ls : List Lnk) (f t : Int) : Int :=
  match ls.findIdx? (btwQ f t) with
  | some i => i
  | none => -1

theorem btw_yes {ls : List Lnk} {f t : Int} {i : Nat} {x : Lnk} (hx : ls[i]? = some x) (hq : btwQ f t x = true) (hno : ∀ (j : Nat) (y : Lnk), j < i → ls[j]? = some y → btwQ f t y = false) : btwI ls f t = i := by
  obtain ⟨hi, rfl⟩ := List.getElem?_eq_some_iff.1 hx
  have : ls.findIdx? (btwQ f t) = some i := by
    rw [List.findIdx?_eq_some_iff_getElem]
    exact ⟨hi, hq, fun j hj => by rw [hno j ls[j] hj (List.getElem?_eq_getElem _)]; simp⟩
  unfold btwI
  rw [this]
theorem btw_no {ls : List Lnk} {f t : Int} (hno : ∀ (j : Nat) (y : Lnk), ls[j]? = some y → btwQ f t y = false) : btwI ls f t = -1 := by
  have : ls.findIdx? (btwQ f t) = none := by
    rw [List.findIdx?_eq_none_iff]
    intro y hy
    obtain ⟨j, hj⟩ := List.getElem?_of_mem hy
    exact hno j y hj
  unfold btwI
  rw [this]

set_option maxRecDepth 100000 in
set_option maxHeartbeats 1000000 in
theorem btw_c (n : Int) (ls : List Lnk) (A : Option Addr) (cap : Nat) (f t : Int) (w : World) (hl : ls.length ≤ 1000) (hs : SlAt w Lnk.cells 8 A ls) :
    Calls Tryz.prog 26 #[rmap n A ls.length cap, .int .i64 f, .int .i64 t] w fun e w' => e = .returned (.int .i64 (btwI ls f t)) ∧ Below w.heap.size w w' := by
  unfold rmap
  obtain ⟨w0, hw0⟩ : ∃ w0, w0 = w.alloc (.cells #[.int .i64 n, .slice A ls.length cap] 30) := ⟨_, rfl⟩
  have hb : Below w.heap.size w w0 := by rw [hw0]; exact bl_alloc (Below.refl _ _) _
  have hbk : Blk w0 w.heap.size 30 #[.int .i64 n, .slice A ls.length cap] := by rw [hw0]; exact Blk.new _ _ _
  have c1 : w0.cell? ⟨w.heap.size, 1, none⟩ = some (.slice A ls.length cap) := hbk.cell 1
  have hs0 := hs.below hb
  go_enter Tryz.func26, Tryz.ntmps26
  go_upto_block 0 with fail
  rw [← hw0]
  clear hw0 hs hbk
  go_wp2_with fail
  go_loopw [7] (fun s7 wx => ∃ k : Nat, s7 = .int .i64 k ∧ k ≤ ls.length ∧ (∀ (j : Nat) (y : Lnk), j < k → ls[j]? = some y → btwQ f t y = false) ∧ wx = w0) (fun s7 _ => ls.length - (intOf s7).toNat)
  case atStart => exact ⟨0, rfl, Nat.zero_le _, fun j y h => by omega, rfl⟩
  case round =>
    obtain ⟨k, rfl, hk, hno, rfl⟩ := hrel
    by_cases hlt : k < ls.length
    · obtain ⟨x, hx⟩ : ∃ x, ls[k]? = some x := ⟨ls[k], List.getElem?_eq_getElem hlt⟩
      obtain ⟨b, o, rfl, hbl, hc⟩ := hs0.at_ hx
      have q0 := hc 0 _ rfl
      rw [Nat.add_zero] at q0
      have q1 := hc 1 _ rfl
      have HX := Lib.hid hx
      have HN := Lib.hid hno
      clear hc hx hno
      by_cases e0 : x.src = f
      · by_cases e1 : x.dst = t
        · have hq : btwQ f t x = true := by unfold btwQ; simp [e0, e1]
          have HY := Lib.hid (btw_yes HX.out hq HN.out)
          rw [e0] at q0
          rw [e1] at q1
          clear e0 e1 hq
          go_wp2
          go_ret
          exact ⟨by rw [HY.out]; rfl, hb⟩
        · have hq : btwQ f t x = false := by unfold btwQ; simp [e0, e1]
          have HQ := Lib.hid hq
          have E1 : (x.dst == t) = false := beq_eq_false_iff_ne.2 e1
          rw [e0] at q0
          clear e0 e1 hq
          generalize x.dst = xd at *
          go_wp2
          go_roundw
          case rel =>
            refine ⟨k + 1, by go_num, hlt, fun j y hj hy => ?_, trivial⟩
            by_cases hjk : j = k
            · subst hjk
              rw [HX.out] at hy
              injection hy with hy
              rw [← hy]
              exact HQ.out
            · exact HN.out j y (by omega) hy
          case measure => simp [intOf]; omega
      · have hq : btwQ f t x = false := by unfold btwQ; simp [e0]
        have HQ := Lib.hid hq
        have E0 : (x.src == f) = false := beq_eq_false_iff_ne.2 e0
        clear e0 hq
        generalize x.src = xs at *
        go_wp2
        go_roundw
        case rel =>
          refine ⟨k + 1, by go_num, hlt, fun j y hj hy => ?_, trivial⟩
          by_cases hjk : j = k
          · subst hjk
            rw [HX.out] at hy
            injection hy with hy
            rw [← hy]
            exact HQ.out
          · exact HN.out j y (by omega) hy
        case measure => simp [intOf]; omega
    · obtain rfl : k = ls.length := by omega
      have HY := Lib.hid (btw_no (fun j y hy => hno j y (List.getElem?_eq_some_iff.1 hy).1 hy))
      clear hno
      go_wp2
      go_ret
      exact ⟨by rw [HY.out]; rfl, hb⟩

/-- A node's links, by the nodes to which they go, among the first k. -/
def outR (ls : List Lnk) (f : Int) : Nat → List Nat
  | 0 => []
  | k + 1 => outR ls f k ++ (if btwI ls f k < 0 then [] else [(btwI ls f k).toNat])
theorem outR_len (ls : List Lnk) (f : Int) : ∀ k, (outR ls f k).length ≤ k
  | 0 => by simp [outR]
  | k + 1 => by
    have := outR_len ls f k
    unfold outR
    split <;> simp <;> omega

set_option maxRecDepth 100000 in
set_option maxHeartbeats 1000000 in
theorem rout_c (n : Nat) (ls : List Lnk) (A : Option Addr) (cap : Nat) (f : Int) (w : World) (hn : n ≤ 16) (hl : ls.length ≤ 1000) (hs : SlAt w Lnk.cells 8 A ls) :
    Calls Tryz.prog 33 #[rmap n A ls.length cap, .int .i64 f] w fun e w' => ∃ A' m c', e = .returned (.slice A' m c') ∧ m = (outR ls f n).length ∧ SlAt w' natCells 1 A' (outR ls f n) ∧ Below w.heap.size w w' := by
  have hbt := fun (t : Int) W (h : Below w.heap.size w W) => btw_c n ls A cap f t W hl (hs.below h)
  unfold rmap at hbt ⊢
  obtain ⟨w0, hw0⟩ : ∃ w0, w0 = w.alloc (.cells #[.int .i64 n, .slice A ls.length cap] 30) := ⟨_, rfl⟩
  have hb : Below w.heap.size w w0 := by rw [hw0]; exact bl_alloc (Below.refl _ _) _
  have hbk : Blk w0 w.heap.size 30 #[.int .i64 n, .slice A ls.length cap] := by rw [hw0]; exact Blk.new _ _ _
  go_enter Tryz.func33, Tryz.ntmps33
  go_upto_block 0 with fail
  rw [← hw0]
  clear hw0 hs
  go_wp2_with fail
  go_loopw [5, 6] (fun s5 s6 wr => ∃ (k : Nat) (A' : Option Addr) (m c' : Nat), s6 = .int .i64 k ∧ k ≤ n ∧ s5 = .slice A' m c' ∧ OwnsL wr (w.heap.size + 1) 3 natCells 1 s5 (outR ls f k) ∧ Below w.heap.size w wr ∧ Blk wr w.heap.size 30 #[.int .i64 n, .slice A ls.length cap]) (fun _ s6 _ => n - (intOf s6).toNat)
  case atStart => exact ⟨0, none, 0, 0, rfl, Nat.zero_le _, rfl, OwnsL.nil _ _ _, hb, hbk⟩
  case round =>
    clear hb hbk
    obtain ⟨k, A', m, c', rfl, hk, rfl, ho, hb, hbk⟩ := hrel
    have c0 : wr.cell? ⟨w.heap.size, 0, none⟩ = some (.int .i64 n) := hbk.cell 0
    have c1 : wr.cell? ⟨w.heap.size, 1, none⟩ = some (.slice A ls.length cap) := hbk.cell 1
    by_cases hlt : k < n
    · have kb := hbt k wr hb
      have hlen := outR_len ls f k
      have HO := Lib.hid ho
      have hz := hbk.lt
      have HB := Lib.hid hbk
      clear ho hbk
      by_cases hneg : btwI ls f k < 0
      · have hsx : outR ls f (k + 1) = outR ls f k := by
          show outR ls f k ++ _ = _
          rw [if_pos hneg, List.append_nil]
        have HS := Lib.hid hsx
        clear hsx
        generalize btwI ls f k = i at *
        go_wp2_with (go_at_call 26; refine kb.mono ?_; rintro e w1 ⟨rfl, hb1⟩; obtain ⟨hcc, hff⟩ := bcell hb1)
        go_roundw
        case rel => exact ⟨k + 1, A', m, c', by go_num, hlt, rfl, by rw [HS.out]; exact HO.out.below hb1, bl_call hb hb1, HB.out.below hb1 hz⟩
        case measure => simp [intOf]; omega
      · have hge : 0 ≤ btwI ls f k := by omega
        obtain ⟨i, hi⟩ : ∃ i : Nat, btwI ls f k = i := ⟨(btwI ls f k).toNat, by omega⟩
        have hsx : outR ls f (k + 1) = outR ls f k ++ [i] := by
          show outR ls f k ++ _ = _
          rw [if_neg hneg, hi]
          rfl
        have HS := Lib.hid hsx
        rw [hi] at kb
        clear hsx hneg hge hi
        go_upto_region 7 with (go_at_call 26; refine kb.mono ?_; rintro e w1 ⟨rfl, hb1⟩; obtain ⟨hcc, hff⟩ := bcell hb1)
        have hoW := HO.out.below hb1
        have hbkW := HB.out.below hb1 hz
        have hbW := bl_call hb hb1
        have hn1 := Blk.new w1 3 #[.int .i64 (i : Int)]
        have HN := Lib.hid hn1
        have HOW := Lib.hid hoW
        have hzW := hbkW.lt
        clear hcc hff hb1 kb c0 c1 hb HO HB hn1 hoW
        go_wp2_with (at_builtin; refine wpList_appendT elemN _ rfl _ _ rfl (w.heap.size + 1) _ (outR ls f k) [i] rfl (OwnsL.below HOW.out ?_) _ 1 1 rfl rfl (sl_one HN.out) ?_ ?_ ?_)
        · (repeat (first | exact Below.refl _ _ | refine bl_drew ?_ | refine bl_alloc ?_ _ | refine bl_drewN ?_ _))
        · simp only [List.length_cons, List.length_nil]; omega
        · simp; omega
        · intro v' w' ho' hg _
          have hB' : Below (w.heap.size + 1) w1 w' := ((Below.refl _ w1).alloc (by omega) _).grown hg (by simp; omega) (fun g hg => (World.ownsRow.lt HOW.out g hg).1)
          have hBw := hbW.trans (hB'.mono (Nat.le_succ _))
          have hbk' := hbkW.below hB' (Nat.lt_succ_self _)
          rcases ho'.form' with ⟨_, h⟩ | ⟨g, c2, rfl, _, _⟩
          · simp at h
          · have HP := Lib.hid ho'
            clear ho' hg hB'
            go_wp2
            go_roundw
            case rel => exact ⟨k + 1, _, _, c2, by go_num, hlt, rfl, by rw [HS.out]; exact HP.out, hBw, hbk'⟩
            case measure => simp [intOf]; omega
    · obtain rfl : k = n := by omega
      have hm : m = (outR ls f k).length := by
        rcases ho.form' with ⟨h1, h2⟩ | ⟨g, c2, h1, _⟩
        · injection h1 with _ h1; rw [h1, h2]; rfl
        · injection h1
      have hsl := OwnsL.slAt (enc := natCells) (k := 1) (fun _ => rfl) ho
      have HSL := Lib.hid hsl
      clear ho hsl hbk
      go_wp2
      go_ret
      exact ⟨A', m, c', rfl, hm, HSL.out, hb⟩
end Go.Proofs.YtbjdiikjnlgmiaaGreat
