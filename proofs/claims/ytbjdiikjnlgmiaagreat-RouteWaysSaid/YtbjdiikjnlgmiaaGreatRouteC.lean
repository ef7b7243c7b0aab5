/- The links that leave a node: Out, and its iterator. -/
import Derived.Test.YtbjdiikjnlgmiaaGreatRouteB
import Derived.RangeFuncNested
import Derived.RangeFuncBound
import Derived.RangeFuncCalls
import Derived.RangeFuncLeaves
import Derived.Shelf.RegionOpen
import Derived.OwnWalkIn
import Derived.TacticsInMore
import Derived.LoopNIn
import Derived.LoopIn
namespace Go.Proofs.YtbjdiikjnlgmiaaGreat
open Go.RowKit Go.Shelf

attribute [local go_sem] Oper.semAt_some

/-- The links that leave a node, by their places. -/
abbrev OutI (ls : List Lnk) (node : Int) := { i : Nat // (ls[i]?.any fun x => x.src == node) = true }
def OutI.dst {ls : List Lnk} {node : Int} (a : OutI ls node) : Int := (ls[a.1]?.map (·.dst)).getD 0
def OutI.cells {ls : List Lnk} {node : Int} (a : OutI ls node) : List Value := [.int .i64 a.1]
def outsUpto (ls : List Lnk) (node : Int) : Nat → List (OutI ls node)
  | 0 => []
  | k + 1 => outsUpto ls node k ++ (if h : (ls[k]?.any fun x => x.src == node) = true then [⟨k, h⟩] else [])
def sortOut {ls : List Lnk} {node : Int} (l : List (OutI ls node)) : List (OutI ls node) := l.mergeSort fun x y => decide (x.dst ≤ y.dst)
def outList (ls : List Lnk) (node : Int) : List (OutI ls node) := sortOut (outsUpto ls node ls.length)

theorem outsUpto_yes {ls : List Lnk} {node : Int} {k : Nat} (h : (ls[k]?.any fun x => x.src == node) = true) : outsUpto ls node (k + 1) = outsUpto ls node k ++ [⟨k, h⟩] := by
  conv => lhs; unfold outsUpto
  rw [dif_pos h]
theorem outsUpto_no {ls : List Lnk} {node : Int} {k : Nat} (h : (ls[k]?.any fun x => x.src == node) = false) : outsUpto ls node (k + 1) = outsUpto ls node k := by
  conv => lhs; unfold outsUpto
  rw [dif_neg (by rw [h]; simp), List.append_nil]
theorem outsUpto_len (ls : List Lnk) (node : Int) : ∀ k, (outsUpto ls node k).length ≤ k
  | 0 => by simp [outsUpto]
  | k + 1 => by
    have := outsUpto_len ls node k
    unfold outsUpto
    split <;> simp <;> omega

theorem elemI (ls : List Lnk) (node : Int) : ElemAt Tryz.prog 36 3 (OutI.cells (ls := ls) (node := node)) 1 8 where
  slice := Tryz.underlying36
  info := by
    have h : (Tryz.prog.info? 3).map (fun i => (i.zero, i.size, i.bytes)) = some (some (.int .i64 0), 1, 8) := by kernel_rfl
    obtain ⟨i, hi, hz0, hz1, hz2⟩ := info_parts h
    exact ⟨i, _, hi, hz0, hz1, hz2, rfl⟩
  pos := by decide
  bpos := by decide
  len := fun _ => rfl
  one := fun x u hu => by
    simp only [OutI.cells, List.mem_cons, List.not_mem_nil, or_false] at hu
    rcases hu with rfl; rfl

theorem out_c (p : Nat) (node : Int) (w : World) : Calls Tryz.prog 61 #[.pointer (some ⟨p, 0, none⟩), .int .i64 node] w fun e w' =>
    e = .returned (.func (.func 68) #[] #[.pointer (some ⟨w.heap.size, 0, none⟩), .pointer (some ⟨w.heap.size + 1, 0, none⟩)]) ∧ w' = (w.alloc (.cells #[.pointer (some ⟨p, 0, none⟩)] 25)).alloc (.cells #[.int .i64 node] 3) := by
  have hmf : ∀ (fn : Fn) (first cap : Array Value) (w : World), (Instr.makeFunc fn first cap).run Tryz.prog w = .ok (.func fn first cap) w := fun _ _ _ _ => rfl
  go_enter Tryz.func61, Tryz.ntmps61
  go_wp2
  go_ret
  exact ⟨rfl, rfl⟩

/-- What the sort is to do. -/
def SortC (ls : List Lnk) (node : Int) : Prop :=
  ∀ (w : World) (B p bm : Nat) (nodes : Int) (A : Option Addr) (n c : Nat) (l : List (OutI ls node)), MapIn w B p nodes ls → bm < B → w.cell? ⟨bm, 0, none⟩ = some (.pointer (some ⟨p, 0, none⟩)) → l.length ≤ 48 →
    OwnsL w B 3 OutI.cells 1 (.slice A n c) l → Calls Tryz.prog 69 #[.slice A n c, .func (.func 70) #[] #[.pointer (some ⟨bm, 0, none⟩)]] w fun e w' =>
      e = .returned (.tuple #[]) ∧ Below B w w' ∧ SlAt w' OutI.cells 1 A (sortOut l)

/-- A round of the loop keeps all cells. -/
def Kc (W W' : World) : Prop := ∀ p v, W.cell? p = some v → W'.cell? p = some v

set_option maxRecDepth 100000 in
set_option maxHeartbeats 2000000 in
theorem out1_in (n : Nat) (l bm bn p : Nat) (nodes : Int) (ls : List Lnk) (node : Int) (hsort : SortC ls node) (J Jx : List (OutI ls node) → World → Prop) (W : World) (hJ : AbidesFrom W.heap.size J)
    (hm : MapSt W p nodes ls) (c1 : W.cell? ⟨bm, 0, none⟩ = some (.pointer (some ⟨p, 0, none⟩))) (c2 : W.cell? ⟨bn, 0, none⟩ = some (.int .i64 node))
    (hY : ∀ pre x W1, J pre W1 → pre.length < ls.length → YieldAt Fence.wide (n - 1) Tryz.prog l #[.int .i64 (x : OutI ls node).1] W1 fun e W' =>
      (e = .returned (.bool true) ∧ J (pre ++ [x]) W' ∧ Kc W1 W') ∨ (e = .returned (.bool false) ∧ Jx (pre ++ [x]) W'))
    (h0 : J [] W) :
    Calls Tryz.prog 68 #[.func (.yield l) #[] #[], .pointer (some ⟨bm, 0, none⟩), .pointer (some ⟨bn, 0, none⟩)] W fun e W' => (∃ v, e = .returned v) ∧
      ((∃ ys, ys = outList ls node ∧ J ys W') ∨ (∃ pre, (pre <+: outList ls node) ∧ Jx pre W')) := by
  have hmf : ∀ (fn : Fn) (first cap : Array Value) (w : World), (Instr.makeFunc fn first cap).run Tryz.prog w = .ok (.func fn first cap) w := fun _ _ _ _ => rfl
  have kl := fun w (h : MapSt w p nodes ls) => len_c p nodes ls w h
  have k1 := kl W hm
  have hb1 := World.block_lt_of_cell? _ _ c1
  have hb2 := World.block_lt_of_cell? _ _ c2
  dsimp only at hb1 hb2
  obtain ⟨_, _, hl48, _⟩ := newErr_zero hm.ok
  have HY := Lib.hid hY
  have HJ := Lib.hid hJ
  have HH := Lib.hid h0
  clear hY hJ h0
  go_enter Tryz.func68, Tryz.ntmps68
  refine wp_scope_jumps 0 (fun _ _ => False) (fun _ _ => 0) rfl ?first ?pass
  case pass => exact fun _ _ h => h.elim
  case first =>
  go_upto_block 0 with (go_at_call 58; refine k1.mono ?_; rintro e w1 ⟨rfl, rfl⟩)
  go_cut [4] (fun s4 wx => ∃ A n c, s4 = .slice A n c ∧ OwnsL wx W.heap.size 3 OutI.cells 1 s4 (outsUpto ls node ls.length) ∧ Below W.heap.size W wx)
  case first =>
    go_wp2_with fail
    go_loopw [4, 10] (fun s4 s10 wr => ∃ (k : Nat) (A : Option Addr) (a c : Nat), s10 = .int .i64 k ∧ k ≤ ls.length ∧ s4 = .slice A a c ∧ OwnsL wr W.heap.size 3 OutI.cells 1 s4 (outsUpto ls node k) ∧ Below W.heap.size W wr) (fun _ s10 _ => ls.length - (intOf s10).toNat)
    case atStart => exact ⟨0, none, 0, 0, rfl, Nat.zero_le _, rfl, OwnsL.nil _ _ _, Below.refl _ _⟩
    case round =>
      obtain ⟨k, A, a, c, rfl, hk, rfl, ho, hb⟩ := hrel
      by_cases hlt : k < ls.length
      · obtain ⟨x, hx⟩ : ∃ x, ls[k]? = some x := ⟨ls[k], List.getElem?_eq_getElem hlt⟩
        obtain ⟨⟨A0, cc, m, hob, hby⟩, he⟩ := hm.below hb
        have p1 := hob.blk.cell 1
        simp only [List.getElem?_toArray, List.getElem?_cons_zero, List.getElem?_cons_succ] at p1
        obtain ⟨b0, o0, rfl, hlb, hc⟩ := hob.row.at_ hx
        have c0 := hc 0 _ rfl
        rw [Nat.add_zero] at c0
        have d1 := (hb.cell (p := ⟨bm, 0, none⟩) hb1).trans c1
        have d2 := (hb.cell (p := ⟨bn, 0, none⟩) hb2).trans c2
        have hsz := hb.size
        have HO := Lib.hid ho
        have HX := Lib.hid hx
        have hlen := outsUpto_len ls node k
        clear ho hx hc hob hby he hm kl k1 c1 c2
        by_cases hq : x.src = node
        · have hp : (ls[k]?.any fun x => x.src == node) = true := by rw [HX.out]; simp [hq]
          have HS := Lib.hid (outsUpto_yes hp)
          have eq1 : (x.src == node) = true := by simp [hq]
          clear hq HX
          generalize x.src = sr at *
          go_wp2_with fail
          go_quiet (fail)
          go_wp2_with (at_builtin; refine wpList_appendT (elemI ls node) _ rfl _ _ rfl W.heap.size _ (outsUpto ls node k) [⟨k, hp⟩] rfl (OwnsL.below HO.out (bl_alloc (bl_drewN (Below.refl _ _) _) _)) _ 1 1 rfl rfl (.inr ⟨_, _, rfl, ?_, ?_⟩) ?_ ?_ ?_)
          · simp
          · intro i y hy j v hv
            have hi : i = 0 := by have := (List.getElem?_eq_some_iff.1 hy).1; simpa using this
            subst hi
            simp only [List.getElem?_cons_zero, Option.some.injEq] at hy
            subst hy
            have hj : j = 0 := by have := (List.getElem?_eq_some_iff.1 hv).1; simpa [OutI.cells] using this
            subst hj
            simp only [OutI.cells, List.getElem?_cons_zero, Option.some.injEq] at hv
            subst hv
            exact (Blk.new (wr.drewN _) _ _).cell 0
          · simp only [List.length_cons, List.length_nil]; omega
          · simp; omega
          · intro v' w' ho' hg _
            have hgb : Below W.heap.size W w' := (bl_alloc (bl_drewN hb _) _).grown hg (by simp; omega) (fun g hg => (World.ownsRow.lt HO.out g hg).1)
            rcases ho'.form' with ⟨_, h⟩ | ⟨g, c', rfl, _, _⟩
            · simp at h
            · have HP := Lib.hid ho'
              clear ho' hg
              go_wp2
              go_roundw
              case rel => exact ⟨k + 1, _, _, c', by go_num, hlt, rfl, by rw [HS.out]; exact HP.out, hgb⟩
              case measure => simp [intOf]; omega
        · have HS := Lib.hid (outsUpto_no (ls := ls) (node := node) (k := k) (by rw [HX.out]; simp [hq]))
          have eq1 : (x.src == node) = false := by simp [hq]
          clear hq HX
          generalize x.src = sr at *
          go_wp2_with fail
          go_quiet (fail)
          go_wp2_with fail
          go_roundw
          case rel => exact ⟨k + 1, _, a, c, by go_num, hlt, rfl, by rw [HS.out]; exact HO.out, bl_drewN hb _⟩
          case measure => simp [intOf]; omega
      · obtain rfl : k = ls.length := by omega
        go_wp2_with fail
        go_meet
        exact ⟨A, a, c, rfl, ho, hb⟩
  case rest =>
    obtain ⟨A, a, c, rfl, ho, hb⟩ := hcut
    have ks := hsort wc W.heap.size p bm nodes A a c _ (hm.in_.below hb) hb1 ((hb.cell (p := ⟨bm, 0, none⟩) hb1).trans c1) (Nat.le_trans (outsUpto_len ls node _) hl48) ho
    go_upto_block 2 with (go_at_call 69; refine ks.mono ?_; rintro e w1 ⟨rfl, hb1, hsl⟩)
    refine wp_label ?_
    simp only [Exit.then]
    rename_i hK
    refine hK _ _ ?_
    refine (wpIn_wide (n := n)).1 ?_
    have hB := hb.trans hb1
    have hj1 : J [] w1 := HJ.out [] W w1 none HH.out ⟨hB.os, hB.tape, hB.output, hB.size, fun k hk _ => hB.block k hk⟩ (fun r e => by cases e)
    obtain ⟨L, hL⟩ : ∃ L, outList ls node = L := ⟨_, rfl⟩
    have hlen : L.length = (outsUpto ls node ls.length).length := by rw [← hL]; unfold outList sortOut; exact List.length_mergeSort _
    have hle := outsUpto_len ls node ls.length
    have hsl' : SlAt w1 OutI.cells 1 A L := by rw [← hL]; exact hsl
    have ha : a = L.length := by
      rcases ho.form' with ⟨h1, h2⟩ | ⟨g, c', h1, _⟩
      · rw [hlen, h2]; injection h1
      · rw [hlen]; injection h1
    subst ha
    clear hK hm hsort kl k1 c1 c2 ks HJ HH ho hsl hb hb1
    have HL := Lib.hid hL
    have hll : L.length ≤ ls.length := by rw [hlen]; exact hle
    clear hL hlen hle
    gi_wp2
    gi_loopw [33] (fun i wr => ∃ k : Nat, k ≤ L.length ∧ i = .int .i64 k ∧ J (L.take k) wr ∧ Kc w1 wr) (fun i _ => L.length - (intOf i).toNat)
    case atStart => exact ⟨0, Nat.zero_le _, rfl, hj1, fun _ _ h => h⟩
    case round =>
      obtain ⟨k, hk, rfl, hJs, hkc⟩ := hrel
      by_cases hlt : k < L.length
      · obtain ⟨x, hx⟩ : ∃ x, L[k]? = some x := ⟨L[k], List.getElem?_eq_getElem hlt⟩
        obtain ⟨b, o, rfl, _, hc⟩ := hsl'.at_ hx
        have cx := hkc _ _ (hc 0 _ rfl)
        rw [Nat.add_zero, Nat.mul_one] at cx
        obtain ⟨fn, tmps, assign, body, hy, hR⟩ := HY.out _ x wr hJs (by rw [List.length_take]; omega)
        have hx' : L.take k ++ [x] = L.take (k + 1) := by rw [List.take_add_one, hx]; rfl
        have HX := Lib.hid hx
        have HX' := Lib.hid hx'
        clear hx hx' hc hsl'
        gi_wp2
        refine ⟨fun h => (by cases h), hR.mono ?_⟩
        rintro e W3 (⟨rfl, hJ3, hk3⟩ | ⟨rfl, hJx3⟩)
        · gi_wp2
          go_roundw
          case rel => exact ⟨k + 1, by omega, by simp, by rw [← HX'.out]; exact hJ3, fun p v h => hk3 p v (hkc p v h)⟩
          case measure => simp [intOf]; omega
        · gi_wp2
          simp only [Exit.jump]
          go_end0
          exact ⟨⟨_, rfl⟩, .inr ⟨_, by rw [HL.out]; exact List.take_prefix (k + 1) L, by rw [← HX'.out]; exact hJx3⟩⟩
      · obtain rfl : k = L.length := by omega
        gi_wp2
        simp only [Exit.jump]
        go_end0
        exact ⟨⟨_, rfl⟩, .inl ⟨_, HL.out.symm, by rw [← List.take_length (l := L)]; exact hJs⟩⟩
end Go.Proofs.YtbjdiikjnlgmiaaGreat
