/- topo.New. -/
import Derived.Test.YtbjdiikjnlgmiaaGreatTopoE
import Derived.Test.YtbjdiikjnlgmiaaGreatTopoS
import Derived.Deep.RegionHeld3
import Derived.Deep.RegionWith
import Derived.Deep.DeepCutAuto
import Derived.Deep.CutBlock
import Derived.StillTailTactics
namespace Go.Proofs.YtbjdiikjnlgmiaaGreat
open Go.RowKit Go.Shelf

/-- Block p is a map of so many nodes, and these links; what leads from node to node lies in block m. -/
structure MapOb (w : World) (p : Nat) (nodes : Int) (A : Option Addr) (c : Nat) (m : Nat) (ls : List Lnk) : Prop where
  blk : Blk w p 62 #[.int .i64 nodes, .slice A ls.length c, .map (some m)]
  row : SlAt w Lnk.cells 8 A ls

theorem mkA {nodes : Int} {ls : List Lnk} {A' : Option Addr} {c' : Nat} {w w1 : World} {o : Obj} (ho : o = .cells #[.int .i64 nodes] 3)
    (hb1 : Below ((w.alloc o).alloc (.map #[] 0)).drew.heap.size ((w.alloc o).alloc (.map #[] 0)).drew w1) (hs' : SlAt w1 Lnk.cells 8 A' ls) :
    MapOb (w1.alloc (.cells #[.int .i64 nodes, .slice A' ls.length c', .map (some (w.heap.size + 1))] 62)) w1.heap.size nodes A' c' (w.heap.size + 1) ls ∧
    byIs (w1.alloc (.cells #[.int .i64 nodes, .slice A' ls.length c', .map (some (w.heap.size + 1))] 62)) (w.heap.size + 1) [] ∧ w.heap.size < w1.heap.size ∧ w.heap.size < w.heap.size + 1 ∧ w1.heap.size ≠ w.heap.size + 1 ∧
    Below (w.heap.size + 1) (w.alloc (.cells #[.int .i64 nodes] 3)) (w1.alloc (.cells #[.int .i64 nodes, .slice A' ls.length c', .map (some (w.heap.size + 1))] 62)) := by
  subst ho
  have hz := hb1.size
  simp only [World.size_drew, World.size_alloc] at hz
  have hm : byIs ((w.alloc (.cells #[.int .i64 nodes] 3)).alloc (.map #[] 0)) (w.heap.size + 1) [] := by
    have := MapIs.made (ek := ek2) (ev := fun n : Nat => Value.int .i64 n) (w.alloc (.cells #[.int .i64 nodes] 3))
    rw [World.size_alloc] at this
    exact this
  have hb2 : Below (w.heap.size + 2) ((w.alloc (.cells #[.int .i64 nodes] 3)).alloc (.map #[] 0)) w1 := by
    have := hb1.mono (B' := w.heap.size + 2) (by simp)
    exact ⟨this.os, this.tape, this.output, this.size, this.block⟩
  refine ⟨⟨Blk.new _ _ _, hs'.below ((Below.refl _ _).alloc (Nat.le_refl _) _)⟩, ?_, by omega, by omega, by omega, ?_⟩
  · exact MapIs.below (B := w.heap.size + 2) hm (hb2.alloc (by omega) _) (by omega)
  · exact (((Below.refl _ _).alloc (by simp) _).trans (hb2.mono (by omega))).alloc (by omega) _

theorem mkB {nodes : Int} {ls : List Lnk} {A' : Option Addr} {c' : Nat} {w w1 : World} {o : Obj} (ho : o = .cells #[.int .i64 nodes] 3)
    (hb1 : Below (w.alloc o).drew.heap.size (w.alloc o).drew w1) (hs' : SlAt w1 Lnk.cells 8 A' ls) :
    MapOb ((w1.alloc (.map #[] 0)).alloc (.cells #[.int .i64 nodes, .slice A' ls.length c', .map (some w1.heap.size)] 62)) (w1.heap.size + 1) nodes A' c' w1.heap.size ls ∧
    byIs ((w1.alloc (.map #[] 0)).alloc (.cells #[.int .i64 nodes, .slice A' ls.length c', .map (some w1.heap.size)] 62)) w1.heap.size [] ∧ w.heap.size < w1.heap.size + 1 ∧ w.heap.size < w1.heap.size ∧ w1.heap.size + 1 ≠ w1.heap.size ∧
    Below (w.heap.size + 1) (w.alloc (.cells #[.int .i64 nodes] 3)) ((w1.alloc (.map #[] 0)).alloc (.cells #[.int .i64 nodes, .slice A' ls.length c', .map (some w1.heap.size)] 62)) := by
  subst ho
  have hz := hb1.size
  simp only [World.size_drew, World.size_alloc] at hz
  have hb2 : Below (w.heap.size + 1) (w.alloc (.cells #[.int .i64 nodes] 3)) w1 := by
    have := hb1.mono (B' := w.heap.size + 1) (by simp)
    exact ⟨this.os, this.tape, this.output, this.size, this.block⟩
  have hb3 : Below w1.heap.size w1 ((w1.alloc (.map #[] 0)).alloc (.cells #[.int .i64 nodes, .slice A' ls.length c', .map (some w1.heap.size)] 62)) := ((Below.refl _ _).alloc (Nat.le_refl _) _).alloc (by simp) _
  have hblk := Blk.new (w1.alloc (.map #[] 0)) 62 #[.int .i64 nodes, .slice A' ls.length c', .map (some w1.heap.size)]
  rw [World.size_alloc] at hblk
  refine ⟨⟨hblk, hs'.below hb3⟩, ?_, by omega, by omega, by omega, hb2.trans (hb3.mono (by omega))⟩
  exact MapIs.below (B := w1.heap.size + 1) (MapIs.made w1) ((Below.refl _ _).alloc (by simp) _) (by omega)

def NewPost (nodes : Int) (ls : List Lnk) (w : World) (e : Ending) (w' : World) : Prop :=
  Below w.heap.size w w' ∧
    ((newErr nodes ls = 0 ∧ ∃ p A c m, e = .returned (.tuple #[.pointer (some ⟨p, 0, none⟩), .int .i64 0]) ∧ MapOb w' p nodes A c m ls ∧ byIs w' m (byList ls) ∧ w.heap.size ≤ p ∧ w.heap.size ≤ m) ∨
      (newErr nodes ls ≠ 0 ∧ e = .returned (.tuple #[.pointer none, .int .i64 (newErr nodes ls)])))

def NewJump (nodes : Int) (ls : List Lnk) (w : World) (a : Act) (wx : World) : Prop :=
  a.tmps.size = 82 ∧ a.tmps.getD 5 undef = .int .i64 (newErr nodes ls) ∧ a.defers = [] ∧ Below w.heap.size w wx ∧ newErr nodes ls ≠ 0

set_option maxRecDepth 100000 in
set_option maxHeartbeats 2000000 in
theorem new_c (nodes : Int) (ls : List Lnk) (A : Option Addr) (cap : Nat) (w : World) (hn : ls.length ≤ 100000) (hs : SlAt w Lnk.cells 8 A ls) :
    Calls Tryz.prog 5 #[.int .i64 nodes, .slice A ls.length cap] w (NewPost nodes ls w) := by
  have hmf : ∀ (fn : Fn) (first cap : Array Value) (w : World), (Instr.makeFunc fn first cap).run Tryz.prog w = .ok (.func fn first cap) w := fun _ _ _ _ => rfl
  have hmm := @run_makeMap Tryz.prog
  go_enter Tryz.func5, Tryz.ntmps5
  go_upto_region 1 with fail
  refine wp_scope_jumps 0 (NewJump nodes ls w) (fun _ _ => 0) rfl ?first ?pass
  case pass =>
    rintro ⟨tmps, defers⟩ wx ⟨hsz, h5, hd, hb, hne⟩
    dsimp only at hsz h5 hd
    subst hd
    go_wp2
    simp only [Exit.jump]
    refine bodyPost_ret (v := .tuple #[.pointer none, .int .i64 (newErr nodes ls)]) ?_ rfl ⟨hb, .inr ⟨hne, rfl⟩⟩
    simp [results, Tryz.results5, hsz]
  case first =>
    go_upto_region 1 with fail
    go_cut [4] (fun s4 wx => ∃ p A' c' m, s4 = .pointer (some ⟨p, 0, none⟩) ∧ MapOb wx p nodes A' c' m ls ∧ byIs wx m [] ∧ w.heap.size < p ∧ w.heap.size < m ∧ p ≠ m ∧ Below (w.heap.size + 1) (w.alloc (.cells #[.int .i64 nodes] 3)) wx)
    case first =>
      go_region_held3 (fun w' => w'.cell? ⟨w.heap.size, 0, none⟩ = some (.int .i64 nodes)) (first | go_keep | (refine cell_later hb1 ?_; assumption)) ((go_at_call 19; refine (clone_c ls A cap _ (by omega) (hs.below ?_)).mono ?_; (repeat (first | exact Below.refl _ _ | refine bl_drew ?_ | refine bl_alloc ?_ _ | refine bl_drewN ?_ _)); rintro e w1 ⟨A', c', rfl, hs', hb1⟩; obtain ⟨hcc, hff⟩ := bcell hb1))
      · rename_i hb1 _ _ _
        go_wp2_with fail
        go_meet
        first | exact ⟨_, A', c', _, rfl, mkA rfl hb1 hs'⟩ | exact ⟨_, A', c', _, rfl, mkB rfl hb1 hs'⟩
      · rename_i hb1 _ _ _
        go_wp2_with fail
        go_meet
        first | exact ⟨_, A', c', _, rfl, mkA rfl hb1 hs'⟩ | exact ⟨_, A', c', _, rfl, mkB rfl hb1 hs'⟩
    case rest =>
      obtain ⟨p, A', c', m, rfl, hob, hby, hp, hm, hpm, hbw⟩ := hcut
      have hb0 : Below w.heap.size w (w.alloc (.cells #[.int .i64 nodes] 3)) := bl_alloc (Below.refl _ _) _
      have hw0 : Below w.heap.size w wc := hb0.trans (hbw.mono (by omega))
      have cb : wc.cell? ⟨w.heap.size, 0, none⟩ = some (.int .i64 nodes) := (hbw.cell (p := ⟨w.heap.size, 0, none⟩) (by simp)).trans (by simp)
      have hz : w.heap.size < wc.heap.size := World.block_lt_of_cell? _ _ cb
      have eg : ∀ args w, (callFunc 22 args).run Tryz.prog w = .ok (.enter 22 args) w := enters_of Tryz.func22 (by kernel_rfl) rfl
      have kc := contL_c (linkBad nodes) ls A cap 22 #[.pointer (some ⟨w.heap.size, 0, none⟩)] wc hn (hs.below hw0) (fun x _ W hW => new1_c nodes w.heap.size x W (Nat.lt_of_lt_of_le hz hW.size) (cell_later hW cb)) eg
      clear hmm hbw hb0
      cases h1 : wi nodes 1 16
      · have he : newErr nodes ls = 2 := by unfold newErr; simp [h1]
        have HE := Lib.hid he
        clear he kc
        go_wp2_with (go_at_call 20; refine (within_int _ _ _ _).mono ?_; rintro e w1 ⟨rfl, rfl⟩)
        refine wp_goto ?_
        simp only [Exit.then, Exit.jump]
        exact ⟨trivial, rfl, by rw [HE.out]; rfl, rfl, hw0, by rw [HE.out]; decide⟩
      · obtain ⟨bad, hbad⟩ : ∃ b, ls.any (linkBad nodes) = b := ⟨_, rfl⟩
        rw [hbad] at kc
        cases bad
        · by_cases h3 : 48 < ls.length
          · have he : newErr nodes ls = 3 := by unfold newErr; simp only [h1, hbad, h3]; rfl
            have HE := Lib.hid he
            clear he hbad
            go_wp2_with (first | (go_at_call 20; refine (within_int _ _ _ _).mono ?_; rintro e w1 ⟨rfl, rfl⟩) | (go_at_call 21; refine kc.mono ?_; rintro e w1 ⟨rfl, hb1⟩))
            refine wp_goto ?_
            simp only [Exit.then, Exit.jump]
            exact ⟨trivial, rfl, by rw [HE.out]; rfl, rfl, bl_call hw0 hb1, by rw [HE.out]; decide⟩
          · have he : newErr nodes ls = if dups ls = true then 190 else if noBack ls = true then 191 else 0 := by unfold newErr; simp only [h1, hbad, h3]; rfl
            have HE := Lib.hid he
            clear he hbad
            go_upto_block 0 with (first | (go_at_call 20; refine (within_int _ _ _ _).mono ?_; rintro e w1 ⟨rfl, rfl⟩) | (go_at_call 21; refine kc.mono ?_; rintro e w1 ⟨rfl, hb1⟩))
            have hob1 : MapOb w1 p nodes A' c' m ls := ⟨hob.blk.below hb1 hob.blk.lt, hob.row.below hb1⟩
            have hby1 : byIs w1 m [] := MapIs.below hby hb1 hby.lt
            have hw1 : Below w.heap.size w w1 := bl_call hw0 hb1
            clear kc hob hby hw0 cb hb1 hz
            go_cut [35] (fun s35 wx => (∃ k : Nat, s35 = .int .i64 k) ∧ MapOb wx p nodes A' c' m ls ∧ byIs wx m (byList ls) ∧ (∀ k x, ls[k]? = some x → (lookupK x.key (byList (ls.take k))).isSome = false) ∧ Below w.heap.size w wx)
            case first =>
              go_wp2_with fail
              go_loopw [35] (fun s35 wr => ∃ k : Nat, s35 = .int .i64 k ∧ k ≤ ls.length ∧ MapOb wr p nodes A' c' m ls ∧ byIs wr m (byList (ls.take k)) ∧ (∀ j x, j < k → ls[j]? = some x → (lookupK x.key (byList (ls.take j))).isSome = false) ∧ Below w.heap.size w wr) (fun s35 _ => ls.length - (intOf s35).toNat)
              case atStart => exact ⟨0, rfl, Nat.zero_le _, hob1, hby1, fun j x h => by omega, hw1⟩
              case round =>
                clear hob1 hby1 hw1
                obtain ⟨k, rfl, hk, hob, hby, hno, hb⟩ := hrel
                by_cases hlt : k < ls.length
                · obtain ⟨x, hx⟩ : ∃ x, ls[k]? = some x := ⟨ls[k], List.getElem?_eq_getElem hlt⟩
                  obtain ⟨b, o, rfl, hlb, hc⟩ := (hs.below hb).at_ hx
                  have c0 := hc 0 _ rfl
                  rw [Nat.add_zero] at c0
                  have c1 := hc 1 _ rfl
                  have c2 := hc 2 _ rfl
                  have c3 := hc 3 _ rfl
                  have c4 := hc 4 _ rfl
                  have c5 := hc 5 _ rfl
                  have c6 := hc 6 _ rfl
                  have c7 := hc 7 _ rfl
                  have HX := Lib.hid hx
                  have HN := Lib.hid hno
                  have p2 := hob.blk.cell 2
                  have hpl := hob.blk.lt
                  have hml := hby.lt
                  clear hc hx hno
                  go_upto_region 10 with fail
                  obtain ⟨W, hW⟩ : ∃ W, W = (wr.alloc (.cells x.arr 51)).alloc (.cells #[.int .i64 x.src, .int .i64 x.dst] 23) := ⟨_, rfl⟩
                  have hbw : Below wr.heap.size wr W := by rw [hW]; exact bl_alloc (bl_alloc (Below.refl _ _) _) _
                  have q0 : W.cell? ⟨wr.heap.size + 1, 0, none⟩ = some (.int .i64 x.src) := by rw [hW]; simp
                  have q1 : W.cell? ⟨wr.heap.size + 1, 1, none⟩ = some (.int .i64 x.dst) := by rw [hW]; simp
                  have q2 : W.cell? ⟨p, 2, none⟩ = some (.map (some m)) := (hbw.cell (p := ⟨p, 2, none⟩) hpl).trans p2
                  have hbyW : byIs W m (byList (ls.take k)) := MapIs.below hby hbw hml
                  have hbB : Below w.heap.size w W := bl_call hb hbw
                  have hobW : MapOb W p nodes A' c' m ls := ⟨hob.blk.below hbw hpl, hob.row.below hbw⟩
                  unfold Lnk.arr at hW
                  rw [← hW]
                  clear hW hbw hby hob hb p2 hpl hml
                  have hl := fun n : Nat => (hbyW.block (w' := W.drewN n) rfl).lookupOk key2 Tryz.underlying60 (zeroint (W.drewN n)) (x.src, x.dst)
                  unfold ek2 at hl
                  have e1 : (Option.map (fun n : Nat => Value.int .i64 n) (lookupK (x.src, x.dst) (byList (ls.take k)))).getD (.int .i64 0) = .int .i64 ((lookupK (x.src, x.dst) (byList (ls.take k))).getD 0 : Nat) := by cases lookupK (x.src, x.dst) (byList (ls.take k)) <;> rfl
                  rw [e1] at hl
                  clear e1
                  have hl0 := hl 0
                  simp only [World.drewN_zero] at hl0
                  generalize hr : (lookupK (x.src, x.dst) (byList (ls.take k))).getD 0 = r at hl hl0
                  generalize hi : (lookupK (x.src, x.dst) (byList (ls.take k))).isSome = r' at hl hl0
                  have HI := Lib.hid hi
                  clear hr hi
                  cases r'
                  · go_quiet (fail)
                    go_upto_region 13 with fail
                    obtain ⟨ob, hup⟩ := hbyW.update (P := Tryz.prog) key2 Tryz.underlying60 (x.src, x.dst) k
                    rw [putK_new HI.out] at hup
                    obtain ⟨W2, hW2⟩ : ∃ W2, W2 = W.drewN nq := ⟨_, rfl⟩
                    have r0 : W2.cell? ⟨wr.heap.size + 1, 0, none⟩ = some (.int .i64 x.src) := by rw [hW2]; exact q0
                    have r1 : W2.cell? ⟨wr.heap.size + 1, 1, none⟩ = some (.int .i64 x.dst) := by rw [hW2]; exact q1
                    have r2 : W2.cell? ⟨p, 2, none⟩ = some (.map (some m)) := by rw [hW2]; exact q2
                    have hbB2 : Below w.heap.size w W2 := by rw [hW2]; exact bl_drewN hbB _
                    have hob2 : MapOb W2 p nodes A' c' m ls := by rw [hW2]; exact ⟨hobW.blk, hobW.row⟩
                    have hby2 : byIs W2 m (byList (ls.take k)) := by rw [hW2]; exact hbyW
                    have hup2 := hup W2.drew (by rw [hW2]; rfl)
                    rw [← hW2]
                    clear hW2 hup q0 q1 q2 hbyW hbB hobW hl hl0
                    have hrun := hup2.1
                    have HU := Lib.hid hup2.2
                    clear hup2
                    unfold ek2 at hrun
                    go_still_tail 6, (by kernel_rfl)
                    go_wp2_with fail
                    go_roundw
                    case rel =>
                      have hbyD : MapIs ek2 (fun n : Nat => Value.int .i64 n) W2.drew m (byList (ls.take k)) := hby2.block rfl
                      refine ⟨k + 1, by go_num, by omega, ⟨Blk_mset (w := W2.drew) hob2.blk hpm _, SlAt_mset (w := W2.drew) hob2.row hbyD _⟩, ?_, ?_, Below_mset (bl_drew hbB2) (by omega) _⟩
                      · rw [byList_take ls k x HX.out]
                        exact HU.out
                      · intro j y hj hy
                        by_cases hjk : j = k
                        · subst hjk
                          have := HX.out.symm.trans hy
                          injection this with this
                          rw [← this]
                          exact HI.out
                        · exact HN.out j y (by omega) hy
                    case measure => simp [intOf]; omega
                  · go_quiet (fail)
                    go_wp2_with fail
                    refine wp_goto ?_
                    simp only [Exit.then, Exit.inBlock, Exit.jump]
                    have he : newErr nodes ls = 190 := by rw [HE.out, if_pos (dups_true HX.out HI.out)]
                    exact ⟨rfl, rfl, by rw [he]; rfl, rfl, bl_drewN hbB _, by rw [he]; decide⟩
                · have hkl : k = ls.length := by omega
                  subst hkl
                  rw [List.take_length] at hby
                  have HN := Lib.hid hno
                  clear hno
                  go_wp2_with fail
                  go_meet
                  exact ⟨⟨_, rfl⟩, hob, hby, fun j y hy => HN.out j y (List.getElem?_eq_some_iff.1 hy).1 hy, hb⟩
            case rest =>
              obtain ⟨⟨k0, rfl⟩, hob2, hby2, hno, hb2⟩ := hcut
              have hd : dups ls = false := dups_false hno
              have HD := Lib.hid hd
              clear hob1 hby1 hw1 hno hd
              have p2 := hob2.blk.cell 2
              go_wp2_with fail
              go_loopw [64] (fun s64 wr => ∃ k : Nat, s64 = .int .i64 k ∧ k ≤ ls.length ∧ MapOb wr p nodes A' c' m ls ∧ byIs wr m (byList ls) ∧ (∀ j x, j < k → ls[j]? = some x → (lookupK (x.dst, x.src) (byList ls)).isSome = true) ∧ Below w.heap.size w wr) (fun s64 _ => ls.length - (intOf s64).toNat)
              case atStart => exact ⟨0, rfl, Nat.zero_le _, hob2, hby2, fun j x h => by omega, hb2⟩
              case round =>
                clear hob2 hby2 hb2
                obtain ⟨k, rfl, hk, hob, hby, hno, hb⟩ := hrel
                by_cases hlt : k < ls.length
                · obtain ⟨x, hx⟩ : ∃ x, ls[k]? = some x := ⟨ls[k], List.getElem?_eq_getElem hlt⟩
                  obtain ⟨b, o, rfl, hlb, hc⟩ := (hs.below hb).at_ hx
                  have c0 := hc 0 _ rfl
                  rw [Nat.add_zero] at c0
                  have c1 := hc 1 _ rfl
                  have c2 := hc 2 _ rfl
                  have c3 := hc 3 _ rfl
                  have c4 := hc 4 _ rfl
                  have c5 := hc 5 _ rfl
                  have c6 := hc 6 _ rfl
                  have c7 := hc 7 _ rfl
                  have HX := Lib.hid hx
                  have HN := Lib.hid hno
                  have p2 := hob.blk.cell 2
                  have hpl := hob.blk.lt
                  have hml := hby.lt
                  have hbt := fun W (hW : Below wr.heap.size wr W) => between_c p m (byList ls) x.dst x.src W ((hW.cell (p := ⟨p, 2, none⟩) hpl).trans p2) (MapIs.below hby hW hml)
                  generalize hr : (lookupK (x.dst, x.src) (byList ls)).getD 0 = r at hbt
                  generalize hi : (lookupK (x.dst, x.src) (byList ls)).isSome = r' at hbt
                  have HI := Lib.hid hi
                  clear hc hx hno hr hi
                  cases r'
                  · go_wp2_with (go_at_call 24; refine (hbt _ ?_).mono ?_; (repeat (first | exact Below.refl _ _ | refine bl_drew ?_ | refine bl_alloc ?_ _ | refine bl_drewN ?_ _)); rintro e w2 ⟨rfl, rfl⟩)
                    refine wp_goto ?_
                    simp only [Exit.then, Exit.inBlock, Exit.jump]
                    have hnb : noBack ls = true := by
                      unfold noBack
                      rw [List.any_eq_true]
                      have h9 := HI.out
                      exact ⟨x, List.mem_of_getElem? HX.out, by cases hq : lookupK (x.dst, x.src) (byList ls) <;> simp_all⟩
                    have he : newErr nodes ls = 191 := by rw [HE.out, HD.out, if_neg (by simp), if_pos hnb]
                    exact ⟨rfl, rfl, by rw [he]; rfl, rfl, bl_alloc hb _, by rw [he]; decide⟩
                  · go_wp2_with (go_at_call 24; refine (hbt _ ?_).mono ?_; (repeat (first | exact Below.refl _ _ | refine bl_drew ?_ | refine bl_alloc ?_ _ | refine bl_drewN ?_ _)); rintro e w2 ⟨rfl, rfl⟩)
                    go_roundw
                    case rel =>
                      have hbx : Below wr.heap.size wr (wr.alloc (.cells x.arr 51)) := bl_alloc (Below.refl _ _) _
                      refine ⟨k + 1, by go_num, by omega, ⟨hob.blk.below hbx hpl, hob.row.below hbx⟩, MapIs.below hby hbx hml, ?_, bl_alloc hb _⟩
                      intro j y hj hy
                      by_cases hjk : j = k
                      · subst hjk
                        have := HX.out.symm.trans hy
                        injection this with this
                        rw [← this]
                        exact HI.out
                      · exact HN.out j y (by omega) hy
                    case measure => simp [intOf]; omega
                · have hkl : k = ls.length := by omega
                  subst hkl
                  have HN := Lib.hid hno
                  clear hno
                  go_wp2_with fail
                  simp only [Exit.then, Exit.inBlock, Exit.jump]
                  have hnb : noBack ls = false := by
                    unfold noBack
                    rw [List.any_eq_false]
                    intro x hx
                    obtain ⟨j, hj⟩ := List.getElem?_of_mem hx
                    have := HN.out j x (List.getElem?_eq_some_iff.1 hj).1 hj
                    cases hq : lookupK (x.dst, x.src) (byList ls) <;> simp_all
                  have he : newErr nodes ls = 0 := by rw [HE.out, HD.out, hnb]; rfl
                  refine bodyPost_ret (v := .tuple #[.pointer (some ⟨p, 0, none⟩), .int .i64 0]) (by simp [results, Tryz.results5]) rfl ⟨hb, .inl ⟨he, p, A', c', m, rfl, hob, hby, by omega, by omega⟩⟩
        · have he : newErr nodes ls = 2 := by unfold newErr; simp only [h1, hbad]; rfl
          have HE := Lib.hid he
          clear he hbad
          go_wp2_with (first | (go_at_call 20; refine (within_int _ _ _ _).mono ?_; rintro e w1 ⟨rfl, rfl⟩) | (go_at_call 21; refine kc.mono ?_; rintro e w1 ⟨rfl, hb1⟩))
          refine wp_goto ?_
          simp only [Exit.then, Exit.jump]
          exact ⟨trivial, rfl, by rw [HE.out]; rfl, rfl, bl_call hw0 hb1, by rw [HE.out]; decide⟩
end Go.Proofs.YtbjdiikjnlgmiaaGreat
