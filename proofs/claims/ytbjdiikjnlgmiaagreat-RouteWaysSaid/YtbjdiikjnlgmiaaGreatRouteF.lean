/- The work: the table is made. -/
import Derived.Test.YtbjdiikjnlgmiaaGreatRouteE
import Derived.Deep.RegionHeld3
import Derived.Deep.DeepCutAuto
import Derived.Deep.CutBlock
import Derived.StillTailTactics
import Derived.IntWalk
namespace Go.Proofs.YtbjdiikjnlgmiaaGreat
open Go.RowKit Go.Shelf

theorem out_k (p : Nat) (node : Int) (w : World) : Calls Tryz.prog 61 #[.pointer (some ⟨p, 0, none⟩), .int .i64 node] w fun e w' =>
    ∃ b1 b2, e = .returned (.func (.func 68) #[] #[.pointer (some ⟨b1, 0, none⟩), .pointer (some ⟨b2, 0, none⟩)]) ∧ Below w.heap.size w w' ∧ w'.cell? ⟨b1, 0, none⟩ = some (.pointer (some ⟨p, 0, none⟩)) ∧ w'.cell? ⟨b2, 0, none⟩ = some (.int .i64 node) := by
  refine (out_c p node w).mono ?_
  rintro e w' ⟨rfl, rfl⟩
  have h2 := Blk.new (w.alloc (.cells #[.pointer (some ⟨p, 0, none⟩)] 25)) 3 #[.int .i64 node]
  rw [World.size_alloc] at h2
  have h1 := (Blk.new w 25 #[.pointer (some ⟨p, 0, none⟩)]).below ((Below.refl (w.heap.size + 1) _).alloc (by simp) (.cells #[.int .i64 node] 3)) (by omega)
  exact ⟨_, _, rfl, bl_alloc (bl_alloc (Below.refl _ _) _) _, h1.cell 0, h2.cell 0⟩

theorem found_range {ls : List Lnk} {node : Int} (hl : ls.length ≤ 48) (q : OutI ls node → Bool) (l : List (OutI ls node)) : (0 ≤ (found q l).1 ∧ (found q l).1 ≤ 48) ∧ ((found q l).2 = false → (found q l).1 = 0) := by
  unfold found
  cases h : l.find? q with
  | none => simp
  | some x =>
    obtain ⟨i, hi⟩ := x
    have : i < ls.length := by
      rcases Nat.lt_or_ge i ls.length with h | h
      · exact h
      · rw [List.getElem?_eq_none h] at hi; cases hi
    dsimp only
    exact ⟨by omega, by simp⟩

set_option maxRecDepth 100000 in
set_option maxHeartbeats 4000000 in
theorem work_c (r p : Nat) (d s : Int) (nodes : Int) (ls : List Lnk) (w : World) (hm : MapIn w r p nodes ls) (hrt : RtAt w r p d s fun _ => 0) (hsort : ∀ node, SortC ls node) :
    Calls Tryz.prog 45 #[.pointer (some ⟨r, 0, none⟩)] w fun e w' => e = .returned (.tuple #[]) ∧ w.grownBy w' (some r) ∧ ∃ T, RtAt w' r p d s T ∧ TabUpto nodes ls T nodes.toNat ∧ ∀ j, 0 ≤ T j ∧ T j ≤ 100 := by
  have hmf : ∀ (fn : Fn) (first cap : Array Value) (w : World), (Instr.makeFunc fn first cap).run Tryz.prog w = .ok (.func fn first cap) w := fun _ _ _ _ => rfl
  obtain ⟨hn1, hn16, hl48, _⟩ := newErr_zero hm.ok
  obtain ⟨n, rfl⟩ : ∃ n : Nat, nodes = n := ⟨nodes.toNat, by omega⟩
  have hp := hrt.plan
  have hrl := hrt.lt
  have kn := nodes_c p n ls (w.alloc (.cells #[.pointer (some ⟨r, 0, none⟩)] 33)) (hm.st.below (bl_alloc (Below.refl _ _) _))
  have hi0 : WInv w r p d s n ls (fun _ => 0) (w.alloc (.cells #[.pointer (some ⟨r, 0, none⟩)] 33)) :=
    ⟨hrt.below (bl_alloc (Below.refl _ _) _), hm.below ((Below.refl r w).alloc (by omega) _), (grown_below (bl_alloc (Below.refl _ _) _)).but _, fun _ => by simp, hrl, (Blk.new w 33 #[.pointer (some ⟨r, 0, none⟩)]).cell 0⟩
  have ht0 : TabUpto n ls (fun _ => 0) 0 := ⟨fun a ha => by omega, fun a _ _ => by funext v; simp [rowF], fun a _ _ => by funext v; simp [rowG]⟩
  have HI := Lib.hid hi0
  have HT := Lib.hid ht0
  clear hm hrt hi0 ht0
  go_enter Tryz.func45, Tryz.ntmps45
  go_upto_block 0 with (go_at_call 43; refine kn.mono ?_; rintro e w1 ⟨rfl, rfl⟩)
  clear kn hp
  go_wp2_with fail
  go_loopw [20] (fun s20 wr => ∃ (k : Nat) (T : Nat → Int), s20 = .int .i64 k ∧ k ≤ n ∧ WInv w r p d s n ls T wr ∧ TabUpto n ls T k) (fun s20 _ => n - (intOf s20).toNat)
  case atStart => exact ⟨0, _, rfl, Nat.zero_le _, HI.out, HT.out⟩
  case round =>
    clear HI HT
    obtain ⟨k, T, rfl, hk, hi, ht⟩ := hrel
    by_cases hlt : k < n
    · have cb := hi.bx
      have cr := hi.rt.tab (k * 16 + k) (by omega)
      have cf := hi.rt.free (4 + (k * 16 + k))
      rw [← Nat.add_assoc] at cr cf
      have hz := hi.gr.size
      have hzr := hi.rt.lt
      have hzb := World.block_lt_of_cell? _ _ cb
      dsimp only at hzb
      have HI := Lib.hid hi
      have HT := Lib.hid ht
      clear hi ht
      go_upto_region 5 with fail
      refine wp_scope_jumps 0 (fun _ _ => False) (fun _ _ => 0) rfl ?sfirst ?spass
      case spass => exact fun _ _ h => h.elim
      case sfirst =>
      go_upto_block 2 with fail
      refine wp_label ?_
      simp only [Exit.then]
      rename_i hK
      refine hK _ _ ?_
      clear hK
      go_upto_block 2 with fail
      obtain ⟨W, hW⟩ : ∃ W, W = (wr.setCell ⟨r, 4 + k * 16 + k, none⟩ (.int .i64 1)).alloc (.cells #[.pointer (some ⟨r, 4 + k * 16, none⟩)] 116) := ⟨_, rfl⟩
      have hi1 : WInv w r p d s n ls (upd T (k * 16 + k) 1) W := by
        rw [hW, Nat.add_assoc 4]
        exact (HI.out.set (by omega) (by decide)).below (bl_alloc (Below.refl _ _) _)
      have hb1 : W.cell? ⟨wr.heap.size, 0, none⟩ = some (.pointer (some ⟨r, 4 + k * 16, none⟩)) := by
        rw [hW]
        have hh := (Blk.new (wr.setCell ⟨r, 4 + k * 16 + k, none⟩ (.int .i64 1)) 116 #[.pointer (some ⟨r, 4 + k * 16, none⟩)]).cell 0
        have hs : (wr.setCell ⟨r, 4 + k * 16 + k, none⟩ (.int .i64 1)).heap.size = wr.heap.size := by simp [World.setCell]
        rw [hs] at hh
        exact hh
      have hf1 : FarInv n ls k (rowF (upd T (k * 16 + k) 1) k) 1 1 0 := by
        rw [rowF_upd T k k 1 (by omega), HT.out.zf k (Nat.le_refl _) (by omega)]
        exact FarInv.start (by omega) (by omega)
      have hg1 : rowG (upd T (k * 16 + k) 1) k = fun _ => 0 := by
        rw [rowG_upd_other T k _ _ (fun a ha => by omega), HT.out.zg k (Nat.le_refl _) (by omega)]
      have ho1 : OthA n ls (upd T (k * 16 + k) 1) k := HT.out.start.upd (by omega) ⟨k, by omega, .inl rfl⟩ 1
      rw [← hW]
      clear hW cr cf HI HT cb
      generalize upd T (k * 16 + k) 1 = T1 at *
      clear T
      generalize wr.heap.size = b4 at *
      clear wr
      go_cut [5] (fun s5 wx => ∃ T, WInv w r p d s n ls T wx ∧ OthA n ls T k ∧ FarOK n ls k (rowF T k) ∧ rowG T k = (fun _ => 0) ∧ wx.cell? ⟨b4, 0, none⟩ = some (.pointer (some ⟨r, 4 + k * 16, none⟩)))
      case first =>
        go_wp2_with fail
        go_loopw [5] (fun s5 wx => ∃ (j : Nat) (T : Nat → Int), s5 = .int .i64 j ∧ WInv w r p d s n ls T wx ∧ OthA n ls T k ∧ FarInv n ls k (rowF T k) j j 0 ∧ rowG T k = (fun _ => 0) ∧ wx.cell? ⟨b4, 0, none⟩ = some (.pointer (some ⟨r, 4 + k * 16, none⟩))) (fun s5 _ => 17 - (intOf s5).toNat)
        case atStart => exact ⟨1, T1, rfl, hi1, ho1, hf1, hg1, hb1⟩
        case round =>
          clear hi1 ho1 hf1 hg1 hb1
          obtain ⟨j, T, rfl, hi, ho, hf, hg, hb⟩ := hrel
          have hj := hf.jt
          have hcn := hf.cnt
          have kl := len_c p n ls wr hi.mp.st
          have cb := hi.bx
          have cp := hi.rt.plan
          have HI := Lib.hid hi
          have HO := Lib.hid ho
          have HF := Lib.hid hf
          have HG := Lib.hid hg
          clear hi ho hf hg
          go_upto_block 4 with (go_at_call 58; refine kl.mono ?_; rintro e w1 ⟨rfl, rfl⟩)
          clear kl cb cp
          go_wp2_with fail
          go_loopw [6, 40] (fun s6 s40 wx => ∃ (i : Nat) (tb : Bool) (T : Nat → Int), s6 = .bool tb ∧ s40 = .int .i64 i ∧ i ≤ ls.length ∧ WInv w r p d s n ls T wx ∧ OthA n ls T k ∧ FarInv n ls k (rowF T k) j (if tb then j + 1 else j) i ∧ rowG T k = (fun _ => 0) ∧ wx.cell? ⟨b4, 0, none⟩ = some (.pointer (some ⟨r, 4 + k * 16, none⟩))) (fun _ s40 _ => ls.length - (intOf s40).toNat)
          case atStart => exact ⟨0, false, T, rfl, rfl, Nat.zero_le _, HI.out, HO.out, HF.out, HG.out, hb⟩
          case round =>
            clear HI HO HF HG hb
            obtain ⟨i, tb, T, rfl, rfl, hil, hi, ho, hf, hg, hb⟩ := hrel
            by_cases hlt2 : i < ls.length
            · obtain ⟨x, hx⟩ : ∃ x, ls[i]? = some x := ⟨ls[i], List.getElem?_eq_getElem hlt2⟩
              obtain ⟨a1, a2, a3, a4, _, _⟩ := link_range hi.mp.ok (List.mem_of_getElem? hx)
              have kk := link_c p n ls i x hx wr hi.mp.st
              have cb := hi.bx
              have cp := hi.rt.plan
              have HI := Lib.hid hi
              have hbl := World.block_lt_of_cell? _ _ hb
              dsimp only at hbl
              unfold Lnk.arr at kk
              clear hi
              go_upto_region 14 with (go_at_call 29; refine kk.mono ?_; rintro e w1 ⟨rfl, hw1⟩; obtain ⟨hcc, hff⟩ := bcell hw1)
              obtain ⟨W, hW⟩ : ∃ W, W = w1.alloc (.cells x.arr 51) := ⟨_, rfl⟩
              have hBW : Below wr.heap.size wr W := by rw [hW]; exact bl_alloc hw1 _
              have q0 : W.cell? ⟨w1.heap.size, 0, none⟩ = some (.int .i64 x.src) := by rw [hW]; simp [Lnk.arr]
              have q1 : W.cell? ⟨w1.heap.size, 1, none⟩ = some (.int .i64 x.dst) := by rw [hW]; simp [Lnk.arr]
              have hi' : WInv w r p d s n ls T W := HI.out.below hBW
              have q2 : W.cell? ⟨b4, 0, none⟩ = some (.pointer (some ⟨r, 4 + k * 16, none⟩)) := (hBW.cell (p := ⟨b4, 0, none⟩) hbl).trans hb
              have q3 := hi'.rt.tab (k * 16 + x.dst.toNat) (by omega)
              have q4 := hi'.rt.tab (k * 16 + x.src.toNat) (by omega)
              have q5 := hi'.rt.free (4 + (k * 16 + x.src.toNat))
              rw [← Nat.add_assoc] at q3 q4 q5
              have f1 : rowF T k x.dst.toNat = T (k * 16 + x.dst.toNat) := by unfold rowF; rw [if_pos (by omega)]
              have f2 : rowF T k x.src.toNat = T (k * 16 + x.src.toNat) := by unfold rowF; rw [if_pos (by omega)]
              unfold Lnk.arr at hW
              rw [← hW]
              clear hW hBW hcc hff hw1 HI hb hbl cb cp kk
              have HI := Lib.hid hi'
              have HO := Lib.hid ho
              have HF := Lib.hid hf
              have HG := Lib.hid hg
              have HX := Lib.hid hx
              clear hi' ho hf hg hx
              generalize w1.heap.size = b8 at *
              by_cases e1 : T (k * 16 + x.dst.toNat) = j
              · by_cases e2 : T (k * 16 + x.src.toNat) = 0
                · rw [e1] at q3
                  rw [e2] at q4
                  have hput := HF.out.put HX.out (by rw [f1, e1]) (by rw [f2, e2]) (by omega) (by omega)
                  have HP := Lib.hid hput
                  clear hput e1 e2 f1 f2 HF
                  go_quiet (fail)
                  go_upto_region 15 with fail
                  obtain ⟨W2, hW2⟩ : ∃ W2, W2 = W.drewN nq := ⟨_, rfl⟩
                  have r0 : W2.cell? ⟨b8, 0, none⟩ = some (.int .i64 x.src) := by rw [hW2]; exact q0
                  have r2 : W2.cell? ⟨b4, 0, none⟩ = some (.pointer (some ⟨r, 4 + k * 16, none⟩)) := by rw [hW2]; exact q2
                  have r4 : W2.cell? ⟨r, 4 + k * 16 + x.src.toNat, none⟩ = some (.int .i64 0) := by rw [hW2]; exact q4
                  have r5 : W2.frozen? ⟨r, 4 + k * 16 + x.src.toNat, none⟩ = false := by rw [hW2]; exact q5
                  have hi2 : WInv w r p d s n ls T W2 := by rw [hW2]; exact HI.out.drewN _
                  have HI2 := Lib.hid hi2
                  have hr4 : b4 ≠ r := by omega
                  have an : x.src.toNat < 16 := by omega
                  have an2 : x.src < 16 := by omega
                  have hwr : IntKind.i64.wrap ((j : Int) + 1) = (j : Int) + 1 := IntWalk.i64_in _ (by omega)
                  rw [← hW2]
                  clear hW2 q0 q1 q2 q3 q4 q5 HI hi2
                  go_still_tail 7, (by kernel_rfl)
                  go_wp2_with fail
                  go_roundw
                  case rel =>
                    refine ⟨i + 1, true, upd T (k * 16 + x.src.toNat) (j + 1), rfl, by go_num, hlt2, ?_, HO.out.upd (by omega) ⟨x.src.toNat, by omega, .inl rfl⟩ _, ?_, ?_, ?_⟩
                    · rw [Nat.add_assoc 4]
                      exact HI2.out.drew.set (by omega) (by omega)
                    · rw [rowF_upd T k _ _ (by omega)]
                      exact HP.out
                    · rw [rowG_upd_other T k _ _ (fun a ha => by omega)]
                      exact HG.out
                    · exact (World.cell?_setCell_other _ _ _ _ (by intro e; injection e with e; omega)).trans r2
                  case measure => simp [intOf]; omega
                · have HF2 := Lib.hid (HF.out.skip HX.out (by rw [f1, f2]; exact fun _ => e2))
                  have E2 : (T (k * 16 + x.src.toNat) == 0) = false := by rw [beq_eq_false_iff_ne]; exact e2
                  rw [e1] at q3
                  clear e1 e2 f1 f2 HF
                  generalize T (k * 16 + x.src.toNat) = ts at *
                  go_quiet (fail)
                  go_wp2_with fail
                  go_roundw
                  case rel => exact ⟨i + 1, tb, T, rfl, by go_num, hlt2, HI.out.drewN _, HO.out, HF2.out, HG.out, q2⟩
                  case measure => simp [intOf]; omega
              · have HF2 := Lib.hid (HF.out.skip HX.out (by rw [f1]; exact fun h => absurd h e1))
                have E1 : (T (k * 16 + x.dst.toNat) == (j : Int)) = false := by rw [beq_eq_false_iff_ne]; exact e1
                clear e1 f1 f2 HF
                generalize T (k * 16 + x.dst.toNat) = td at *
                go_quiet (fail)
                go_wp2_with fail
                go_roundw
                case rel => exact ⟨i + 1, tb, T, rfl, by go_num, hlt2, HI.out.drewN _, HO.out, HF2.out, HG.out, q2⟩
                case measure => simp [intOf]; omega
            · obtain rfl : i = ls.length := by omega
              cases tb
              · have hok := hf.done
                have HI := Lib.hid hi
                have HO := Lib.hid ho
                have HF := Lib.hid hok
                have HG := Lib.hid hg
                clear hi ho hf hg hok
                go_wp2_with fail
                go_meet
                exact ⟨T, HI.out, HO.out, HF.out, HG.out, hb⟩
              · have hnx := hf.next
                have hc2 := hf.cnt
                simp only [if_true] at hc2
                have HI := Lib.hid hi
                have HO := Lib.hid ho
                have HF := Lib.hid hnx
                have HG := Lib.hid hg
                clear hi ho hf hg hnx
                go_wp2_with fail
                go_roundw
                case rel => exact ⟨j + 1, T, by go_num, HI.out, HO.out, by have := HF.out; simpa using this, HG.out, hb⟩
                case measure => simp [intOf]; omega
      case rest =>
        obtain ⟨T, hi, ho, hf, hg, hb⟩ := hcut
        clear hi1 ho1 hf1 hg1 hb1
        have HI := Lib.hid hi
        have HO := Lib.hid ho
        have HF := Lib.hid hf
        have HG := Lib.hid hg
        clear hi ho hf hg
        go_upto_block 6 with fail
        go_wp2_with fail
        go_loopw [80] (fun s80 wx => ∃ (v : Nat) (T : Nat → Int), s80 = .int .i64 v ∧ v ≤ n ∧ WInv w r p d s n ls T wx ∧ OthA n ls T k ∧ FarOK n ls k (rowF T k) ∧ (∀ a, a < v → rowG T k a = nextSpec ls (rowF T k) a) ∧ (∀ a, v ≤ a → rowG T k a = 0) ∧
          wx.cell? ⟨b4, 0, none⟩ = some (.pointer (some ⟨r, 4 + k * 16, none⟩))) (fun s80 _ => n - (intOf s80).toNat)
        case atStart => exact ⟨0, T, rfl, Nat.zero_le _, HI.out, HO.out, HF.out, fun a ha => by omega, fun a _ => by rw [HG.out], hb⟩
        case round =>
          clear HI HO HF HG hb
          obtain ⟨v, T, rfl, hv, hi, ho, hf, hg, hg0, hb⟩ := hrel
          by_cases hlt2 : v < n
          · obtain ⟨f, hfd⟩ : ∃ f, found (qOf ls (rowF T k) v) (outList ls v) = f := ⟨_, rfl⟩
            have hns : nextSpec ls (rowF T k) v = f.1 := by unfold nextSpec; rw [hfd]
            have hfr : (0 ≤ f.1 ∧ f.1 ≤ 48) ∧ (f.2 = false → f.1 = 0) := by rw [← hfd]; exact found_range hl48 _ _
            have hbl := World.block_lt_of_cell? _ _ hb
            dsimp only at hbl
            obtain ⟨W, hW⟩ : ∃ W, W = wr.alloc (.cells #[.int .i64 v] 3) := ⟨_, rfl⟩
            have hBW : Below wr.heap.size wr W := by rw [hW]; exact bl_alloc (Below.refl _ _) _
            have hiW := hi.below hBW
            have q10 : W.cell? ⟨wr.heap.size, 0, none⟩ = some (.int .i64 v) := by rw [hW]; exact (Blk.new wr 3 #[.int .i64 v]).cell 0
            have q4 : W.cell? ⟨b4, 0, none⟩ = some (.pointer (some ⟨r, 4 + k * 16, none⟩)) := (hBW.cell (p := ⟨b4, 0, none⟩) hbl).trans hb
            have q1 := hiW.bx
            have qp := hiW.rt.plan
            have hz10 : w.heap.size < wr.heap.size := World.block_lt_of_cell? _ _ hi.bx
            have kf : ∀ W' b1 b2, Below W.heap.size W W' → W'.cell? ⟨b1, 0, none⟩ = some (.pointer (some ⟨p, 0, none⟩)) → W'.cell? ⟨b2, 0, none⟩ = some (.int .i64 v) →
                Calls Tryz.prog 60 #[.func (.func 68) #[] #[.pointer (some ⟨b1, 0, none⟩), .pointer (some ⟨b2, 0, none⟩)], .func (.func 59) #[] #[.pointer (some ⟨w.heap.size, 0, none⟩), .pointer (some ⟨b4, 0, none⟩), .pointer (some ⟨wr.heap.size, 0, none⟩)]] W' fun e w' =>
                  e = .returned (.tuple #[.int .i64 f.1, .bool f.2]) ∧ Below W'.heap.size W' w' := fun W' b1 b2 hB h1 h2 => by
              rw [← hfd]
              refine first_c b1 b2 p n ls v (hsort v) _ _ _ (qOf ls (rowF T k) v) W' (hiW.mp.st.below hB) h1 h2 (fun x W2 hB2 => ?_)
              have hB3 := below_call hB hB2 hB.size
              have hi2 := hiW.below hB3
              exact near_q w.heap.size b4 wr.heap.size r p d s T n ls k v x W2 (by omega) (by omega) hiW.tb hi2.rt hi2.mp.st hi2.bx ((hB3.cell (World.block_lt_of_cell? _ _ q4)).trans q4) ((hB3.cell (World.block_lt_of_cell? _ _ q10)).trans q10)
            have HI := Lib.hid hiW
            have HO := Lib.hid ho
            have HF := Lib.hid hf
            have HG := Lib.hid hg
            have HG0 := Lib.hid hg0
            have HB := Lib.hid hBW
            have HNS := Lib.hid hns
            clear hiW ho hf hg hg0 hBW hi hfd hns hb hbl
            go_upto_region 22 with fail
            rw [← hW]
            clear hW
            generalize wr.heap.size = b10 at *
            clear HB
            go_region_held3 (fun w' => w'.cell? ⟨w.heap.size, 0, none⟩ = some (.pointer (some ⟨r, 0, none⟩)) ∧ w'.cell? ⟨r, 0, none⟩ = some (.pointer (some ⟨p, 0, none⟩)) ∧ w'.cell? ⟨b10, 0, none⟩ = some (.int .i64 v)) (first | go_keep | (refine ⟨?_, ?_, ?_⟩ <;> first | go_keep | (refine cell_later hb1 ?_; first | assumption | go_keep))) ((first | (go_at_call 61; refine (out_k p v _).mono ?_; rintro e w1 ⟨b1, b2, rfl, hb1, hc1, hc2⟩) | (go_at_call 60; refine (kf _ _ _ ?_ ?_ ?_).mono ?_; (repeat (first | exact Below.refl _ _ | refine bl_drew ?_ | refine bl_alloc ?_ _ | refine bl_drewN ?_ _ | refine bl_call ?_ hb1)); (first | exact hc1 | exact hc2 | (simp only [World.cell?_drewN]; first | exact hc1 | exact hc2)); (first | exact hc1 | exact hc2 | (simp only [World.cell?_drewN]; first | exact hc1 | exact hc2)); rintro e w1 ⟨rfl, hb1⟩)))
            rename_i w0 hbo hH
            have hB : Below W.heap.size W w1 := bl_call (bl_undrew hbo) hb1
            have hi1 := HI.out.below hB
            have r4 := (hB.cell (World.block_lt_of_cell? _ _ q4)).trans q4
            have r10 := (hB.cell (World.block_lt_of_cell? _ _ q10)).trans q10
            have r1 := hi1.bx
            have r6 := hi1.rt.tab (256 + k * 16 + v) (by omega)
            have r7 := hi1.rt.free (4 + (256 + k * 16 + v))
            rw [show 4 + (256 + k * 16 + v) = 260 + k * 16 + v by omega] at r6 r7
            have HI1 := Lib.hid hi1
            clear kf hbo hb1 hc1 hc2 hH q10 q4 q1 qp HI hB hi1
            obtain ⟨fi, fb⟩ := f
            dsimp only at hfr HNS
            cases fb
            · obtain rfl : fi = 0 := hfr.2 rfl
              go_wp2_with fail
              go_roundw
              case rel =>
                refine ⟨v + 1, T, by go_num, hlt2, HI1.out, HO.out, HF.out, fun a ha => ?_, fun a ha => HG0.out a (by omega), r4⟩
                by_cases e : a = v
                · subst e
                  rw [HG0.out a (Nat.le_refl _), HNS.out]
                · exact HG.out a (by omega)
              case measure => simp [intOf]; omega
            · go_upto_region 24 with fail
              have hf0 := hfr.1
              have hk16 : k < 16 := by omega
              have hv16 : v < 16 := by omega
              have hki : (k : Int) < 16 := by omega
              have hvi : (v : Int) < 16 := by omega
              go_still_tail 9, (by kernel_rfl)
              go_wp2_with fail
              go_roundw
              case rel =>
                have hF : rowF (upd T (256 + k * 16 + v) fi) k = rowF T k := rowF_upd_other T k _ _ (fun a ha => by omega)
                have hG : rowG (upd T (256 + k * 16 + v) fi) k = upd (rowG T k) v fi := rowG_upd T k v fi (by omega)
                refine ⟨v + 1, upd T (256 + k * 16 + v) fi, by go_num, hlt2, ?_, HO.out.upd (by omega) ⟨v, by omega, .inr rfl⟩ _, by rw [hF]; exact HF.out, fun a ha => ?_, fun a ha => ?_, ?_⟩
                · rw [show 260 + k * 16 + v = 4 + (256 + k * 16 + v) by omega]
                  exact HI1.out.drew.set (by omega) (by omega)
                · rw [hF, hG]
                  by_cases e : a = v
                  · subst e
                    rw [upd_same, HNS.out]
                  · rw [upd_other _ _ _ e]
                    exact HG.out a (by omega)
                · rw [hG, upd_other _ _ _ (by omega)]
                  exact HG0.out a (by omega)
                · exact (World.cell?_setCell_other _ _ _ _ (by intro e; injection e with e; omega)).trans r4
              case measure => simp [intOf]; omega
          · obtain rfl : v = n := by omega
            have HI := Lib.hid hi
            have ht2 := ho.done ⟨hf, fun a ha => hg a (by omega)⟩
            have HT := Lib.hid ht2
            clear hi ho hf hg hg0 ht2
            go_wp2_with fail
            simp only [Exit.jump, Exit.inBlock, Exit.then]
            go_wp2_with fail
            go_roundw
            case rel => exact ⟨k + 1, T, by go_num, by omega, HI.out, HT.out⟩
            case measure => simp [intOf]; omega
    · obtain rfl : k = n := by omega
      go_wp2
      go_end0
      exact ⟨rfl, hi.gr, T, hi.rt, ht, hi.tb⟩
end Go.Proofs.YtbjdiikjnlgmiaaGreat
