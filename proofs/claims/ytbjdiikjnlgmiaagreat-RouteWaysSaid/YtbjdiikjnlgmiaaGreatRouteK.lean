/- Way. -/
import Derived.Test.YtbjdiikjnlgmiaaGreatRouteJ
import Derived.Deep.RegionHeld3
namespace Go.Proofs.YtbjdiikjnlgmiaaGreat
open Go.RowKit Go.Shelf

def natCells (i : Nat) : List Value := [.int .i64 i]
theorem elemN : ElemAt Tryz.prog 36 3 natCells 1 8 where
  slice := Tryz.underlying36
  info := by
    have h : (Tryz.prog.info? 3).map (fun i => (i.zero, i.size, i.bytes)) = some (some (.int .i64 0), 1, 8) := by kernel_rfl
    obtain ⟨i, hi, hz0, hz1, hz2⟩ := info_parts h
    exact ⟨i, _, hi, hz0, hz1, hz2, rfl⟩
  pos := by decide
  bpos := by decide
  len := fun _ => rfl
  one := fun x u hu => by
    simp only [natCells, List.mem_cons, List.not_mem_nil, or_false] at hu
    rcases hu with rfl; rfl

theorem sl_one {w : World} {b i : Nat} {t : TypeId} (h : Blk w b t #[.int .i64 i]) : SlAt w natCells 1 (some ⟨b, 0, none⟩) [i] := by
  refine .inr ⟨b, 0, rfl, h.lt, fun k y hy j v hv => ?_⟩
  have hk : k = 0 := by have := (List.getElem?_eq_some_iff.1 hy).1; simpa using this
  subst hk
  simp only [List.getElem?_cons_zero, Option.some.injEq] at hy
  subst hy
  have hj : j = 0 := by have := (List.getElem?_eq_some_iff.1 hv).1; simpa [natCells] using this
  subst hj
  simp only [natCells, List.getElem?_cons_zero, Option.some.injEq] at hv
  subst hv
  exact h.cell 0

section
variable {α : Type} {enc : α → List Value} {k : Nat} {P : Program} {t e : TypeId} {bytes : Nat}
theorem step_appendT (H : ElemAt P t e enc k bytes) (w : World) {ops : Array Oper} {o : Oper} {a : Act} {K : Act → World → Prop} {Q : Exit → Act → World → Prop} {E : Prop} (hgd : o.guard = none) (s x : Operand)
    (ho : o.op = .call { callee := .builtin .append, args := #[s, x], argTypes := #[t, t] })
    (base : Nat) (v : Value) (l l2 : List α) (hs : a.eval s = v) (hown : OwnsL w base e enc k v l)
    (A : Option Addr) (m c : Nat) (hx : a.eval x = .slice A m c) (hm : m = l2.length) (hr : SlAt w enc k A l2)
    (hbytes : (l.length + l2.length) * bytes ≤ 140737488355328) (hbase : base ≤ w.heap.size)
    (h : ∀ v' w', OwnsL w' base e enc k v' (l ++ l2) → w.grownBy w' v.ownBlock → (v'.ownBlock = v.ownBlock ∨ v'.ownBlock = some w.heap.size) → K (a.put o.dst v') w') :
    if Region.wanted o (yielded ops a.tmps) = true then Oper.wp P o a w K Q else E := by
  obtain ⟨i, z, hi, hz, hsize, hby, hzs⟩ := H.info
  subst hm
  refine step_append_any w hgd s x t ho base e i z k bytes H.slice hi hz hsize hby hzs H.pos v l.length (l.flatMap enc) hs hown w.heap.size A l2.length c (l2.flatMap enc) hx (hr.reads H.len H.pos) ?_ ?_ hbytes hbase ?_
  · intro u hu
    obtain ⟨y, _, hy⟩ := List.mem_flatMap.1 hu
    exact H.one y u hy
  · have : l.length + l2.length ≤ (l.length + l2.length) * bytes := Nat.le_mul_of_pos_right _ H.bpos
    unfold maxLen
    omega
  · intro v' w' h2 h3 h4
    refine h v' w' ?_ h3 h4
    unfold OwnsL
    rw [List.length_append, List.flatMap_append]
    exact h2
end

theorem RSt.kept {w w' : World} {r p : Nat} {n : Int} {ls : List Lnk} {o : Option (Nat → Int)} (h : RSt w r p n ls o) {B : Nat} (hr : r < B) (hb : Below B w w') : RSt w' r p n ls o := by
  refine ⟨h.mp.below (hb.mono (Nat.le_of_lt hr)), ?_⟩
  have hrt := h.rt
  cases o with
  | none => exact hrt.block (hb.block r hr)
  | some T => exact ⟨hrt.1.block (hb.block r hr), hrt.2⟩

/-- What Way answers, in the world behind it. -/
def WayRes (w' : World) (n : Int) (ls : List Lnk) (T : Nat → Int) (a b : Int) (e : Ending) : Prop :=
  ((askRes n T a b).2 ≠ 0 ∧ e = .returned (.tuple #[.slice none 0 0, .int .i64 (askRes n T a b).2])) ∨
  ((askRes n T a b).2 = 0 ∧ ∃ A c, e = .returned (.tuple #[.slice A (askRes n T a b).1.toNat c, .int .i64 0]) ∧ SlAt w' natCells 1 A (wayL ls T b.toNat a.toNat (askRes n T a b).1.toNat))

theorem askRes_zero {n : Int} {T : Nat → Int} {a b : Int} (h : (askRes n T a b).2 = 0) : T (b.toNat * 16 + a.toNat) ≠ 0 ∧ (askRes n T a b).1 = T (b.toNat * 16 + a.toNat) - 1 := by
  have hok := askRes_ok h
  unfold askRes at h ⊢
  rw [if_pos hok] at h ⊢
  by_cases ht : T (b.toNat * 16 + a.toNat) = 0
  · rw [if_pos ht] at h; cases h
  · rw [if_neg ht]; exact ⟨ht, rfl⟩

set_option maxRecDepth 100000 in
set_option maxHeartbeats 2000000 in
theorem way_c (r p : Nat) (n : Int) (ls : List Lnk) (o : Option (Nat → Int)) (a b : Int) (w : World) (h : RSt w r p n ls o) :
    Calls Tryz.prog 8 #[.pointer (some ⟨r, 0, none⟩), .int .i64 a, .int .i64 b] w fun e w' => ∃ o', WayRes w' n ls (tabO o') a b e ∧ Asks w w' r p n ls o o' a b := by
  have k := asked_c r p n ls o a b w h
  have hnew := newErr_zero h.mp.ok
  have hne := h.mp.ok
  have hn16 := hnew.2.1
  clear h
  go_enter Tryz.func8, Tryz.ntmps8
  go_upto_region 2 with (go_at_call 28; refine k.mono ?_; rintro e w1 ⟨o', rfl, ha⟩)
  clear k
  by_cases he : (askRes n (tabO o') a b).2 = 0
  · have hok := askRes_ok he
    obtain ⟨T, rfl⟩ := ha.made hok
    obtain ⟨hT0, hd⟩ := askRes_zero he
    have hgood : Good n ls T := ha.st.rt.2
    obtain ⟨⟨a0, a1⟩, b0, b1⟩ := hok
    obtain ⟨d, hdn⟩ : ∃ d : Nat, (askRes n (tabO (some T)) a b).1 = d := ⟨(askRes n (tabO (some T)) a b).1.toNat, by have := (hgood.2 (b.toNat * 16 + a.toNat)).1; have h1 : tabO (some T) = T := rfl; rw [h1] at hT0 hd ⊢; omega⟩
    have hTd : T (b.toNat * 16 + a.toNat) = d + 1 := by have h1 : tabO (some T) = T := rfl; rw [h1] at hd hdn; rw [hdn] at hd; omega
    have hd100 := (hgood.2 (b.toNat * 16 + a.toNat)).2
    have HW := Lib.hid (show ∀ w' e, (∃ A c, e = .returned (.tuple #[.slice A d c, .int .i64 0]) ∧ SlAt w' natCells 1 A (wayL ls T b.toNat a.toNat d)) → WayRes w' n ls (tabO (some T)) a b e from fun w' e hh => .inr ⟨he, by rw [hdn]; exact hh⟩)
    have x1 : a.toNat < 16 := by omega
    have x2 : b.toNat < 16 := by omega
    have x4 : b < 16 := by omega
    have hs1 : a = (pathAt ls T b.toNat a.toNat 0 : Nat) := by simp [pathAt]; omega
    have hst1 := ha.st
    have hgr1 := ha.gr
    have hr1 := hst1.lt
    have HA := Lib.hid ha
    rw [he, hdn]
    clear hdn hd he hnew
    go_upto_block 0 with fail
    go_wp2_with fail
    go_loopw [1, 10, 25] (fun s1 s10 s25 wr => ∃ (k : Nat) (A : Option Addr) (m c : Nat), s25 = .int .i64 k ∧ k ≤ d ∧ s1 = .int .i64 (pathAt ls T b.toNat a.toNat k : Nat) ∧ s10 = .slice A m c ∧ OwnsL wr w1.heap.size 3 natCells 1 s10 (wayL ls T b.toNat a.toNat k) ∧ RSt wr r p n ls (some T) ∧ Below w1.heap.size w1 wr) (fun _ _ s25 _ => d - (intOf s25).toNat)
    case atStart => exact ⟨0, none, 0, 0, rfl, Nat.zero_le _, by rw [← hs1], rfl, OwnsL.nil _ _ _, hst1, Below.refl _ _⟩
    case round =>
      clear hst1 hgr1 hs1
      obtain ⟨k, A, m, c, rfl, hk, rfl, rfl, ho, hst, hgr⟩ := hrel
      by_cases hlt : k < d
      · obtain ⟨x, hop, hpx⟩ := hgood.pathHop hne (by omega : ((b.toNat : Nat) : Int) < n) (by omega : ((a.toNat : Nat) : Int) < n) k (by omega)
        obtain ⟨hpn, _⟩ := hgood.path hne (by omega : ((b.toNat : Nat) : Int) < n) (by omega : ((a.toNat : Nat) : Int) < n) k (by omega)
        have q := hst.rt.1.tab (256 + b.toNat * 16 + pathAt ls T b.toNat a.toNat k) (by omega)
        rw [hop.nx, show 4 + (256 + b.toNat * 16 + pathAt ls T b.toNat a.toNat k) = 260 + b.toNat * 16 + pathAt ls T b.toNat a.toNat k by omega] at q
        have qp := hst.plan
        have kk := link_c p n ls _ x hop.link wr hst.mp.st
        unfold Lnk.arr at kk
        have x5 : pathAt ls T b.toNat a.toNat k < 16 := by omega
        have hsx : ((x.dst.toNat : Nat) : Int) = x.dst := by have := hop.lo; omega
        have hwl := wayL_succ ls T b.toNat a.toNat k
        have hll := wayL_len ls T b.toNat a.toNat k
        have HS := Lib.hid hst
        have HO := Lib.hid ho
        have HG := Lib.hid hgr
        have HP := Lib.hid hpx
        have HX := Lib.hid hsx
        have HWL := Lib.hid hwl
        clear hst ho hgr hpx hop hsx hwl
        generalize wayAt ls T b.toNat a.toNat k = i at *
        generalize pathAt ls T b.toNat a.toNat k = cur at *
        go_upto_region 9 with (go_at_call 29; refine kk.mono ?_; rintro e w2 ⟨rfl, hw2⟩; obtain ⟨hcc, hff⟩ := bcell hw2)
        obtain ⟨W, hW⟩ : ∃ W, W = w2.alloc (.cells #[.int .i64 x.src, .int .i64 x.dst, .int .i64 x.rate, .int .i64 x.share, .int .i64 x.far, .int .i64 x.most, .int .i64 x.room, .int .i64 x.fifo] 51) := ⟨_, rfl⟩
        have hBW : Below wr.heap.size wr W := by rw [hW]; exact bl_alloc hw2 _
        have hsz : W.heap.size = w2.heap.size + 1 := by rw [hW]; simp
        have hz1 := HG.out.size
        have hz2 := hw2.size
        have q12 : W.cell? ⟨w2.heap.size, 1, none⟩ = some (.int .i64 x.dst) := by rw [hW]; simp
        have hoW := HO.out.below hBW
        have hob : some w2.heap.size ≠ (Value.slice A m c).ownBlock := fun e => by
          have := (World.ownsRow.lt HO.out _ e.symm).2
          omega
        have HOW := Lib.hid hoW
        have HSW := Lib.hid (HS.out.below hBW)
        have HGW := Lib.hid (HG.out.trans (hBW.mono HG.out.size))
        have hz3 : w1.heap.size ≤ W.heap.size := by omega
        rw [← hW]
        clear hW hBW hcc hff hw2 kk q qp HO HS HG hoW hsz hz1 hz2
        generalize w2.heap.size = b12 at *
        have hby : ((wayL ls T b.toNat a.toNat k).length + [i].length) * 8 ≤ 140737488355328 := by simp only [hll, List.length_cons, List.length_nil]; omega
        go_region_held3 (fun w' => w'.cell? ⟨b12, 1, none⟩ = some (.int .i64 x.dst)) (first | go_keep | (refine World.grownBy.cell hg ?_ ?_ <;> first | assumption | go_keep)) ((refine step_appendT elemN _ (by rfl) _ _ (by rfl) w1.heap.size (.slice A m c) (wayL ls T b.toNat a.toNat k) [i] (by rfl) ?_ (some ⟨_, 0, none⟩) 1 1 (by rfl) (by rfl) ?_ ?_ ?_ ?_; (first | exact OwnsL.below HOW.out (bl_alloc (bl_drew (Below.refl _ _)) _) | exact OwnsL.below HOW.out (bl_alloc (bl_drewN (Below.refl _ _) _) _)); (first | exact sl_one (Blk.new W.drew _ _) | exact sl_one (Blk.new (W.drewN _) _ _)); exact hby; (first | exact hz3 | (refine Nat.le_trans hz3 ?_; simp)); intro v' w' ho' hg hob'))
        have hB' : Below w1.heap.size W w' := (((Below.refl w1.heap.size W).alloc hz3 _).drew).grown hg (by simp; omega) (fun g hg => (World.ownsRow.lt HOW.out g hg).1)
        have hsub := HSW.out.kept hr1 hB'
        have hgr' : Below w1.heap.size w1 w' := HGW.out.trans hB'
        rcases ho'.form' with ⟨_, h⟩ | ⟨g, c', rfl, _, _⟩
        · simp at h
        · have HP' := Lib.hid ho'
          have HS' := Lib.hid hsub
          clear ho' hg hob' hsub hB'
          go_wp2_with fail
          go_roundw
          case rel => exact ⟨k + 1, _, _, c', by go_num, hlt, by rw [HP.out, HX.out], rfl, by rw [HWL.out]; exact HP'.out, HS'.out, hgr'⟩
          case measure => simp [intOf]; omega
      · obtain rfl : k = d := by omega
        have HO := Lib.hid ho
        have HA2 := Lib.hid (show Asks w wr r p n ls o (some T) a b from ⟨hst, fun T' e => HA.out.ext T' e, fun _ => ⟨T, rfl⟩, HA.out.gr.trans ((grown_below hgr).but _), fun T' e => below_call (HA.out.same T' e) hgr (HA.out.same T' e).size⟩)
        have hmd : m = k := by
          have := wayL_len ls T b.toNat a.toNat k
          rcases ho.form' with ⟨h1, h2⟩ | ⟨g, c', h1, _⟩
          · injection h1 with _ h1; rw [h1, ← this, h2]; rfl
          · injection h1 with _ h1; rw [h1, this]
        subst hmd
        clear ho hst hgr
        go_wp2
        go_ret2
        exact ⟨some T, HW.out _ _ ⟨A, c, rfl, HO.out.slAt (fun _ => rfl)⟩, HA2.out⟩
  · have hne : ((askRes n (tabO o') a b).2 != 0) = true := by rw [bne_iff_ne]; exact he
    have HW := Lib.hid (show ∀ w', WayRes w' n ls (tabO o') a b (.returned (.tuple #[.slice none 0 0, .int .i64 (askRes n (tabO o') a b).2])) from fun w' => .inl ⟨he, rfl⟩)
    clear he
    generalize (askRes n (tabO o') a b).2 = er at *
    go_wp2
    go_ret2
    exact ⟨o', HW.out _, ha⟩
end Go.Proofs.YtbjdiikjnlgmiaaGreat
