/- Next; what the table tells of the next hop. -/
import Derived.Test.YtbjdiikjnlgmiaaGreatRouteI
namespace Go.Proofs.YtbjdiikjnlgmiaaGreat
open Go.RowKit Go.Shelf

theorem outsUpto_mem {ls : List Lnk} {node : Int} (a : OutI ls node) : ∀ k, a.1 < k → a ∈ outsUpto ls node k
  | 0, h => by omega
  | k + 1, h => by
    unfold outsUpto
    by_cases e : a.1 = k
    · have ha := a.2
      rw [e] at ha
      rw [dif_pos ha]
      refine List.mem_append.2 (.inr ?_)
      rw [List.mem_singleton]
      exact Subtype.ext e
    · exact List.mem_append.2 (.inl (outsUpto_mem a k (by omega)))
theorem outList_mem {ls : List Lnk} {node : Int} (a : OutI ls node) : a ∈ outList ls node := by
  obtain ⟨x, hx, _⟩ := outI_link a
  unfold outList sortOut
  rw [List.mem_mergeSort]
  exact outsUpto_mem a _ (List.getElem?_eq_some_iff.1 hx).1

/-- The next hop. -/
structure Hop (n : Int) (ls : List Lnk) (T : Nat → Int) (b cur : Nat) (i : Nat) (x : Lnk) : Prop where
  nx : T (256 + b * 16 + cur) = i
  link : ls[i]? = some x
  src : x.src = cur
  far : T (b * 16 + x.dst.toNat) = T (b * 16 + cur) - 1
  lo : 0 ≤ x.dst
  hi : x.dst < n

theorem Good.hop {n : Int} {ls : List Lnk} {T : Nat → Int} (h : Good n ls T) (he : newErr n ls = 0) {b cur : Nat} (hb : (b : Int) < n) (hc : (cur : Int) < n) (h2 : 2 ≤ T (b * 16 + cur)) : ∃ i x, Hop n ls T b cur i x := by
  have hn := newErr_zero he
  have hrow := h.1.old b (by omega)
  have hf : rowF T b cur = T (b * 16 + cur) := by unfold rowF; rw [if_pos (by omega)]
  have hg : rowG T b cur = T (256 + b * 16 + cur) := by unfold rowG; rw [if_pos (by omega)]
  obtain ⟨y, hy, hys, hyd⟩ := hrow.far.step cur (by rw [hf]; exact h2)
  obtain ⟨m, hm⟩ := List.getElem?_of_mem hy
  obtain ⟨y1, y2, y3, y4, _, _⟩ := link_range he hy
  let a : OutI ls (cur : Int) := ⟨m, by rw [hm]; simp; omega⟩
  have hq : qOf ls (rowF T b) cur a = true := by
    unfold qOf
    show Option.any _ ls[m]? = true
    rw [hm]
    simp only [Option.any_some]
    unfold nearF
    rw [hyd, hf]
    simp
    omega
  have hnx := hrow.next cur hc
  unfold nextSpec found at hnx
  cases hfd : (outList ls (cur : Int)).find? (qOf ls (rowF T b) cur) with
  | none =>
    have := List.find?_eq_none.1 hfd a (outList_mem a)
    rw [hq] at this
    exact absurd rfl this
  | some c =>
    rw [hfd, hg] at hnx
    have hqc := List.find?_some hfd
    obtain ⟨x, hx, hxs, _⟩ := outI_link c
    unfold qOf at hqc
    rw [hx] at hqc
    simp only [Option.any_some] at hqc
    unfold nearF at hqc
    simp only [Bool.and_eq_true, decide_eq_true_eq] at hqc
    obtain ⟨x1, x2, x3, x4, _, _⟩ := link_range he (List.mem_of_getElem? hx)
    refine ⟨c.1, x, hnx, hx, hxs, ?_, x3, x4⟩
    have hd : rowF T b x.dst.toNat = T (b * 16 + x.dst.toNat) := by unfold rowF; rw [if_pos (by omega)]
    rw [← hd, hqc.2, hf]

/-- The path from a to b. -/
def pathAt (ls : List Lnk) (T : Nat → Int) (b a : Nat) : Nat → Nat
  | 0 => a
  | k + 1 => ((ls[(T (256 + b * 16 + pathAt ls T b a k)).toNat]?.map Lnk.dst).getD 0).toNat
def wayAt (ls : List Lnk) (T : Nat → Int) (b a : Nat) (k : Nat) : Nat := (T (256 + b * 16 + pathAt ls T b a k)).toNat
def wayL (ls : List Lnk) (T : Nat → Int) (b a : Nat) (k : Nat) : List Nat := (List.range k).map (wayAt ls T b a)
theorem wayL_succ (ls : List Lnk) (T : Nat → Int) (b a k : Nat) : wayL ls T b a (k + 1) = wayL ls T b a k ++ [wayAt ls T b a k] := by simp [wayL, List.range_succ]
theorem wayL_len (ls : List Lnk) (T : Nat → Int) (b a k : Nat) : (wayL ls T b a k).length = k := by simp [wayL]

theorem Hop.path {n : Int} {ls : List Lnk} {T : Nat → Int} {b a k i : Nat} {x : Lnk} (h : Hop n ls T b (pathAt ls T b a k) i x) : pathAt ls T b a (k + 1) = x.dst.toNat ∧ wayAt ls T b a k = i := by
  have e : (T (256 + b * 16 + pathAt ls T b a k)).toNat = i := by rw [h.nx]; simp
  refine ⟨?_, e⟩
  show ((ls[(T (256 + b * 16 + pathAt ls T b a k)).toNat]?.map Lnk.dst).getD 0).toNat = _
  rw [e, h.link]
  rfl

theorem Good.path {n : Int} {ls : List Lnk} {T : Nat → Int} (h : Good n ls T) (he : newErr n ls = 0) {b a : Nat} (hb : (b : Int) < n) (ha : (a : Int) < n) :
    ∀ k : Nat, (k : Int) < T (b * 16 + a) → (pathAt ls T b a k : Int) < n ∧ T (b * 16 + pathAt ls T b a k) = T (b * 16 + a) - k
  | 0, _ => ⟨ha, by simp [pathAt]⟩
  | k + 1, hk => by
    obtain ⟨h1, h2⟩ := h.path he hb ha k (by omega)
    obtain ⟨i, x, hop⟩ := h.hop he hb h1 (by rw [h2]; omega)
    obtain ⟨p1, _⟩ := hop.path
    have h3 := hop.far
    have h4 := hop.lo
    have h5 := hop.hi
    rw [p1]
    exact ⟨by omega, by rw [h3, h2]; omega⟩
theorem Good.pathHop {n : Int} {ls : List Lnk} {T : Nat → Int} (h : Good n ls T) (he : newErr n ls = 0) {b a : Nat} (hb : (b : Int) < n) (ha : (a : Int) < n) (k : Nat) (hk : (k : Int) + 1 < T (b * 16 + a)) :
    ∃ x, Hop n ls T b (pathAt ls T b a k) (wayAt ls T b a k) x ∧ pathAt ls T b a (k + 1) = x.dst.toNat := by
  obtain ⟨h1, h2⟩ := h.path he hb ha k (by omega)
  obtain ⟨i, x, hop⟩ := h.hop he hb h1 (by rw [h2]; omega)
  obtain ⟨p1, p2⟩ := hop.path
  exact ⟨x, by rw [p2]; exact hop, p1⟩
theorem Good.pathEnd {n : Int} {ls : List Lnk} {T : Nat → Int} (h : Good n ls T) (he : newErr n ls = 0) {b a : Nat} (hb : (b : Int) < n) (ha : (a : Int) < n) (h0 : T (b * 16 + a) ≠ 0) : pathAt ls T b a (T (b * 16 + a) - 1).toNat = b := by
  have hn := newErr_zero he
  have hpos := (h.2 (b * 16 + a)).1
  obtain ⟨h1, h2⟩ := h.path he hb ha (T (b * 16 + a) - 1).toNat (by omega)
  have hrow := h.1.old b (by omega)
  refine hrow.far.one _ ?_
  unfold rowF
  rw [if_pos (by omega), h2]
  omega

def nextRes (n : Int) (T : Nat → Int) (a b : Int) : Int × Int :=
  if (askRes n T a b).2 ≠ 0 then (0, (askRes n T a b).2) else if (askRes n T a b).1 = 0 then (0, 200) else (T (256 + b.toNat * 16 + a.toNat), 0)

theorem askRes_ok {n : Int} {T : Nat → Int} {a b : Int} (h : (askRes n T a b).2 = 0) : okp n a b := by
  unfold askRes at h
  by_cases ho : okp n a b
  · exact ho
  · rw [if_neg ho] at h; cases h

set_option maxRecDepth 100000 in
set_option maxHeartbeats 1000000 in
theorem next_c (r p : Nat) (n : Int) (ls : List Lnk) (o : Option (Nat → Int)) (a b : Int) (w : World) (h : RSt w r p n ls o) :
    Calls Tryz.prog 9 #[.pointer (some ⟨r, 0, none⟩), .int .i64 a, .int .i64 b] w fun e w' => ∃ o', e = .returned (.tuple #[.int .i64 (nextRes n (tabO o') a b).1, .int .i64 (nextRes n (tabO o') a b).2]) ∧ Asks w w' r p n ls o o' a b := by
  have k := asked_c r p n ls o a b w h
  have hn16 := (newErr_zero h.mp.ok).2.1
  clear h
  go_enter Tryz.func9, Tryz.ntmps9
  go_upto_block 0 with (go_at_call 28; refine k.mono ?_; rintro e w1 ⟨o', rfl, ha⟩)
  by_cases he : (askRes n (tabO o') a b).2 = 0
  · have hok := askRes_ok he
    by_cases hd : (askRes n (tabO o') a b).1 = 0
    · have HR : nextRes n (tabO o') a b = (0, 200) := by unfold nextRes; rw [if_neg (fun h => h he), if_pos hd]
      have HH := Lib.hid HR
      rw [he, hd]
      clear he hd HR k
      go_wp2
      go_ret2
      exact ⟨o', by rw [HH.out]; rfl, ha⟩
    · have HR : nextRes n (tabO o') a b = (tabO o' (256 + b.toNat * 16 + a.toNat), 0) := by unfold nextRes; rw [if_neg (fun h => h he), if_neg hd]
      obtain ⟨T, rfl⟩ := ha.made hok
      obtain ⟨⟨a0, a1⟩, b0, b1⟩ := hok
      have q := ha.st.rt.1.tab (256 + b.toNat * 16 + a.toNat) (by omega)
      rw [show 4 + (256 + b.toNat * 16 + a.toNat) = 260 + b.toNat * 16 + a.toNat by omega] at q
      have hed : ((askRes n (tabO (some T)) a b).1 == 0) = false := by rw [beq_eq_false_iff_ne]; exact hd
      have x1 : a.toNat < 16 := by omega
      have x2 : b.toNat < 16 := by omega
      have x3 : a < 16 := by omega
      have x4 : b < 16 := by omega
      have HH := Lib.hid HR
      have HA := Lib.hid ha
      rw [he]
      clear HR hd k ha he
      generalize (askRes n (tabO (some T)) a b).1 = d at *
      go_wp2
      go_ret2
      exact ⟨some T, by rw [HH.out]; rfl, HA.out⟩
  · have HR : nextRes n (tabO o') a b = (0, (askRes n (tabO o') a b).2) := by unfold nextRes; rw [if_pos he]
    have hne : ((askRes n (tabO o') a b).2 != 0) = true := by rw [bne_iff_ne]; exact he
    have HH := Lib.hid HR
    clear HR k he
    generalize (askRes n (tabO o') a b).2 = er at *
    go_wp2
    go_ret2
    exact ⟨o', by rw [HH.out]; rfl, ha⟩
end Go.Proofs.YtbjdiikjnlgmiaaGreat
