/- The document's New: it answers no error just where New does. -/
import Derived.Test.YtbjdiikjnlgmiaaGreatWaysA
import Derived.Test.YtbjdiikjnlgmiaaGreatWaysB
import Derived.Deep.RegionHeld3
namespace Go.Proofs.YtbjdiikjnlgmiaaGreat
open Go.RowKit Go.Shelf

section
variable {n : Int} {ls : List Lnk}
theorem ne_num (h : ¬ (1 ≤ n ∧ n ≤ 16)) : newErr n ls ≠ 0 := fun he => h ⟨(newErr_zero he).1, (newErr_zero he).2.1⟩
theorem ne_right {k : Nat} {x : Lnk} (hx : ls[k]? = some x) (h : rightB n x = false) : newErr n ls ≠ 0 := fun he => by
  obtain ⟨h1, h2, _, h4, _⟩ := newErr_zero he
  have := h4 x (List.mem_of_getElem? hx)
  rw [right_bad h1 h2, h] at this
  cases this
theorem ne_len (h : 48 < ls.length) : newErr n ls ≠ 0 := fun he => by have := (newErr_zero he).2.2.1; omega
theorem btwQ_iff {f t : Int} {y : Lnk} : btwQ f t y = true ↔ y.src = f ∧ y.dst = t := by unfold btwQ; simp
theorem btw_first {k : Nat} {x : Lnk} (hd : dups ls = false) (hx : ls[k]? = some x) : btwI ls x.src x.dst = k := by
  refine btw_yes hx (btwQ_iff.2 ⟨rfl, rfl⟩) fun j y hj hy => ?_
  rw [← Bool.not_eq_true, btwQ_iff]
  rintro ⟨h1, h2⟩
  unfold dups at hd
  simp only [Bool.not_eq_false', decide_eq_true_eq] at hd
  unfold List.Nodup at hd
  rw [List.pairwise_iff_getElem] at hd
  obtain ⟨l1, g1⟩ := List.getElem?_eq_some_iff.1 hx
  obtain ⟨l2, g2⟩ := List.getElem?_eq_some_iff.1 hy
  exact absurd (by rw [List.getElem_map, List.getElem_map, g1, g2]; unfold Lnk.key; rw [h1, h2]) (hd j k (by simpa using l2) (by simpa using l1) hj)
theorem ne_dup {k : Nat} {x : Lnk} (hx : ls[k]? = some x) (h : btwI ls x.src x.dst ≠ k) : newErr n ls ≠ 0 := fun he => h (btw_first (newErr_zero he).2.2.2.2.1 hx)
theorem btw_mem {f t : Int} : 0 ≤ btwI ls f t ↔ (f, t) ∈ ls.map Lnk.key := by
  unfold btwI
  cases h : ls.findIdx? (btwQ f t) with
  | some i =>
    rw [List.findIdx?_eq_some_iff_getElem] at h
    obtain ⟨hi, hq, _⟩ := h
    refine ⟨fun _ => List.mem_map.2 ⟨ls[i], List.getElem_mem hi, ?_⟩, fun _ => by dsimp only; omega⟩
    obtain ⟨h1, h2⟩ := btwQ_iff.1 hq
    unfold Lnk.key
    rw [h1, h2]
  | none =>
    rw [List.findIdx?_eq_none_iff] at h
    refine ⟨fun h => by dsimp only at h; omega, fun hm => ?_⟩
    obtain ⟨y, hy, hk⟩ := List.mem_map.1 hm
    have := h y hy
    unfold Lnk.key at hk
    injection hk with h1 h2
    rw [btwQ_iff.2 ⟨h1, h2⟩] at this
    cases this
theorem noBack_iff : noBack ls = true ↔ ∃ x ∈ ls, btwI ls x.dst x.src < 0 := by
  unfold noBack
  rw [List.any_eq_true]
  constructor
  · rintro ⟨x, hx, h⟩
    refine ⟨x, hx, ?_⟩
    rw [Option.isNone_iff_eq_none] at h
    have h2 : ¬ (lookupK (x.dst, x.src) (byList ls)).isSome = true := by rw [h]; simp
    rw [lookupK_isSome, byList_keys, ← btw_mem] at h2
    omega
  · rintro ⟨x, hx, h⟩
    refine ⟨x, hx, ?_⟩
    have h2 : ¬ (x.dst, x.src) ∈ ls.map Lnk.key := by rw [← btw_mem]; omega
    rw [← byList_keys, ← lookupK_isSome] at h2
    simpa using h2
theorem ne_back {k : Nat} {x : Lnk} (hx : ls[k]? = some x) (h : btwI ls x.dst x.src < 0) : newErr n ls ≠ 0 := fun he => by
  have h1 := noBack_iff.2 ⟨x, List.mem_of_getElem? hx, h⟩
  rw [(newErr_zero he).2.2.2.2.2] at h1
  cases h1
theorem new_zero (h1 : 1 ≤ n) (h2 : n ≤ 16) (hr : ∀ (j : Nat) (y : Lnk), j < ls.length → ls[j]? = some y → rightB n y = true) (hl : ls.length ≤ 48) (hd : ∀ (j : Nat) (y : Lnk), j < ls.length → ls[j]? = some y → btwI ls y.src y.dst = j)
    (hb : ∀ (j : Nat) (y : Lnk), j < ls.length → ls[j]? = some y → 0 ≤ btwI ls y.dst y.src) : newErr n ls = 0 := by
  have e1 : (!wi n 1 16 || ls.any (linkBad n)) = false := by
    rw [Bool.or_eq_false_iff]
    refine ⟨by unfold wi; simp [h1, h2], ?_⟩
    rw [List.any_eq_false]
    intro y hy
    obtain ⟨j, hj⟩ := List.getElem?_of_mem hy
    rw [right_bad h1 h2, hr j y (List.getElem?_eq_some_iff.1 hj).1 hj]
    simp
  have e3 : dups ls = false := by
    unfold dups
    simp only [Bool.not_eq_false', decide_eq_true_eq]
    unfold List.Nodup
    rw [List.pairwise_iff_getElem]
    intro i j hi hj hij hc
    simp only [List.length_map] at hi hj
    have q1 := hd i ls[i] hi (List.getElem?_eq_getElem hi)
    have q2 := hd j ls[j] hj (List.getElem?_eq_getElem hj)
    rw [List.getElem_map, List.getElem_map] at hc
    unfold Lnk.key at hc
    injection hc with c1 c2
    rw [c1, c2, q2] at q1
    omega
  have e4 : noBack ls = false := by
    rw [← Bool.not_eq_true, noBack_iff]
    rintro ⟨x, hx, h⟩
    obtain ⟨j, hj⟩ := List.getElem?_of_mem hx
    have := hb j x (List.getElem?_eq_some_iff.1 hj).1 hj
    omega
  unfold newErr
  rw [if_neg (by rw [e1]; simp), if_neg (by omega), if_neg (by rw [e3]; simp), if_neg (by rw [e4]; simp)]
end

/-- What the document's New answers. -/
def RNewPost (n : Int) (ls : List Lnk) (A : Option Addr) (cap : Nat) (w : World) (e : Ending) (w' : World) : Prop :=
  Below w.heap.size w w' ∧ ((newErr n ls = 0 ∧ e = .returned (.tuple #[rmap n A ls.length cap, .int .i64 0])) ∨ (newErr n ls ≠ 0 ∧ ∃ er, er ≠ 0 ∧ e = .returned (.tuple #[rmap 0 none 0 0, .int .i64 er])))
theorem rnew_bad {n : Int} {ls : List Lnk} {A : Option Addr} {cap : Nat} {w w' : World} (h : newErr n ls ≠ 0) (er : Int) (he : er ≠ 0) (hb : Below w.heap.size w w') : RNewPost n ls A cap w (.returned (.tuple #[.agg #[.int .i64 0, .slice none 0 0], .int .i64 er])) w' := ⟨hb, .inr ⟨h, er, he, rfl⟩⟩

/-- The world inside the document's New: the result's block, the map's block. -/
structure NewSt (w : World) (n : Int) (A : Option Addr) (len cap : Nat) (wr : World) : Prop where
  bel : Below w.heap.size w wr
  res : Blk wr w.heap.size 30 #[.int .i64 0, .slice none 0 0]
  map : Blk wr (w.heap.size + 1) 30 #[.int .i64 n, .slice A len cap]
section
variable {w wr w1 : World} {n : Int} {A : Option Addr} {len cap : Nat}
theorem NewSt.below (h : NewSt w n A len cap wr) (hb : Below wr.heap.size wr w1) : NewSt w n A len cap w1 := ⟨bl_call h.bel hb, h.res.below hb h.res.lt, h.map.below hb h.map.lt⟩
theorem NewSt.zero (h : NewSt w n A len cap wr) : wr.cell? ⟨w.heap.size, 0, none⟩ = some (.int .i64 0) ∧ wr.cell? ⟨w.heap.size, 1, none⟩ = some (.slice none 0 0) ∧ wr.frozen? ⟨w.heap.size, 0, none⟩ = false ∧ wr.frozen? ⟨w.heap.size, 1, none⟩ = false := ⟨h.res.cell 0, h.res.cell 1, h.res.frozen 0, h.res.frozen 1⟩
theorem NewSt.one (h : NewSt w n A len cap wr) : wr.cell? ⟨w.heap.size + 1, 0, none⟩ = some (.int .i64 n) ∧ wr.cell? ⟨w.heap.size + 1, 1, none⟩ = some (.slice A len cap) := ⟨h.map.cell 0, h.map.cell 1⟩
theorem NewSt.set2 (h : NewSt w n A len cap wr) (u v : Value) : Below w.heap.size w ((wr.setCell ⟨w.heap.size, 0, none⟩ u).setCell ⟨w.heap.size, 1, none⟩ v) := bl_set (bl_set h.bel (by simp) _) (by simp) _
end

set_option maxRecDepth 100000 in
set_option maxHeartbeats 2000000 in
theorem refNew_c (n : Int) (ls : List Lnk) (A : Option Addr) (cap : Nat) (w : World) (hl : ls.length ≤ 1000) (hs : SlAt w Lnk.cells 8 A ls) :
    Calls Tryz.prog 6 #[.int .i64 n, .slice A ls.length cap] w (RNewPost n ls A cap w) := by
  have hb00 : Below w.heap.size w ((w.alloc (.cells #[.int .i64 0, .slice none 0 0] 30)).alloc (.cells #[.int .i64 n, .slice A ls.length cap] 30)) := bl_alloc (bl_alloc (Below.refl _ _) _) _
  by_cases hn1 : n < 1
  · have hne : newErr n ls ≠ 0 := ne_num (by omega)
    have HN := Lib.hid hne
    clear hne hs
    go_enter Tryz.func6, Tryz.ntmps6
    go_wp2
    refine bodyPost_ret (v := .tuple #[.agg #[.int .i64 0, .slice none 0 0], .int .i64 2]) (by simp [results, Tryz.results6, go_sem]) rfl (rnew_bad HN.out 2 (by decide) ?_)
    exact hb00
  by_cases hn2 : 16 < n
  · have hne : newErr n ls ≠ 0 := ne_num (by omega)
    have HN := Lib.hid hne
    clear hne hs
    go_enter Tryz.func6, Tryz.ntmps6
    go_wp2
    refine bodyPost_ret (v := .tuple #[.agg #[.int .i64 0, .slice none 0 0], .int .i64 2]) (by simp [results, Tryz.results6, go_sem]) rfl (rnew_bad HN.out 2 (by decide) ?_)
    exact hb00
  have n1 : 1 ≤ n := by omega
  have n2 : n ≤ 16 := by omega
  clear hn1 hn2
  obtain ⟨w0, hw0⟩ : ∃ w0, w0 = (w.alloc (.cells #[.int .i64 0, .slice none 0 0] 30)).alloc (.cells #[.int .i64 n, .slice A ls.length cap] 30) := ⟨_, rfl⟩
  have hst0 : NewSt w n A ls.length cap w0 := by
    refine ⟨by rw [hw0]; exact hb00, ?_, ?_⟩
    · rw [hw0]; exact (Blk.new _ _ _).below (bl_alloc (Below.refl _ _) _) (by simp)
    · have := Blk.new (w.alloc (.cells #[.int .i64 0, .slice none 0 0] 30)) 30 #[.int .i64 n, .slice A ls.length cap]
      rw [World.size_alloc] at this
      rw [hw0]
      exact this
  clear hb00
  go_enter Tryz.func6, Tryz.ntmps6
  go_upto_block 0 with fail
  rw [← hw0]
  clear hw0
  go_wp2_with fail
  go_loopw [7] (fun s7 wr => ∃ k : Nat, s7 = .int .i64 k ∧ k ≤ ls.length ∧ (∀ (j : Nat) (y : Lnk), j < k → ls[j]? = some y → rightB n y = true) ∧ NewSt w n A ls.length cap wr) (fun s7 _ => ls.length - (intOf s7).toNat)
  case atStart => exact ⟨0, rfl, Nat.zero_le _, fun j y h => by omega, hst0⟩
  case round =>
    clear hst0
    obtain ⟨k, rfl, hk, hr, hst⟩ := hrel
    by_cases hlt : k < ls.length
    · obtain ⟨x, hx⟩ : ∃ x, ls[k]? = some x := ⟨ls[k], List.getElem?_eq_getElem hlt⟩
      obtain ⟨b, o, rfl, hbl, hc⟩ := (hs.below hst.bel).at_ hx
      have q0 := hc 0 _ rfl
      rw [Nat.add_zero] at q0
      have q1 := hc 1 _ rfl
      have q2 := hc 2 _ rfl
      have q3 := hc 3 _ rfl
      have q4 := hc 4 _ rfl
      have q5 := hc 5 _ rfl
      have q6 := hc 6 _ rfl
      have q7 := hc 7 _ rfl
      have kr := refRight_c n x wr
      unfold Lnk.arr at kr
      have HX := Lib.hid hx
      have HR := Lib.hid hr
      have HS := Lib.hid hst
      clear hc hx hr hst
      cases hrx : rightB n x
      · rw [hrx] at kr
        have HN := Lib.hid (ne_right (n := n) HX.out hrx)
        clear hrx
        go_wp2_with (go_at_call 25; refine kr.mono ?_; rintro e w1 ⟨rfl, hb1⟩; have hst1 := NewSt.below HS.out hb1; obtain ⟨d0, d1, f0, f1⟩ := hst1.zero)
        refine bodyPost_ret (v := .tuple #[.agg #[.int .i64 0, .slice none 0 0], .int .i64 2]) (by simp [results, Tryz.results6, go_sem, d0, d1]) rfl (rnew_bad HN.out 2 (by decide) ?_)
        exact hst1.set2 _ _
      · rw [hrx] at kr
        have HR2 := Lib.hid hrx
        clear hrx
        go_wp2_with (go_at_call 25; refine kr.mono ?_; rintro e w1 ⟨rfl, hb1⟩)
        go_roundw
        case rel =>
          refine ⟨k + 1, by go_num, hlt, fun j y hj hy => ?_, NewSt.below HS.out hb1⟩
          by_cases hjk : j = k
          · subst hjk
            rw [HX.out] at hy
            injection hy with hy
            rw [← hy]
            exact HR2.out
          · exact HR.out j y (by omega) hy
        case measure => simp [intOf]; omega
    · obtain rfl : k = ls.length := by omega
      have HR := Lib.hid hr
      clear hr
      by_cases h48 : 48 < ls.length
      · have HN := Lib.hid (ne_len (n := n) h48)
        obtain ⟨d0, d1, f0, f1⟩ := hst.zero
        have HS := Lib.hid hst
        clear hst
        go_wp2
        refine bodyPost_ret (v := .tuple #[.agg #[.int .i64 0, .slice none 0 0], .int .i64 3]) (by simp [results, Tryz.results6, go_sem, d0, d1]) rfl (rnew_bad HN.out 3 (by decide) ?_)
        exact HS.out.set2 _ _
      have l48 : ls.length ≤ 48 := by omega
      go_upto_block 2 with fail
      go_wp2_with fail
      go_loopw [8] (fun s8 wr => ∃ k : Nat, s8 = .int .i64 k ∧ k ≤ ls.length ∧ (∀ (j : Nat) (y : Lnk), j < k → ls[j]? = some y → btwI ls y.src y.dst = j) ∧ NewSt w n A ls.length cap wr) (fun s8 _ => ls.length - (intOf s8).toNat)
      case atStart => exact ⟨0, rfl, Nat.zero_le _, fun j y h => by omega, hst⟩
      case round =>
        rename_i wr0
        clear hst
        obtain ⟨k, rfl, hk, hr, hst⟩ := hrel
        by_cases hlt : k < ls.length
        · obtain ⟨x, hx⟩ : ∃ x, ls[k]? = some x := ⟨ls[k], List.getElem?_eq_getElem hlt⟩
          have kb := fun W hW => btw_c n ls A cap x.src x.dst W hl (hs.below hW)
          unfold rmap at kb
          have hbr := hst.bel
          obtain ⟨m0, m1⟩ := hst.one
          obtain ⟨b, o, rfl, hbl, hc⟩ := (hs.below hst.bel).at_ hx
          have q0 := hc 0 _ rfl
          rw [Nat.add_zero] at q0
          have q1 := hc 1 _ rfl
          have HX := Lib.hid hx
          have HD := Lib.hid hr
          have HS := Lib.hid hst
          clear hc hx hr hst
          by_cases hq : btwI ls x.src x.dst = k
          · rw [hq] at kb
            have HQ := Lib.hid hq
            clear hq
            go_upto_region 14 with fail
            go_region_held3 (fun w' => w'.cell? ⟨w.heap.size + 1, 0, none⟩ = some (.int .i64 n) ∧ w'.cell? ⟨w.heap.size + 1, 1, none⟩ = some (.slice (some ⟨b, o, none⟩) ls.length cap) ∧ w'.cell? ⟨b, o + k * 8, none⟩ = some (.int .i64 x.src) ∧ w'.cell? ⟨b, o + k * 8 + 1, none⟩ = some (.int .i64 x.dst))
              (first | go_keep | (refine ⟨cell_later hb1 ?_, cell_later hb1 ?_, cell_later hb1 ?_, cell_later hb1 ?_⟩ <;> assumption)) ((go_at_call 26; refine (kb _ ?_).mono ?_; (repeat (first | exact hbr | exact Below.refl _ _ | refine bl_drew ?_ | refine bl_alloc ?_ _ | refine bl_drewN ?_ _)); rintro e w1 ⟨rfl, hb1⟩))
            have hst1 := NewSt.below HS.out (bl_undrew hb1)
            go_wp2
            go_roundw
            case rel =>
              refine ⟨k + 1, by go_num, hlt, fun j y hj hy => ?_, hst1⟩
              by_cases hjk : j = k
              · subst hjk
                rw [HX.out] at hy
                injection hy with hy
                rw [← hy]
                exact HQ.out
              · exact HD.out j y (by omega) hy
            case measure => simp [intOf]; omega
          · have hne : (btwI ls x.src x.dst != (k : Int)) = true := by rw [bne_iff_ne]; exact hq
            have HN := Lib.hid (ne_dup (n := n) HX.out hq)
            clear hq
            generalize btwI ls x.src x.dst = i at *
            go_upto_region 14 with fail
            go_region_held3 (fun w' => w'.cell? ⟨w.heap.size + 1, 0, none⟩ = some (.int .i64 n) ∧ w'.cell? ⟨w.heap.size + 1, 1, none⟩ = some (.slice (some ⟨b, o, none⟩) ls.length cap) ∧ w'.cell? ⟨b, o + k * 8, none⟩ = some (.int .i64 x.src) ∧ w'.cell? ⟨b, o + k * 8 + 1, none⟩ = some (.int .i64 x.dst))
              (first | go_keep | (refine ⟨cell_later hb1 ?_, cell_later hb1 ?_, cell_later hb1 ?_, cell_later hb1 ?_⟩ <;> assumption)) ((go_at_call 26; refine (kb _ ?_).mono ?_; (repeat (first | exact hbr | exact Below.refl _ _ | refine bl_drew ?_ | refine bl_alloc ?_ _ | refine bl_drewN ?_ _)); rintro e w1 ⟨rfl, hb1⟩))
            have hst1 := NewSt.below HS.out (bl_undrew hb1)
            obtain ⟨d0, d1, f0, f1⟩ := hst1.zero
            have HS1 := Lib.hid hst1
            clear hst1
            go_wp2
            refine bodyPost_ret (v := .tuple #[.agg #[.int .i64 0, .slice none 0 0], .int .i64 190]) (by simp [results, Tryz.results6, go_sem, d0, d1]) rfl (rnew_bad HN.out 190 (by decide) ?_)
            exact HS1.out.set2 _ _
        · obtain rfl : k = ls.length := by omega
          have HD := Lib.hid hr
          clear hr
          go_upto_block 4 with fail
          go_wp2_with fail
          go_loopw [9] (fun s9 wr => ∃ k : Nat, s9 = .int .i64 k ∧ k ≤ ls.length ∧ (∀ (j : Nat) (y : Lnk), j < k → ls[j]? = some y → 0 ≤ btwI ls y.dst y.src) ∧ NewSt w n A ls.length cap wr) (fun s9 _ => ls.length - (intOf s9).toNat)
          case atStart => exact ⟨0, rfl, Nat.zero_le _, fun j y h => by omega, hst⟩
          case round =>
            clear hst
            obtain ⟨k, rfl, hk, hr, hst⟩ := hrel
            by_cases hlt : k < ls.length
            · obtain ⟨x, hx⟩ : ∃ x, ls[k]? = some x := ⟨ls[k], List.getElem?_eq_getElem hlt⟩
              have kb := fun W hW => btw_c n ls A cap x.dst x.src W hl (hs.below hW)
              unfold rmap at kb
              have hbr := hst.bel
              obtain ⟨m0, m1⟩ := hst.one
              obtain ⟨b, o, rfl, hbl, hc⟩ := (hs.below hst.bel).at_ hx
              have q0 := hc 0 _ rfl
              rw [Nat.add_zero] at q0
              have q1 := hc 1 _ rfl
              have HX := Lib.hid hx
              have HB := Lib.hid hr
              have HS := Lib.hid hst
              clear hc hx hr hst
              by_cases hq : btwI ls x.dst x.src < 0
              · have HN := Lib.hid (ne_back (n := n) HX.out hq)
                generalize btwI ls x.dst x.src = i at *
                go_upto_region 19 with fail
                go_region_held3 (fun w' => w'.cell? ⟨w.heap.size + 1, 0, none⟩ = some (.int .i64 n) ∧ w'.cell? ⟨w.heap.size + 1, 1, none⟩ = some (.slice (some ⟨b, o, none⟩) ls.length cap) ∧ w'.cell? ⟨b, o + k * 8, none⟩ = some (.int .i64 x.src) ∧ w'.cell? ⟨b, o + k * 8 + 1, none⟩ = some (.int .i64 x.dst))
                  (first | go_keep | (refine ⟨cell_later hb1 ?_, cell_later hb1 ?_, cell_later hb1 ?_, cell_later hb1 ?_⟩ <;> assumption)) ((go_at_call 26; refine (kb _ ?_).mono ?_; (repeat (first | exact hbr | exact Below.refl _ _ | refine bl_drew ?_ | refine bl_alloc ?_ _ | refine bl_drewN ?_ _)); rintro e w1 ⟨rfl, hb1⟩))
                have hst1 := NewSt.below HS.out (bl_undrew hb1)
                obtain ⟨d0, d1, f0, f1⟩ := hst1.zero
                have HS1 := Lib.hid hst1
                clear hst1
                go_wp2
                refine bodyPost_ret (v := .tuple #[.agg #[.int .i64 0, .slice none 0 0], .int .i64 191]) (by simp [results, Tryz.results6, go_sem, d0, d1]) rfl (rnew_bad HN.out 191 (by decide) ?_)
                exact HS1.out.set2 _ _
              · have hge : 0 ≤ btwI ls x.dst x.src := by omega
                have HQ := Lib.hid hge
                obtain ⟨i, hi⟩ : ∃ i, i = btwI ls x.dst x.src := ⟨_, rfl⟩
                rw [← hi] at kb hge
                clear hq hi
                go_upto_region 19 with fail
                go_region_held3 (fun w' => w'.cell? ⟨w.heap.size + 1, 0, none⟩ = some (.int .i64 n) ∧ w'.cell? ⟨w.heap.size + 1, 1, none⟩ = some (.slice (some ⟨b, o, none⟩) ls.length cap) ∧ w'.cell? ⟨b, o + k * 8, none⟩ = some (.int .i64 x.src) ∧ w'.cell? ⟨b, o + k * 8 + 1, none⟩ = some (.int .i64 x.dst))
                  (first | go_keep | (refine ⟨cell_later hb1 ?_, cell_later hb1 ?_, cell_later hb1 ?_, cell_later hb1 ?_⟩ <;> assumption)) ((go_at_call 26; refine (kb _ ?_).mono ?_; (repeat (first | exact hbr | exact Below.refl _ _ | refine bl_drew ?_ | refine bl_alloc ?_ _ | refine bl_drewN ?_ _)); rintro e w1 ⟨rfl, hb1⟩))
                have hst1 := NewSt.below HS.out (bl_undrew hb1)
                go_wp2
                go_roundw
                case rel =>
                  refine ⟨k + 1, by go_num, hlt, fun j y hj hy => ?_, hst1⟩
                  by_cases hjk : j = k
                  · subst hjk
                    rw [HX.out] at hy
                    injection hy with hy
                    rw [← hy]
                    exact HQ.out
                  · exact HB.out j y (by omega) hy
                case measure => simp [intOf]; omega
            · obtain rfl : k = ls.length := by omega
              have HN := Lib.hid (new_zero n1 n2 HR.out l48 HD.out hr)
              clear hr
              obtain ⟨d0, d1, f0, f1⟩ := hst.zero
              obtain ⟨m0, m1⟩ := hst.one
              have HS := Lib.hid hst
              clear hst
              go_wp2
              refine bodyPost_ret (v := .tuple #[.agg #[.int .i64 n, .slice A ls.length cap], .int .i64 0]) (by simp [results, Tryz.results6, go_sem, d0, d1]) rfl ⟨HS.out.set2 _ _, .inl ⟨HN.out, rfl⟩⟩
end Go.Proofs.YtbjdiikjnlgmiaaGreat
