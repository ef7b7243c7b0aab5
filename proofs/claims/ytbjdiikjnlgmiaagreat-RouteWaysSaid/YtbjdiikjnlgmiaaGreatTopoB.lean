/- slices.IndexFunc, ContainsFunc at the two element types; a link's check. -/
import Derived.Test.YtbjdiikjnlgmiaaGreatTopoA
namespace Go.Proofs.YtbjdiikjnlgmiaaGreat
open Go.RowKit Go.Shelf

set_option maxHeartbeats 400000 in
theorem idxF_c {α : Type} (enc : α → Value) (p : α → Bool) (l : List α) (A : Option Addr) (cap g : Nat) (lb : Array Value) (w : World) (hn : l.length ≤ 100000)
    (hs : SlAt w (fun x => [enc x]) 1 A l)
    (hf : ∀ x, x ∈ l → ∀ W, Below w.heap.size w W → Calls Tryz.prog g (#[enc x] ++ lb) W fun e W' => e = .returned (.bool (p x)) ∧ Below W.heap.size W W')
    (eg : ∀ args w, (callFunc g args).run Tryz.prog w = .ok (.enter g args) w) :
    Calls Tryz.prog 50 #[.slice A l.length cap, .func (.func g) #[] lb] w fun e w' => e = .returned (.int .i64 (idxOf p l)) ∧ Below w.heap.size w w' := by
  go_enter Tryz.func50, Tryz.ntmps50
  go_wp2_with fail
  go_loopw [8] (fun i wr => ∃ k : Nat, k ≤ l.length ∧ i = .int .i64 k ∧ (∀ j y, j < k → l[j]? = some y → p y = false) ∧ Below w.heap.size w wr) (fun i _ => l.length - (intOf i).toNat)
  case atStart => exact ⟨0, Nat.zero_le _, rfl, fun j y h => by omega, Below.refl _ _⟩
  case round =>
    obtain ⟨k, hk, rfl, hno, hb⟩ := hrel
    by_cases hlt : k < l.length
    · obtain ⟨x, hx⟩ : ∃ x, l[k]? = some x := ⟨l[k], List.getElem?_eq_getElem hlt⟩
      obtain ⟨b, o, rfl, hlb, hc⟩ := (hs.below hb).at_ hx
      have hc0 := hc 0 (enc x) rfl
      simp only [Nat.mul_one, Nat.add_zero] at hc0
      have hcall := hf x (List.mem_of_getElem? hx) wr hb
      have HX := Lib.hid hx
      have HN := Lib.hid hno
      clear hc hx hno
      go_wp2_with fail
      refine hcall.mono ?_
      rintro e w1 ⟨rfl, hb1⟩
      have hbb := below_call hb hb1 hb.size
      have hno := HN.out
      cases hp : p x
      · have HP := Lib.hid hp
        clear hp hno
        go_wp2_with fail
        go_roundw
        case rel =>
          refine ⟨k + 1, by omega, by go_num, ?_, hbb⟩
          intro j y hj hy
          by_cases hjk : j = k
          · subst hjk
            have := HX.out.symm.trans hy
            injection this with this
            rw [← this]
            exact HP.out
          · exact HN.out j y (by omega) hy
        case measure => simp [intOf]; omega
      · have HP := Lib.hid hp
        clear hp hno
        go_wp2_with fail
        go_ret
        exact ⟨by rw [idxOf_found HX.out HP.out HN.out]; rfl, hbb⟩
    · have HN := Lib.hid hno
      clear hno
      go_wp2_with fail
      go_ret
      exact ⟨by rw [idxOf_none fun j y hj hy => HN.out j y (by omega) hy]; rfl, hb⟩

set_option maxHeartbeats 400000 in
theorem idxL_c (p : Lnk → Bool) (l : List Lnk) (A : Option Addr) (cap g : Nat) (lb : Array Value) (w : World) (hn : l.length ≤ 100000)
    (hs : SlAt w Lnk.cells 8 A l)
    (hf : ∀ x, x ∈ l → ∀ W, Below w.heap.size w W → Calls Tryz.prog g (#[.agg x.arr] ++ lb) W fun e W' => e = .returned (.bool (p x)) ∧ Below W.heap.size W W')
    (eg : ∀ args w, (callFunc g args).run Tryz.prog w = .ok (.enter g args) w) :
    Calls Tryz.prog 39 #[.slice A l.length cap, .func (.func g) #[] lb] w fun e w' => e = .returned (.int .i64 (idxOf p l)) ∧ Below w.heap.size w w' := by
  go_enter Tryz.func39, Tryz.ntmps39
  go_wp2_with fail
  go_loopw [8] (fun i wr => ∃ k : Nat, k ≤ l.length ∧ i = .int .i64 k ∧ (∀ j y, j < k → l[j]? = some y → p y = false) ∧ Below w.heap.size w wr) (fun i _ => l.length - (intOf i).toNat)
  case atStart => exact ⟨0, Nat.zero_le _, rfl, fun j y h => by omega, Below.refl _ _⟩
  case round =>
    obtain ⟨k, hk, rfl, hno, hb⟩ := hrel
    by_cases hlt : k < l.length
    · obtain ⟨x, hx⟩ : ∃ x, l[k]? = some x := ⟨l[k], List.getElem?_eq_getElem hlt⟩
      obtain ⟨b, o, rfl, hlb, hc⟩ := (hs.below hb).at_ hx
      have c0 := hc 0 _ rfl
      rw [Nat.add_zero] at c0
      have c1 := hc 1 _ rfl
      have c2 := hc 2 _ rfl
      have c3 := hc 3 _ rfl
      have c4 := hc 4 _ rfl
      have c5 := hc 5 _ rfl
      have c6 := hc 6 _ rfl
      have c7 := hc 7 _ rfl
      have hcall := hf x (List.mem_of_getElem? hx) wr hb
      unfold Lnk.arr at hcall
      have HX := Lib.hid hx
      have HN := Lib.hid hno
      clear hc hx hno
      go_wp2_with fail
      refine hcall.mono ?_
      rintro e w1 ⟨rfl, hb1⟩
      have hbb := below_call hb hb1 hb.size
      have hno := HN.out
      cases hp : p x
      · have HP := Lib.hid hp
        clear hp hno
        go_wp2_with fail
        go_roundw
        case rel =>
          refine ⟨k + 1, by omega, by go_num, ?_, hbb⟩
          intro j y hj hy
          by_cases hjk : j = k
          · subst hjk
            have := HX.out.symm.trans hy
            injection this with this
            rw [← this]
            exact HP.out
          · exact HN.out j y (by omega) hy
        case measure => simp [intOf]; omega
      · have HP := Lib.hid hp
        clear hp hno
        go_wp2_with fail
        go_ret
        exact ⟨by rw [idxOf_found HX.out HP.out HN.out]; rfl, hbb⟩
    · have HN := Lib.hid hno
      clear hno
      go_wp2_with fail
      go_ret
      exact ⟨by rw [idxOf_none fun j y hj hy => HN.out j y (by omega) hy]; rfl, hb⟩

theorem contF_c {α : Type} (enc : α → Value) (p : α → Bool) (l : List α) (A : Option Addr) (cap g : Nat) (lb : Array Value) (w : World) (hn : l.length ≤ 100000)
    (hs : SlAt w (fun x => [enc x]) 1 A l)
    (hf : ∀ x, x ∈ l → ∀ W, Below w.heap.size w W → Calls Tryz.prog g (#[enc x] ++ lb) W fun e W' => e = .returned (.bool (p x)) ∧ Below W.heap.size W W')
    (eg : ∀ args w, (callFunc g args).run Tryz.prog w = .ok (.enter g args) w) :
    Calls Tryz.prog 40 #[.slice A l.length cap, .func (.func g) #[] lb] w fun e w' => e = .returned (.bool (l.any p)) ∧ Below w.heap.size w w' := by
  have h := idxF_c enc p l A cap g lb w hn hs hf eg
  rw [← idxOf_ge]
  clear hs hf eg
  generalize idxOf p l = r at h ⊢
  go_enter Tryz.func40, Tryz.ntmps40
  go_wp2_with fail
  refine h.mono ?_
  rintro e w1 ⟨rfl, hb1⟩
  go_wp2_with fail
  go_ret
  exact ⟨rfl, hb1⟩

theorem contL_c (p : Lnk → Bool) (l : List Lnk) (A : Option Addr) (cap g : Nat) (lb : Array Value) (w : World) (hn : l.length ≤ 100000)
    (hs : SlAt w Lnk.cells 8 A l)
    (hf : ∀ x, x ∈ l → ∀ W, Below w.heap.size w W → Calls Tryz.prog g (#[.agg x.arr] ++ lb) W fun e W' => e = .returned (.bool (p x)) ∧ Below W.heap.size W W')
    (eg : ∀ args w, (callFunc g args).run Tryz.prog w = .ok (.enter g args) w) :
    Calls Tryz.prog 21 #[.slice A l.length cap, .func (.func g) #[] lb] w fun e w' => e = .returned (.bool (l.any p)) ∧ Below w.heap.size w w' := by
  have h := idxL_c p l A cap g lb w hn hs hf eg
  rw [← idxOf_ge]
  clear hs hf eg
  generalize idxOf p l = r at h ⊢
  go_enter Tryz.func21, Tryz.ntmps21
  go_wp2_with fail
  refine h.mono ?_
  rintro e w1 ⟨rfl, hb1⟩
  go_wp2_with fail
  go_ret
  exact ⟨rfl, hb1⟩

/-- The flaws, as function values. -/
def flV (nb : Nat) : Nat → Value
  | 0 => .func (.func 51) #[] #[.pointer (some ⟨nb, 0, none⟩)]
  | 1 => .func (.func 52) #[] #[]
  | 2 => .func (.func 54) #[] #[]
  | _ => .func (.func 55) #[] #[]
def flB (nodes : Int) (L : Lnk) : Nat → Bool
  | 0 => flaw1 nodes L
  | 1 => flaw2 L
  | 2 => flaw3 L
  | _ => flaw4 L

theorem flaws_c (nodes : Int) (w : World) :
    Calls Tryz.prog 41 #[.int .i64 nodes] w fun e w' => ∃ a, e = .returned (.slice (some a) 4 4) ∧ SlAt w' (fun x => [flV w.heap.size x]) 1 (some a) [0, 1, 2, 3] ∧
      w'.cell? ⟨w.heap.size, 0, none⟩ = some (.int .i64 nodes) ∧ w.heap.size < w'.heap.size ∧ Below w.heap.size w w' := by
  have hmf : ∀ (fn : Fn) (first cap : Array Value) (w : World), (Instr.makeFunc fn first cap).run Tryz.prog w = .ok (.func fn first cap) w := fun _ _ _ _ => rfl
  go_enter Tryz.func41, Tryz.ntmps41
  go_wp2
  go_ret
  refine ⟨⟨w.heap.size + 1, 0, none⟩, rfl, .inr ⟨w.heap.size + 1, 0, rfl, by simp, ?_⟩, by simp, by simp; omega, ((Below.refl _ _).alloc (Nat.le_refl _) _).alloc (by simp) _⟩
  intro i x hx j v hv
  obtain ⟨rfl, rfl⟩ : j = 0 ∧ flV w.heap.size x = v := by
    cases j with
    | zero => exact ⟨rfl, by simpa using hv⟩
    | succ j => simp at hv
  rw [World.cell?_alloc_at _ _ _ _ (by simp)]
  match i, hx with
  | 0, hx => cases hx; rfl
  | 1, hx => cases hx; rfl
  | 2, hx => cases hx; rfl
  | 3, hx => cases hx; rfl

/-- May a link be? 0: it may; 2: ErrArg. -/
def linkBad (nodes : Int) (L : Lnk) : Bool := !wi nodes 1 16 || (flaw1 nodes L || (flaw2 L || (flaw3 L || flaw4 L)))

theorem any4 (nodes : Int) (L : Lnk) : [0, 1, 2, 3].any (flB nodes L) = (flaw1 nodes L || (flaw2 L || (flaw3 L || flaw4 L))) := by simp [flB]

/-- What a flaw says of a link: the closure that Check hands on. -/
theorem check1_c (nodes : Int) (hn : 1 ≤ nodes) (hn2 : nodes ≤ 16) (nb lb : Nat) (L : Lnk) (x : Nat) (w : World) (hnb : nb < w.heap.size)
    (hc : w.cell? ⟨nb, 0, none⟩ = some (.int .i64 nodes)) (hl : Blk w lb 51 L.arr) :
    Calls Tryz.prog 42 #[flV nb x, .pointer (some ⟨lb, 0, none⟩)] w fun e w' => e = .returned (.bool (flB nodes L x)) ∧ Below w.heap.size w w' := by
  have c0 := hl.cell 0
  have c1 := hl.cell 1
  have c2 := hl.cell 2
  have c3 := hl.cell 3
  have c4 := hl.cell 4
  have c5 := hl.cell 5
  have c6 := hl.cell 6
  have c7 := hl.cell 7
  simp [Lnk.arr] at c0 c1 c2 c3 c4 c5 c6 c7
  have k1 := flaws1_c L nodes nb w hn hn2 hnb hc
  have k2 := flaws2_c L w
  have k3 := flaws3_c L w
  have k4 := flaws4_c L w
  unfold Lnk.arr at k1 k2 k3 k4
  match x with
  | 0 =>
    unfold flV flB
    go_enter Tryz.func42, Tryz.ntmps42
    go_wp2_with (go_at_call 51; refine k1.mono ?_; rintro e w1 ⟨rfl, hb1⟩)
    go_ret
    exact ⟨rfl, hb1⟩
  | 1 =>
    unfold flV flB
    go_enter Tryz.func42, Tryz.ntmps42
    go_wp2_with (go_at_call 52; refine k2.mono ?_; rintro e w1 ⟨rfl, hb1⟩)
    go_ret
    exact ⟨rfl, hb1⟩
  | 2 =>
    unfold flV flB
    go_enter Tryz.func42, Tryz.ntmps42
    go_wp2_with (go_at_call 54; refine k3.mono ?_; rintro e w1 ⟨rfl, hb1⟩)
    go_ret
    exact ⟨rfl, hb1⟩
  | x + 3 =>
    unfold flV flB
    go_enter Tryz.func42, Tryz.ntmps42
    go_wp2_with (go_at_call 55; refine k4.mono ?_; rintro e w1 ⟨rfl, hb1⟩)
    go_ret
    exact ⟨rfl, hb1⟩

end Go.Proofs.YtbjdiikjnlgmiaaGreat
