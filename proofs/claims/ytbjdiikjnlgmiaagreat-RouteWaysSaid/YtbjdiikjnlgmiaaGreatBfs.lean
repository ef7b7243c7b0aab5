/- The table's row for one goal, round by round: plain Lean, no program in sight. -/
import Derived.Test.YtbjdiikjnlgmiaaGreatRouteA
namespace Go.Proofs.YtbjdiikjnlgmiaaGreat
open Go.RowKit Go.Shelf

def rowF (T : Nat → Int) (tg : Nat) : Nat → Int := fun v => if v < 16 then T (tg * 16 + v) else 0
def rowG (T : Nat → Int) (tg : Nat) : Nat → Int := fun v => if v < 16 then T (256 + tg * 16 + v) else 0

theorem rowF_upd (T : Nat → Int) (tg u : Nat) (v : Int) (hu : u < 16) : rowF (upd T (tg * 16 + u) v) tg = upd (rowF T tg) u v := by
  funext a
  unfold rowF upd
  by_cases h : a = u
  · subst h; simp [hu]
  · rw [if_neg h]
    dsimp only
    by_cases h16 : a < 16
    · rw [if_pos h16, if_pos h16, if_neg (by omega)]
    · rw [if_neg h16, if_neg h16]
theorem rowF_upd_other (T : Nat → Int) (tg i : Nat) (v : Int) (h : ∀ a, a < 16 → i ≠ tg * 16 + a) : rowF (upd T i v) tg = rowF T tg := by
  funext a
  unfold rowF upd
  by_cases h16 : a < 16
  · rw [if_pos h16, if_pos h16, if_neg (fun e => h a h16 e.symm)]
  · rw [if_neg h16, if_neg h16]
theorem rowG_upd (T : Nat → Int) (tg u : Nat) (v : Int) (hu : u < 16) : rowG (upd T (256 + tg * 16 + u) v) tg = upd (rowG T tg) u v := by
  funext a
  unfold rowG upd
  by_cases h : a = u
  · subst h; simp [hu]
  · rw [if_neg h]
    dsimp only
    by_cases h16 : a < 16
    · rw [if_pos h16, if_pos h16, if_neg (by omega)]
    · rw [if_neg h16, if_neg h16]
theorem rowG_upd_other (T : Nat → Int) (tg i : Nat) (v : Int) (h : ∀ a, a < 16 → i ≠ 256 + tg * 16 + a) : rowG (upd T i v) tg = rowG T tg := by
  funext a
  unfold rowG upd
  by_cases h16 : a < 16
  · rw [if_pos h16, if_pos h16, if_neg (fun e => h a h16 e.symm)]
  · rw [if_neg h16, if_neg h16]

theorem upd_same (f : Nat → Int) (u : Nat) (v : Int) : upd f u v u = v := by simp [upd]
theorem upd_other (f : Nat → Int) (u : Nat) (v : Int) {a : Nat} (h : a ≠ u) : upd f u v a = f a := by simp [upd, h]

/-- How many of the first k are 0. -/
def fz (f : Nat → Int) : Nat → Nat
  | 0 => 0
  | k + 1 => fz f k + (if f k = 0 then 1 else 0)
theorem fz_le (f : Nat → Int) : ∀ k, fz f k ≤ k
  | 0 => by simp [fz]
  | k + 1 => by have := fz_le f k; unfold fz; split <;> omega
theorem fz_upd_ge (f : Nat → Int) (u : Nat) (v : Int) : ∀ k, k ≤ u → fz (upd f u v) k = fz f k
  | 0, _ => rfl
  | k + 1, h => by
    have := fz_upd_ge f u v k (by omega)
    unfold fz
    rw [this, upd_other f u v (by omega)]
theorem fz_upd (f : Nat → Int) (u : Nat) (v : Int) (h0 : f u = 0) (hv : v ≠ 0) : ∀ k, u < k → fz (upd f u v) k + 1 = fz f k
  | 0, h => by omega
  | k + 1, h => by
    unfold fz
    by_cases hk : u = k
    · subst hk
      rw [fz_upd_ge f u v u (Nat.le_refl _), upd_same, if_neg hv, if_pos h0]
    · have := fz_upd f u v h0 hv k (by omega)
      rw [upd_other f u v (by omega)]
      omega

structure FarInv (n : Int) (ls : List Lnk) (tg : Nat) (f : Nat → Int) (j top : Int) (i : Nat) : Prop where
  at_ : f tg = 1
  lo : ∀ v, 0 ≤ f v
  hi : ∀ v, f v ≤ top
  one : ∀ v, f v = 1 → v = tg
  out : ∀ v : Nat, n ≤ v → f v = 0
  step : ∀ v, 2 ≤ f v → ∃ x ∈ ls, x.src.toNat = v ∧ f x.dst.toNat = f v - 1
  old : ∀ x ∈ ls, 0 < f x.dst.toNat → f x.dst.toNat < j → 0 < f x.src.toNat ∧ f x.src.toNat ≤ f x.dst.toNat + 1
  now : ∀ m x, m < i → ls[m]? = some x → f x.dst.toNat = j → 0 < f x.src.toNat ∧ f x.src.toNat ≤ j + 1
  cnt : top + fz f 16 ≤ 16
  jt : 1 ≤ j ∧ j ≤ top ∧ top ≤ j + 1

structure FarOK (n : Int) (ls : List Lnk) (tg : Nat) (f : Nat → Int) : Prop where
  at_ : f tg = 1
  lo : ∀ v, 0 ≤ f v
  hi : ∀ v, f v ≤ 16
  one : ∀ v, f v = 1 → v = tg
  out : ∀ v : Nat, n ≤ v → f v = 0
  step : ∀ v, 2 ≤ f v → ∃ x ∈ ls, x.src.toNat = v ∧ f x.dst.toNat = f v - 1
  all : ∀ x ∈ ls, 0 < f x.dst.toNat → 0 < f x.src.toNat ∧ f x.src.toNat ≤ f x.dst.toNat + 1
  few : ∀ v, f v ≤ n

section
variable {n : Int} {ls : List Lnk} {tg : Nat} {f : Nat → Int} {j top : Int} {i : Nat}

theorem fz_zero : ∀ k, fz (fun _ => 0) k = k
  | 0 => rfl
  | k + 1 => by simp [fz, fz_zero k]

theorem FarInv.start (htg : tg < 16) (hn : (tg : Int) < n) : FarInv n ls tg (upd (fun _ => 0) tg 1) 1 1 0 := by
  have h0 : ∀ v, upd (fun _ => 0) tg 1 v = if v = tg then 1 else 0 := fun v => rfl
  refine ⟨upd_same _ _ _, fun v => ?_, fun v => ?_, fun v hv => ?_, fun v hv => ?_, fun v hv => ?_, fun x _ h1 h2 => by omega, fun m x hm => by omega, ?_, by omega⟩
  · rw [h0]; split <;> omega
  · rw [h0]; split <;> omega
  · rw [h0] at hv; by_cases h : v = tg; exact h; rw [if_neg h] at hv; cases hv
  · rw [h0, if_neg (by omega)]
  · rw [h0] at hv; split at hv <;> omega
  · have := fz_upd (fun _ => 0) tg 1 rfl (by decide) 16 htg
    rw [fz_zero] at this
    omega

theorem FarInv.skip (h : FarInv n ls tg f j top i) {x : Lnk} (hx : ls[i]? = some x) (hc : f x.dst.toNat = j → f x.src.toNat ≠ 0) : FarInv n ls tg f j top (i + 1) := by
  refine ⟨h.at_, h.lo, h.hi, h.one, h.out, h.step, h.old, fun m y hm hy hd => ?_, h.cnt, h.jt⟩
  by_cases hmi : m = i
  · subst hmi
    obtain rfl : x = y := by rw [hx] at hy; injection hy
    have h1 := h.lo x.src.toNat
    have h2 := h.hi x.src.toNat
    have h3 := hc hd
    have h4 := h.jt
    omega
  · exact h.now m y (by omega) hy hd

theorem FarInv.put (h : FarInv n ls tg f j top i) {x : Lnk} (hx : ls[i]? = some x) (hd : f x.dst.toNat = j) (hs : f x.src.toNat = 0) (h16 : x.src.toNat < 16) (hn : (x.src.toNat : Int) < n) : FarInv n ls tg (upd f x.src.toNat (j + 1)) j (j + 1) (i + 1) := by
  have hj := h.jt
  have hne : ∀ v, f v ≠ 0 → v ≠ x.src.toNat := fun v hv e => hv (e ▸ hs)
  refine ⟨?_, fun v => ?_, fun v => ?_, fun v hv => ?_, fun v hv => ?_, fun v hv => ?_, fun y hy h1 h2 => ?_, fun m y hm hy hyd => ?_, ?_, by omega⟩
  · rw [upd_other f _ _ (hne tg (by rw [h.at_]; decide))]; exact h.at_
  · by_cases e : v = x.src.toNat
    · subst e; rw [upd_same]; omega
    · rw [upd_other f _ _ e]; exact h.lo v
  · by_cases e : v = x.src.toNat
    · subst e; rw [upd_same]; omega
    · rw [upd_other f _ _ e]; have := h.hi v; omega
  · by_cases e : v = x.src.toNat
    · subst e; rw [upd_same] at hv; omega
    · rw [upd_other f _ _ e] at hv; exact h.one v hv
  · rw [upd_other f _ _ (by intro e; subst e; omega)]; exact h.out v hv
  · by_cases e : v = x.src.toNat
    · subst e
      refine ⟨x, List.mem_of_getElem? hx, rfl, ?_⟩
      rw [upd_same, upd_other f _ _ (hne _ (by omega))]
      omega
    · rw [upd_other f _ _ e] at hv ⊢
      obtain ⟨y, hy, h1, h2⟩ := h.step v hv
      exact ⟨y, hy, h1, by rw [upd_other f _ _ (hne _ (by omega))]; exact h2⟩
  · by_cases e : y.dst.toNat = x.src.toNat
    · rw [e, upd_same] at h2; omega
    · rw [upd_other f _ _ e] at h1 h2 ⊢
      have := h.old y hy h1 h2
      rw [upd_other f _ _ (hne _ (by omega))]
      exact this
  · by_cases e : y.dst.toNat = x.src.toNat
    · rw [e, upd_same] at hyd; omega
    · rw [upd_other f _ _ e] at hyd
      by_cases hmi : m = i
      · subst hmi
        obtain rfl : x = y := by rw [hx] at hy; injection hy
        rw [upd_same]; omega
      · have := h.now m y (by omega) hy hyd
        rw [upd_other f _ _ (hne _ (by omega))]
        exact this
  · have := fz_upd f x.src.toNat (j + 1) hs (by omega) 16 h16
    have := h.cnt
    omega

theorem FarInv.next (h : FarInv n ls tg f j (j + 1) ls.length) : FarInv n ls tg f (j + 1) (j + 1) 0 := by
  have hj := h.jt
  refine ⟨h.at_, h.lo, h.hi, h.one, h.out, h.step, fun x hx h1 h2 => ?_, fun m x hm => by omega, h.cnt, by omega⟩
  by_cases e : f x.dst.toNat = j
  · obtain ⟨m, hm⟩ := List.getElem?_of_mem hx
    have := h.now m x (List.getElem?_eq_some_iff.1 hm).1 hm e
    omega
  · exact h.old x hx h1 (by omega)

theorem fz_ge (f : Nat → Int) (n : Nat) (h : ∀ v : Nat, n ≤ v → f v = 0) : ∀ k, k ≤ n + fz f k
  | 0 => by omega
  | k + 1 => by
    have := fz_ge f n h k
    unfold fz
    by_cases hk : n ≤ k
    · rw [if_pos (h k hk)]; omega
    · omega

theorem FarInv.done (h : FarInv n ls tg f j j ls.length) : FarOK n ls tg f := by
  have hc := h.cnt
  have htg : (tg : Int) < n := by
    rcases Int.lt_or_le (tg : Int) n with h1 | h1
    · exact h1
    · have h2 := h.out tg h1
      have h3 := h.at_
      omega
  have hfz := fz_ge f n.toNat (fun v hv => h.out v (by omega)) 16
  refine ⟨h.at_, h.lo, fun v => by have := h.hi v; omega, h.one, h.out, h.step, fun x hx h1 => ?_, fun v => by have := h.hi v; omega⟩
  have hh := h.hi x.dst.toNat
  by_cases e : f x.dst.toNat = j
  · obtain ⟨m, hm⟩ := List.getElem?_of_mem hx
    have := h.now m x (List.getElem?_eq_some_iff.1 hm).1 hm e
    omega
  · exact h.old x hx h1 (by omega)
end
end Go.Proofs.YtbjdiikjnlgmiaaGreat
