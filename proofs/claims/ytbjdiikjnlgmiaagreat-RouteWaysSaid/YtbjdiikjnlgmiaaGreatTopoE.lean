/- slices.Clone of links. -/
import Derived.Test.YtbjdiikjnlgmiaaGreatTopoD
import Derived.Test.YtbjdiikjnlgmiaaGreatLists
namespace Go.Proofs.YtbjdiikjnlgmiaaGreat
open Go.RowKit Go.Shelf

theorem elemL : ElemAt Tryz.prog 22 51 Lnk.cells 8 64 where
  slice := Tryz.underlying22
  info := by
    have h : (Tryz.prog.info? 51).map (fun i => (i.zero, i.size, i.bytes)) = some (some (.agg #[.int .i64 0, .int .i64 0, .int .i64 0, .int .i64 0, .int .i64 0, .int .i64 0, .int .i64 0, .int .i64 0]), 8, 64) := by kernel_rfl
    obtain ⟨i, hi, hz0, hz1, hz2⟩ := info_parts h
    exact ⟨i, _, hi, hz0, hz1, hz2, rfl⟩
  pos := by decide
  bpos := by decide
  len := fun _ => rfl
  one := fun x u hu => by
    simp only [Lnk.cells, List.mem_cons, List.not_mem_nil, or_false] at hu
    rcases hu with rfl | rfl | rfl | rfl | rfl | rfl | rfl | rfl <;> rfl

theorem clone_c (l : List Lnk) (A : Option Addr) (cap : Nat) (w : World) (hn : l.length * 64 ≤ 140737488355328) (hs : SlAt w Lnk.cells 8 A l) :
    Calls Tryz.prog 19 #[.slice A l.length cap] w fun e w' => ∃ A' c', e = .returned (.slice A' l.length c') ∧ SlAt w' Lnk.cells 8 A' l ∧ Below w.heap.size w w' := by
  have hnil : ∀ (w : World) (n c : Nat), (binOp .eql 22 (.slice A n c) (.slice none 0 0)).run Tryz.prog w = .ok (.bool A.isNone) w := fun w n c => Lib.run_eql_slice_nil (P := Tryz.prog) w _ _ _ _ _ _ _ Tryz.underlying22
  cases A with
  | none =>
    have hl : l = [] := by rcases hs with h | ⟨b, o, h, _⟩; exact h; cases h
    subst hl
    simp only [Option.isNone_none] at hnil
    clear hs hn
    show Calls _ _ #[.slice none 0 cap] _ _
    go_enter Tryz.func19, Tryz.ntmps19
    go_wp2
    go_ret
    exact ⟨none, 0, rfl, .inl rfl, Below.refl _ _⟩
  | some ad =>
    simp only [Option.isNone_some] at hnil
    have hb0 : Below w.heap.size w (w.alloc (.cells #[] 51)) := (Below.refl _ _).alloc (Nat.le_refl _) _
    go_enter Tryz.func19, Tryz.ntmps19
    go_wp2_with (at_builtin; refine wpList_appendT elemL _ rfl _ _ rfl w.heap.size _ [] l rfl (OwnsL.empty w w.heap.size 51 (Nat.le_refl _)) (some ad) l.length cap rfl rfl (hs.below hb0) (by simpa using hn) (by simp) ?_)
    intro v' w' ho hg _
    have hb : Below w.heap.size w w' := hb0.grown hg (by simp) (fun k hk => by cases hk; exact Nat.le_refl _)
    rcases ho.form' with ⟨rfl, rfl⟩ | ⟨g, c, rfl, _, _⟩
    · have HO := Lib.hid ho
      clear ho
      go_wp2
      go_ret
      exact ⟨none, 0, rfl, .inl rfl, hb⟩
    · have HO := Lib.hid ho
      clear ho
      go_wp2
      go_ret
      exact ⟨_, c, rfl, HO.out.slAt (fun _ => rfl), hb⟩
end Go.Proofs.YtbjdiikjnlgmiaaGreat
