/- The map's key type, [2]int; Between. -/
import Derived.Test.YtbjdiikjnlgmiaaGreatTopoC
import Derived.Test.YtbjdiikjnlgmiaaGreatMaps
namespace Go.Proofs.YtbjdiikjnlgmiaaGreat
open Go.RowKit Go.Shelf

def ek2 (x : Int × Int) : Value := .agg #[.int .i64 x.1, .int .i64 x.2]

theorem check2 (empty : Bool) (a b : Int) (w : World) : (Instr.checkKey empty 10000 23 (.agg #[.int .i64 a, .int .i64 b])).run Tryz.prog w = .ok () w := by kernel_rfl

theorem part2a (a b : Value) (w : World) : (part 3 #[a, b] (0 * 1)).run Tryz.prog w = .ok a w := by kernel_rfl
theorem part2b (a b : Value) (w : World) : (part 3 #[a, b] ((0 + 1) * 1)).run Tryz.prog w = .ok b w := by kernel_rfl

theorem equal2 (a b c d : Int) (w : World) : (Op.equal 23 (.agg #[.int .i64 a, .int .i64 b]) (.agg #[.int .i64 c, .int .i64 d])).run Tryz.prog w = .ok (a == c && b == d) w := by
  have hs : (sizeOf 3).run Tryz.prog w = .ok 1 w := by kernel_rfl
  show (Op.equalIn (9998 + 1 + 1) 23 _ _).run _ _ = _
  rw [Op.equalIn]
  simp only [Sem.run_bind, run_underlying Tryz.underlying23, Result.andThen_ok, hs, Std.Legacy.Range.forIn_eq_forIn_range', Std.Legacy.Range.size, List.range', List.forIn_cons, List.forIn_nil,
    part2a, run_equalIn_int w 9998 3 .i64 .i64 _ _ Tryz.underlying3]
  cases a == c
  · simp
  · simp only [Bool.not_true, Bool.false_eq_true, if_false, Sem.run_pure, Result.andThen_ok, Sem.run_bind, part2b, run_equalIn_int w 9998 3 .i64 .i64 _ _ Tryz.underlying3]
    cases b == d <;> simp

theorem key2 : KeyAt Tryz.prog 23 ek2 where
  check e a w := check2 e a.1 a.2 w
  desc := ⟨_, Tryz.underlying23, .inr ⟨fun _ _ => rfl, fun a b w => by
    have h := equal2 a.1 a.2 b.1 b.2 w
    have e : decide (a = b) = (a.1 == b.1 && a.2 == b.2) := by
      rw [Bool.eq_iff_iff]
      simp [Prod.ext_iff]
    rw [e]
    exact h⟩⟩
  bits a := by
    show (2 == 2 && ([(Value.int .i64 a.1, Value.int .i64 a.1), (Value.int .i64 a.2, Value.int .i64 a.2)].all fun (x, y) => Instr.sameBits 9999 x y)) = true
    simp [Instr.sameBits]

theorem zeroint (w : World) : (zeroValue 3).run Tryz.prog w = .ok (.int .i64 0) w := by kernel_rfl

/-- The map of a map's links: what New makes. -/
def byIs (w : World) (m : Nat) (l : List ((Int × Int) × Nat)) : Prop := MapIs ek2 (fun n : Nat => Value.int .i64 n) w m l

theorem between_c (p m : Nat) (l : List ((Int × Int) × Nat)) (a b : Int) (w : World) (hp : w.cell? ⟨p, 2, none⟩ = some (.map (some m))) (hm : byIs w m l) :
    Calls Tryz.prog 24 #[.pointer (some ⟨p, 0, none⟩), .int .i64 a, .int .i64 b] w fun e w' =>
      e = .returned (.tuple #[.int .i64 ((lookupK (a, b) l).getD 0 : Nat), .bool (lookupK (a, b) l).isSome]) ∧ w = w' := by
  have hl := hm.lookupOk key2 Tryz.underlying60 (zeroint w) (a, b)
  unfold ek2 at hl
  have hnn := tnone_no p 0 m w hp
  have e1 : (Option.map (fun n : Nat => Value.int .i64 n) (lookupK (a, b) l)).getD (.int .i64 0) = .int .i64 ((lookupK (a, b) l).getD 0 : Nat) := by cases lookupK (a, b) l <;> rfl
  rw [e1] at hl
  clear e1
  generalize (lookupK (a, b) l).getD 0 = r at hl ⊢
  generalize (lookupK (a, b) l).isSome = r' at hl ⊢
  go_enter Tryz.func24, Tryz.ntmps24
  go_wp2_with (go_at_call 36; refine hnn.mono ?_; rintro e w1 ⟨rfl, rfl⟩)
  go_ret2
  exact ⟨rfl, rfl⟩
end Go.Proofs.YtbjdiikjnlgmiaaGreat
