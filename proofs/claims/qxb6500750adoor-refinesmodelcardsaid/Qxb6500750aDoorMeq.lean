import Derived.Test.Qxb6500750aDoorStp
import Derived.Laws.StructEq
namespace Go.Proofs.Qxb6500750aDoor
open Go.RowKit
/-! ### Whole observations compared with themselves -/
theorem equalIn_array_self {P : Program} (w : World) (d : Nat) (t e : TypeId) (n m : Nat) (xs : Array Value) (hu : P.underlying t = some (.array n e)) (hs : (sizeOf e).run P w = .ok m w)
    (h : ∀ i, i < n → ∃ v, (part e xs (i * m)).run P w = .ok v w ∧ (Op.equalIn d e v v).run P w = .ok true w) : (Op.equalIn (d + 1) t (.agg xs) (.agg xs)).run P w = .ok true w := by
  simp only [Op.equalIn, Sem.run_bind, run_underlying hu, Result.andThen_ok, hs]

  have hl : ∀ i, i ∈ List.range' 0 n 1 → ∃ v, (part e xs (i * m)).run P w = .ok v w ∧ (Op.equalIn d e v v).run P w = .ok true w := fun i hi => h i (by simpa using hi)
  simp only [Std.Legacy.Range.forIn_eq_forIn_range', Std.Legacy.Range.size, Nat.sub_zero, Nat.add_one_sub_one, Nat.div_one]
  generalize List.range' 0 n 1 = l at hl
  induction l with
  | nil => simp
  | cons i l ih =>
    obtain ⟨v, h1, h2⟩ := hl i (by simp)
    simp only [List.forIn_cons, Sem.run_bind, h1, Result.andThen_ok, h2, Bool.not_true, Bool.false_eq_true, if_false, Sem.run_pure]
    exact ih (fun j hj => hl j (by simp [hj]))
theorem size33 (w : World) : (sizeOf 33).run Tryd.prog w = .ok 1 w := by kernel_rfl
theorem size38 (w : World) : (sizeOf 38).run Tryd.prog w = .ok 6 w := by kernel_rfl
theorem eq34g (g : Nat → Int) (w : World) : (Op.equalIn 9998 34 (.agg #[.int .i8 (g 0), .int .i8 (g 1), .int .i8 (g 2), .int .i8 (g 3), .int .i8 (g 4), .int .i8 (g 5), .int .i8 (g 6)]) (.agg #[.int .i8 (g 0), .int .i8 (g 1), .int .i8 (g 2), .int .i8 (g 3), .int .i8 (g 4), .int .i8 (g 5), .int .i8 (g 6)])).run Tryd.prog w = .ok true w := by
  rw [show (9998 : Nat) = 9997 + 1 from rfl]
  refine equalIn_array_self w 9997 34 33 7 1 _ (by kernel_rfl) (size33 w) fun i hi => ?_
  refine ⟨.int .i8 (g i), ?_, ?_⟩
  · obtain rfl | rfl | rfl | rfl | rfl | rfl | rfl : i = 0 ∨ i = 1 ∨ i = 2 ∨ i = 3 ∨ i = 4 ∨ i = 5 ∨ i = 6 := by omega
    all_goals kernel_rfl
  · rw [show (9997 : Nat) = 9996 + 1 from rfl, run_equalIn_int w 9996 33 .i8 .i8 _ _ (by kernel_rfl)]
    simp
def retV (r : Ret) : Array Value := #[.bool r.va, .int .u32 r.sq, .int .u8 r.st, .int .u32 r.da, .int .u8 r.re, .int .u8 r.ca]
theorem eq38g (r : Ret) (w : World) : (Op.equalIn 9997 38 (.agg (retV r)) (.agg (retV r))).run Tryd.prog w = .ok true w := by
  rw [show (9997 : Nat) = 9996 + 1 from rfl, run_equalIn_struct _ 9996 38 _ _ (by kernel_rfl) (by kernel_rfl)]
  unfold retV
  simp [Op.eqFields, go_sem]
theorem eq39g (r : Nat → Ret) (w : World) : (Op.equalIn 9998 39 (.agg #[.bool (r 0).va, .int .u32 (r 0).sq, .int .u8 (r 0).st, .int .u32 (r 0).da, .int .u8 (r 0).re, .int .u8 (r 0).ca, .bool (r 1).va, .int .u32 (r 1).sq, .int .u8 (r 1).st, .int .u32 (r 1).da, .int .u8 (r 1).re, .int .u8 (r 1).ca, .bool (r 2).va, .int .u32 (r 2).sq, .int .u8 (r 2).st, .int .u32 (r 2).da, .int .u8 (r 2).re, .int .u8 (r 2).ca]) (.agg #[.bool (r 0).va, .int .u32 (r 0).sq, .int .u8 (r 0).st, .int .u32 (r 0).da, .int .u8 (r 0).re, .int .u8 (r 0).ca, .bool (r 1).va, .int .u32 (r 1).sq, .int .u8 (r 1).st, .int .u32 (r 1).da, .int .u8 (r 1).re, .int .u8 (r 1).ca, .bool (r 2).va, .int .u32 (r 2).sq, .int .u8 (r 2).st, .int .u32 (r 2).da, .int .u8 (r 2).re, .int .u8 (r 2).ca])).run Tryd.prog w = .ok true w := by
  rw [show (9998 : Nat) = 9997 + 1 from rfl]
  refine equalIn_array_self w 9997 39 38 3 6 _ (by kernel_rfl) (size38 w) fun i hi => ?_
  refine ⟨.agg (retV (r i)), ?_, eq38g _ w⟩
  obtain rfl | rfl | rfl : i = 0 ∨ i = 1 ∨ i = 2 := by omega
  all_goals kernel_rfl
theorem eq43g (rf : Bool) (is sq : Int) (ρ : RepD) (w : World) : (Op.equalIn 10000 43 (.agg (encO rf is sq ρ)) (.agg (encO rf is sq ρ))).run Tryd.prog w = .ok true w := by
  rw [show (10000 : Nat) = 9999 + 1 from rfl, run_equalIn_struct _ 9999 43 _ _ (by kernel_rfl) (by kernel_rfl)]
  unfold encO
  rw [encR_lit]
  simp [Op.eqFields, go_sem, eq34g, eq39g]
end Go.Proofs.Qxb6500750aDoor
