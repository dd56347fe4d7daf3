import Derived.Test.Qxb6500750aDoorAwa
import Derived.Test.Qxb6500750aDoorNote
namespace Go.Proofs.Qxb6500750aDoor
open Go.RowKit
/-! ### Whole observations compared -/
theorem eq34 (w : World) : (Op.equalIn 9998 34 (.agg #[.int .i8 0, .int .i8 0, .int .i8 0, .int .i8 0, .int .i8 0, .int .i8 0, .int .i8 0]) (.agg #[.int .i8 0, .int .i8 0, .int .i8 0, .int .i8 0, .int .i8 0, .int .i8 0, .int .i8 0])).run Tryd.prog w = .ok true w := by kernel_rfl
theorem eq39 (w : World) : (Op.equalIn 9998 39 (.agg #[.bool false, .int .u32 0, .int .u8 0, .int .u32 0, .int .u8 0, .int .u8 0, .bool false, .int .u32 0, .int .u8 0, .int .u32 0, .int .u8 0, .int .u8 0, .bool false, .int .u32 0, .int .u8 0, .int .u32 0, .int .u8 0, .int .u8 0]) (.agg #[.bool false, .int .u32 0, .int .u8 0, .int .u32 0, .int .u8 0, .int .u8 0, .bool false, .int .u32 0, .int .u8 0, .int .u32 0, .int .u8 0, .int .u8 0, .bool false, .int .u32 0, .int .u8 0, .int .u32 0, .int .u8 0, .int .u8 0])).run Tryd.prog w = .ok true w := by kernel_rfl
theorem eq43 (rf : Bool) (is sq : Int) (w : World) : (Op.equalIn 10000 43 (.agg (encO rf is sq rep0)) (.agg (encO rf is sq rep0))).run Tryd.prog w = .ok true w := by
  rw [show (10000 : Nat) = 9999 + 1 from rfl, run_equalIn_struct _ 9999 43 _ _ (by kernel_rfl) (by kernel_rfl)]
  rw [encO_lit0]
  simp [Op.eqFields, go_sem, eq34, eq39]
section
variable {P : Program} {ops : Array Oper} {rest : List Oper} {o : Oper} {a : Act} {w : World} {Q : Exit → Act → World → Prop}
theorem wpList_yes (hw : Region.wanted o (yielded ops a.tmps) = true) (h : ∀ K : Act → World → Prop, (∀ a w, wpList P ops Q rest a w → K a w) → o.wp P a w K Q) : wpList P ops Q (o :: rest) a w :=
  wpList_step fun K hK => by rw [if_pos hw]; exact h K hK
theorem wpList_load_yes (hw : Region.wanted o (yielded ops a.tmps) = true) (ty : TypeId) (x : Operand) (ho : o.op = .load ty x)
    (g : Nat) (hx : a.eval x = .pointer (some ⟨g, 0, none⟩)) (t : TypeId) (cs : Array Value) (fr : Nat × Nat) (d : TypeDesc) (hg : w.heap[g]? = some (.cells cs t fr))
    (hu : P.underlying ty = some d) (hd : (match d with | .struct _ | .array _ _ => true | _ => false) = true) (hi : (P.info? ty).map (·.size) = some cs.size)
    (h : wpList P ops Q rest (a.put o.dst (.agg cs)) w) : wpList P ops Q (o :: rest) a w :=
  wpList_yes hw fun _ hK => wp_load_row ty x ho g hx t cs fr d hg hu hd hi (hK _ _ h)
theorem wpList_eql_yes (hw : Region.wanted o (yielded ops a.tmps) = true) (ty : TypeId) (x y : Operand) (z : TypeId) (ho : o.op = .binOp .eql ty x y z) (c c' : Array Value) (b : Bool) (hx : a.eval x = .agg c) (hy : a.eval y = .agg c')
    (hm : P.eqGuardType P.depth ty = false) (he : (Op.equalIn 10000 ty (.agg c) (.agg c')).run P w = .ok b w)
    (h : wpList P ops Q rest (a.put o.dst (.bool b)) w) : wpList P ops Q (o :: rest) a w :=
  wpList_yes hw fun K hK => by
    unfold Oper.wp execOp
    simp only [ho, hx, hy, Sem.run_bind, run_eqGuard_agg w .eql ty x y c c' hm, Result.andThen_ok, run_eql_struct, he, Sem.run_pure]
    exact hK _ _ h
end
end Go.Proofs.Qxb6500750aDoor
