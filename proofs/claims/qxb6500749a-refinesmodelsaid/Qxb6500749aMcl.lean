import Derived.Test.Qxb6500749aAcc
import Derived.Laws.Externs
import Derived.MapKept
namespace Go.Proofs.Qxb6500749a
open Go.RowKit
/-! ### maps.Clone -/
section
variable {P : Program} (w : World)
theorem eqlIn_map_nil (d : Nat) (t k e : TypeId) (p : Option Nat) (h : P.underlying t = some (.map k e)) : (Op.equalIn (d + 1) t (.map p) (.map none)).run P w = .ok p.isNone w := by
  cases p <;> simp [Op.equalIn, run_underlying h]
theorem eql_map_nil (t k e : TypeId) (p : Option Nat) (h : P.underlying t = some (.map k e)) : (binOp .eql t (.map p) (.map none)).run P w = .ok (.bool p.isNone) w := by
  simp only [binOp]
  simp [show Op.equal t (.map p) (.map none) = Op.equalIn (9999 + 1) t (.map p) (.map none) from rfl, eqlIn_map_nil w 9999 t k e p h]
theorem assert_map (t xT k e : TypeId) (v : Value) (h : P.underlying t = some (.map k e)) : (Instr.typeAssert (.iface t v) xT t false).run P w = .ok v w := by
  simp [Instr.typeAssert, run_underlying h, go_sem, Result.andThen]
theorem clone_obj {r : Nat} {es : Array MapEntry} {clock : Nat} (t : TypeId) (hb : w.heap[r]? = some (.map es clock)) :
    (Extern.MapsClone.clone #[.iface t (.map (some r))]).run P w = .ok (.iface t (.map (some w.heap.size))) (w.alloc (.map es clock)) := by
  have e : Extern.MapsClone.clone #[.iface t (.map (some r))] = (getObj r >>= fun o => match o with
      | .map entries clock => (newObj (.map entries clock) >>= fun n => pure (.iface t (.map (some n))))
      | _ => stuck "maps.clone: a map expected") := rfl
  rw [e]
  simp [MapKept.run_getObj_map hb, Result.andThen, go_sem]
end
set_option maxRecDepth 100000 in
set_option maxHeartbeats 2000000 in
theorem mclone_any (mb : Nat) (f : Int → Int) (w : World) (h : MapB w mb f) :
    Calls Try.prog 26 #[.map (some mb)] w fun e w' => e = .returned (.map (some w.heap.size)) ∧ MapB w' w.heap.size f ∧ Below w.heap.size w w' := by
  obtain ⟨es, ck, hb, hw, hu, hf⟩ := h
  have hq := fun w => eql_map_nil (P := Try.prog) w 28 _ _ (some mb) Try.underlying28
  have HFIN : Hid (MapB (w.alloc (.map es ck)) w.heap.size f ∧ Below w.heap.size w (w.alloc (.map es ck))) := ⟨⟨es, ck, heap_alloc_new w _, hw, hu, hf⟩, (Below.refl _ w).alloc (Nat.le_refl _) _⟩
  clear hw hu hf
  go_enter Try.func26, Try.ntmps26
  go_wp2
  rw [run_callFunc_extern Try.func46 (by kernel_rfl) (by kernel_rfl) (by kernel_rfl) (e := Extern.MapsClone.clone) (by kernel_rfl), clone_obj w 28 hb]
  simp only [Result.andThen]
  rw [Oper.upon_value]
  go_wp2
  rw [assert_map _ 28 20 _ _ _ Try.underlying28]
  simp only [Result.andThen]
  rw [Oper.upon_value]
  go_wp2
  go_ret
  exact ⟨rfl, HFIN.out⟩
end Go.Proofs.Qxb6500749a
