import Derived.Test.Qxb6500749aItp
namespace Go.Proofs.Qxb6500749a
open Go.RowKit
attribute [local go_sem] put_size put_cell_same put_cell_ne put_frozen_same put_frozen_ne put_setCell_same put_setCell_ne put_drew
attribute [local go_sem] drewN_setCell drewN_alloc drewN_put
/-! ### The interpreter's step: what its arms share -/
theorem mrow {u9 : World} {b mm : Nat} {pv gv : Value} {prog : List Int} {M : IM} (h : MR (put u9 b (mV pv mm M gv) 46) b mm pv gv prog M) (n : Nat) (cs' : Array Value) (M' : IM) (e : cs' = mV pv mm M' gv) (h1 : M'.m = M.m) (h2 : M'.log = M.log) : MPost (put u9 b (mV pv mm M gv) 46) b mm pv gv prog M' ((put u9 b cs' 46).drewN n) := by
  have h9 := h.row M' h1 h2
  rw [put_put, ← e] at h9
  have f9 := (Fr.refl (KM b mm gv) (put u9 b (mV pv mm M gv) 46)).put (b := b) (fun _ => .inl rfl) cs' 46
  rw [put_put] at f9
  exact ⟨gv, h9.below ⟨rfl, rfl, rfl, Nat.le_refl _, fun _ _ => rfl⟩, f9.drewN n, fun _ q => .inl q⟩
theorem fet_at {prog : List Int} {p : Nat} (h : p < prog.length) (hw : ∀ x ∈ prog, W32 x) : prog[p]? = some (fetF prog (p : Nat)) ∧ W32 (fetF prog (p : Nat)) := by
  have e : fetF prog (p : Nat) = prog[p] := by
    unfold fetF
    rw [if_pos (by omega)]
    simp [h]
  rw [e]
  exact ⟨List.getElem?_eq_getElem h, hw _ (List.getElem_mem h)⟩
end Go.Proofs.Qxb6500749a
