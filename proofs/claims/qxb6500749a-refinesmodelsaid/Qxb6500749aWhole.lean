import Derived.Test.Qxb6500749aHp
import Derived.Laws.CopyRow
import Derived.Laws.Cells
import Derived.Laws.Tables
namespace Go.Proofs.Qxb6500749a
open Go.RowKit
/-! ### Whole rows in and out of a block -/
theorem setRow_put {w : World} {b : Nat} {cs cs' : Array Value} {T : TypeId} (h : Blk w b cs T) : w.setRow b cs' = put w b cs' T := by
  unfold Blk at h
  unfold World.setRow put
  congr 1
  apply Array.ext_getElem?
  intro i
  rw [Array.getElem?_modify]
  by_cases e : b = i
  · subst e
    obtain ⟨h1, h2⟩ := Array.getElem?_eq_some_iff.1 h
    simp [h1, h2]
  · simp [e, Array.getElem?_setIfInBounds_ne e]
theorem load_blk {P : Program} {w : World} {b : Nat} {cs : Array Value} {T : TypeId} (h : Blk w b cs T) (n : Nat) (hn : cs.size = n) :
    (loadCellsFrom ⟨b, 0, none⟩ 0 n #[]).run P w = .ok cs w := by
  subst hn
  have := run_loadCells_list (P := P) w ⟨b, 0, none⟩ cs.toList (fun j v hv => by
    have hadd : (⟨b, 0, none⟩ : Addr).add j = ⟨b, j, none⟩ := by unfold Addr.add; split <;> simp_all
    rw [hadd, h.cell]
    simpa using hv)
  simpa [loadCells] using this
theorem store_blk {P : Program} {w : World} {b : Nat} {cs cs' : Array Value} {T : TypeId} (h : Blk w b cs T) (hs : cs.size = cs'.size) (h1 : ∀ v ∈ cs'.toList, v.oneCell' = true) :
    (storeCells ⟨b, 0, none⟩ cs'.toList 0).run P w = .ok () (put w b cs' T) := by
  have := run_storeCells_from (P := P) b T cs'.toList 0 cs w h (by simp; omega) h1
  rw [this, setRow_put h]
  simp
theorem store_mid {P : Program} {w : World} {b o : Nat} {cs cs' vs : Array Value} {T : TypeId} (h : Blk w b cs T) (hs : o + vs.size ≤ cs.size) (h1 : ∀ v ∈ vs.toList, v.oneCell' = true)
    (hc : cs'.size = cs.size) (hg : ∀ j, j < cs.size → cs'[j]? = if o ≤ j ∧ j < o + vs.size then vs[j - o]? else cs[j]?) :
    (storeCells ⟨b, o, none⟩ vs.toList 0).run P w = .ok () (put w b cs' T) := by
  have := run_storeCells_at (P := P) b o T vs.toList 0 cs w h (by simp; omega) h1
  rw [this, setRow_put h]
  congr 2
  apply Array.ext_getElem?
  intro j
  simp only [Nat.add_zero, List.getElem?_toArray, Array.length_toList]
  by_cases hj : j < cs.size
  · rw [hg j hj, List.append_assoc, List.getElem?_append]
    simp only [List.length_take, Array.length_toList]
    rw [Nat.min_eq_left (by omega)]
    by_cases h1 : j < o
    · rw [if_pos h1, if_neg (by omega), List.getElem?_take, if_pos h1]; simp
    · rw [if_neg h1, List.getElem?_append]
      simp only [Array.length_toList]
      by_cases h2 : j < o + vs.size
      · rw [if_pos (by omega), if_pos (by omega)]; simp
      · rw [if_neg (by omega), if_neg (by omega), List.getElem?_drop]
        rw [show o + vs.size + (j - o - vs.size) = j by omega]; simp
  · have e1 : cs'[j]? = none := by rw [Array.getElem?_eq_none]; omega
    rw [e1, List.getElem?_eq_none]
    simp
    omega
theorem wp_store_mid {P : Program} {o : Oper} {a : Act} {w : World} {K : Act → World → Prop} {Q : Exit → Act → World → Prop} (ty : TypeId) (x y : Operand) (ho : o.op = .store ty x y)
    (b off : Nat) (cs cs' vs : Array Value) (T : TypeId) (hx : a.eval x = .pointer (some ⟨b, off, none⟩)) (hy : a.eval y = .agg vs) (hB : Blk w b cs T) (hi : (P.info? ty).map (·.size) = some vs.size)
    (hs : off + vs.size ≤ cs.size) (h1 : vs.all (·.oneCell') = true) (hc : cs'.size = cs.size) (hg : ∀ j, j < cs.size → cs'[j]? = if off ≤ j ∧ j < off + vs.size then vs[j - off]? else cs[j]?)
    (h : K (a.put o.dst undef) (put w b cs' T)) : o.wp P a w K Q := by
  have hst := store_mid (P := P) hB hs (fun v hv => (Array.all_eq_true_iff_forall_mem.1 h1) v (by simpa using hv)) hc hg
  have hsv : (storeVar ty ⟨b, off, none⟩ (.agg vs)).run P w = .ok () (put w b cs' T) := by
    cases hq : P.info? ty with
    | none => simp [hq] at hi
    | some i =>
      have hs : vs.size = i.size := by simp [hq] at hi; omega
      simp [storeVar, sizeOf, typeInfo, hq, Value.cells, hs, hst]
  unfold Oper.wp execOp
  simp only [ho, hx, hy, Instr.storeAt, Instr.sureAddr, Sem.run_bind, Sem.run_pure, Result.andThen_ok, hsv]
  exact h
theorem wpList_store_mid {P : Program} {ops : Array Oper} {rest : List Oper} {o : Oper} {a : Act} {w : World} {Q : Exit → Act → World → Prop} (hgd : o.guard = none) (ty : TypeId) (x y : Operand) (ho : o.op = .store ty x y)
    (b off : Nat) (cs cs' vs : Array Value) (T : TypeId) (hx : a.eval x = .pointer (some ⟨b, off, none⟩)) (hy : a.eval y = .agg vs) (hB : Blk w b cs T) (hi : (P.info? ty).map (·.size) = some vs.size)
    (hs : off + vs.size ≤ cs.size) (h1 : vs.all (·.oneCell') = true) (hc : cs'.size = cs.size) (hg : ∀ j, j < cs.size → cs'[j]? = if off ≤ j ∧ j < off + vs.size then vs[j - off]? else cs[j]?)
    (h : wpList P ops Q rest (a.put o.dst undef) (put w b cs' T)) : wpList P ops Q (o :: rest) a w :=
  wpList_plain hgd fun _ hK => wp_store_mid ty x y ho b off cs cs' vs T hx hy hB hi hs h1 hc hg (hK _ _ h)
end Go.Proofs.Qxb6500749a
