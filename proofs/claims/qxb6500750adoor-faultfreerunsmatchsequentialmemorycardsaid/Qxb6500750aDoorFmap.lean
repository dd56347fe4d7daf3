import Derived.Test.Qxb6500750aDoorMem
import Derived.DeepKeys4
namespace Go.Proofs.Qxb6500750aDoor
open Go.RowKit
open Go.WideMaps (KeyLaw)
/-! ### The auditor's map of flights: from (master, number) to the flight's block -/
theorem Tryd.laidOut : laidOutB Tryd.prog = true := by kernel_rfl
theorem Tryd.row172 : (172 : TypeId) < Tryd.prog.types.size := of_decide_eq_true (by kernel_rfl)
theorem Tryd.wide172 : (match Tryd.prog.underlying 172 with | some (.array _ _) | some (.struct _) => true | _ => false) = true := by kernel_rfl
theorem Tryd.keyAt172 : Tryd.prog.keyTypeAt 2 172 = true := by kernel_rfl
set_option maxRecDepth 100000 in
theorem Tryd.law172 : KeyLaw Tryd.prog 172 := @Go.deep_law_laid Tryd.prog Tryd.laidOut 2 (by omega) 172 Tryd.row172 Tryd.keyAt172 Tryd.wide172
theorem Tryd.cells172 : Tryd.prog.cellsOf 172 = 2 := by kernel_rfl
theorem Tryd.cells3 : Tryd.prog.cellsOf 3 = 1 := by kernel_rfl
theorem Tryd.cells29 : Tryd.prog.cellsOf 29 = 1 := by kernel_rfl
theorem Tryd.keyT172 : Tryd.prog.keyType 172 = true := by kernel_rfl
/-- The key (m, s). -/
def keyV (m s : Int) : Value := .agg #[.int .i64 m, .int .u32 s]
theorem keyV_inj {m s m' s' : Int} (h : keyV m s = keyV m' s') : m = m' ∧ s = s' := by
  unfold keyV at h
  injection h with h; injection h with h; injection h with h1 h2
  injection h2 with h2 _
  injection h1 with _ h1; injection h2 with _ h2
  exact ⟨h1, h2⟩
theorem lits3 (n : Nat) (m : Int) (h : (Lit.int .i64 m).wf = true) : Tryd.prog.keyLits (n + 1) 3 [.int .i64 m] = some [.int .i64 m] := by
  simp [Program.keyLits, Tryd.underlying3, h]
theorem lits29 (n : Nat) (m : Int) (h : (Lit.int .u32 m).wf = true) : Tryd.prog.keyLits (n + 1) 29 [.int .u32 m] = some [.int .u32 m] := by
  simp [Program.keyLits, Tryd.underlying29, h]
theorem key172 (m s : Int) (hm : 0 ≤ m ∧ m < 100) (hs : 0 ≤ s ∧ s < 4294967296) : ∃ l, keyOf Tryd.prog 172 (keyV m s) = some l := by
  have h1 : (Lit.int .i64 m).wf = true := by simp [Lit.wf, IntKind.min, IntKind.max, IntKind.bits, IntKind.signed]; omega
  have h2 : (Lit.int .u32 s).wf = true := by simp [Lit.wf, IntKind.min, IntKind.max, IntKind.bits, IntKind.signed]; omega
  unfold keyOf keyV
  rw [Tryd.underlying172]
  simp only [Tryd.keyT172, Value.formed, Tryd.underlying172, Tryd.cells172, Value.cells]
  simp only [Program.keyLits, Tryd.underlying172, Tryd.cells172]
  simp [Tryd.cells3, Tryd.cells29, lits3 199 m h1, lits29 199 s h2]
/-- Block b holds a map of flights: g m s is the block of the flight (m, s). -/
structure FMap (w : World) (b : Nat) (g : Int → Int → Option Nat) : Prop where
  out : ∃ (es : Array MapEntry) (clock : Nat), w.heap[b]? = some (.map es clock) ∧
    (∀ e ∈ es.toList, ∃ m s fb, (0 ≤ m ∧ m < 100) ∧ (0 ≤ s ∧ s < 4294967296) ∧ e.key = keyV m s ∧ e.val = .pointer (some ⟨fb, 0, none⟩) ∧ g m s = some fb ∧ e.born < clock) ∧
    (es.toList.Pairwise fun x y => x.key ≠ y.key) ∧
    ∀ m s fb, g m s = some fb → ∃ e ∈ es.toList, e.key = keyV m s
section
variable {w w' : World} {b : Nat} {g : Int → Int → Option Nat}
theorem FMap.lt (h : FMap w b g) : b < w.heap.size := by
  obtain ⟨es, c, hb, _⟩ := h.out; exact (Array.getElem?_eq_some_iff.1 hb).1
theorem FMap.same (h : FMap w b g) (hs : w'.heap[b]? = w.heap[b]?) : FMap w' b g := by
  obtain ⟨es, c, hb, h2⟩ := h.out; exact ⟨es, c, hs.trans hb, h2⟩
theorem FMap.new (w : World) : FMap (w.alloc (.map #[] 0)) w.heap.size (fun _ _ => none) := ⟨#[], 0, by show (w.heap.push _)[w.heap.size]? = _; simp, by simp, by simp, by simp⟩
theorem FMap.keys {es : Array MapEntry} {clock : Nat} (h : ∀ e ∈ es.toList, ∃ m s fb, (0 ≤ m ∧ m < 100) ∧ (0 ≤ s ∧ s < 4294967296) ∧ e.key = keyV m s ∧ e.val = .pointer (some ⟨fb, 0, none⟩) ∧ g m s = some fb ∧ e.born < clock) : ∀ e ∈ es.toList, ∃ l, keyOf Tryd.prog 172 e.key = some l := fun e he => by
  obtain ⟨m, s, fb, h1, h2, h3, _⟩ := h e he
  rw [h3]; exact key172 m s h1 h2
def ptrO : Option Nat → Value
  | none => .pointer none
  | some fb => .pointer (some ⟨fb, 0, none⟩)
theorem FMap.lookup (h : FMap w b g) (m s : Int) (hm : 0 ≤ m ∧ m < 100) (hs : 0 ≤ s ∧ s < 4294967296) :
    (Instr.lookup 80 (.map (some b)) (keyV m s) false).run Tryd.prog w = .ok (ptrO (g m s)) w := by
  obtain ⟨es, c, hb, h1, h2, h3⟩ := h.out
  obtain ⟨l, hl⟩ := key172 m s hm hs
  have hz : (zeroValue 78).run Tryd.prog w = .ok (.pointer none) w := by kernel_rfl
  rcases Tryd.law172.find w hl es.toList (FMap.keys h1) with ⟨f1, f2⟩ | ⟨j, e0, f1, f2, f3⟩
  · have hg : g m s = none := by
      cases hg : g m s with
      | none => rfl
      | some fb => obtain ⟨e, he, hk⟩ := h3 m s fb hg; exact absurd hk (f2 e he)
    rw [hg]
    simp [Instr.lookup, run_underlying Tryd.underlying80, run_getObj_map hb, Tryd.law172.check w _ hl, f1, hz, Result.andThen, ptrO]
  · obtain ⟨m', s', fb, _, _, k1, k2, k3, _⟩ := h1 e0 (List.mem_of_getElem? f2)
    rw [f3] at k1
    obtain ⟨rfl, rfl⟩ := keyV_inj k1
    rw [k3]
    simp [Instr.lookup, run_underlying Tryd.underlying80, run_getObj_map hb, Tryd.law172.check w _ hl, f1, Result.andThen, ptrO, k2]
def gset (g : Int → Int → Option Nat) (m s : Int) (o : Option Nat) : Int → Int → Option Nat := fun m' s' => if m' = m ∧ s' = s then o else g m' s'
/-- 'm[k] = f' at a key that is not there: the entry made, then filled. -/
theorem FMap.entry (h : FMap w b g) (m s : Int) (hm : 0 ≤ m ∧ m < 100) (hs : 0 ≤ s ∧ s < 4294967296) (hg : g m s = none) (fb : Nat) :
    ∃ w1 st w2, (Instr.mapEntry 80 (.map (some b)) (keyV m s)).run Tryd.prog w = .ok (.tuple #[.pointer none, st]) w1 ∧
      (Instr.entryStore 80 (.map (some b)) st (.pointer (some ⟨fb, 0, none⟩))).run Tryd.prog w1 = .ok () w2 ∧ FMap w2 b (gset g m s (some fb)) ∧ ∃ o, w2 = putO w b o := by
  have hlt := h.lt
  obtain ⟨es, c, hb, h1, h2, h3⟩ := h.out
  obtain ⟨l, hl⟩ := key172 m s hm hs
  have hz : (zeroValue 78).run Tryd.prog w = .ok (.pointer none) w := by kernel_rfl
  have f2 : ∀ e ∈ es.toList, e.key ≠ keyV m s := fun e he hk => by
    obtain ⟨m', s', fb, _, _, k1, k2, k3, _⟩ := h1 e he
    rw [hk] at k1
    obtain ⟨rfl, rfl⟩ := keyV_inj k1
    rw [hg] at k3; cases k3
  have f1 : (Instr.findKey 172 (keyV m s) es.toList).run Tryd.prog w = .ok none w := by
    rcases Tryd.law172.find w hl es.toList (FMap.keys h1) with ⟨f1, _⟩ | ⟨j, e0, _, f3, f4⟩
    · exact f1
    · exact absurd f4 (f2 e0 (List.mem_of_getElem? f3))
  have hb1 : (putO w b (.map (es.push ⟨keyV m s, .pointer none, c⟩) (c + 1))).heap[b]? = some (.map (es.push ⟨keyV m s, .pointer none, c⟩) (c + 1)) := by simp [putO, hlt]
  have hidx : (es.push ⟨keyV m s, .pointer none, c⟩).findIdx? (fun e => ((e.born : Nat) : Int) == ((c : Nat) : Int)) = some es.size := by
    rw [Array.findIdx?_push]
    have : es.findIdx? (fun e => ((e.born : Nat) : Int) == ((c : Nat) : Int)) = none := by
      rw [Array.findIdx?_eq_none_iff]
      intro x hx
      obtain ⟨_, _, _, _, _, _, _, _, hlt'⟩ := h1 x (by simpa using hx)
      simp; omega
    rw [this]; simp
  have hmod : (es.push ⟨keyV m s, .pointer none, c⟩).modify es.size (fun e => { e with val := .pointer (some ⟨fb, 0, none⟩) }) = es.push ⟨keyV m s, .pointer (some ⟨fb, 0, none⟩), c⟩ := by
    apply Array.ext_getElem?
    intro i
    rw [Array.getElem?_modify, Array.getElem?_push, Array.getElem?_push]
    by_cases e : es.size = i
    · subst e; simp
    · simp [e, Ne.symm e]
  refine ⟨putO w b (.map (es.push ⟨keyV m s, .pointer none, c⟩) (c + 1)), goInt c, putO w b (.map (es.push ⟨keyV m s, .pointer (some ⟨fb, 0, none⟩), c⟩) (c + 1)), ?_, ?_, ?_, _, rfl⟩
  · simp [Instr.mapEntry, run_underlying Tryd.underlying80, run_getObj_map hb, Tryd.law172.check w _ hl, f1, hz, Result.andThen, setObj, Sem.run, hb, putO]
  · simp only [Instr.entryStore, Sem.run_bind, run_getObj_map hb1, Result.andThen_ok, asInt, asIntOf, goInt, Sem.run_pure, hidx, hmod]
    simp [setObj, Sem.run, putO, hlt]
  · refine ⟨es.push ⟨keyV m s, .pointer (some ⟨fb, 0, none⟩), c⟩, c + 1, by simp [putO, hlt], ?_, ?_, ?_⟩
    · intro e he
      rw [Array.toList_push, List.mem_append, List.mem_singleton] at he
      rcases he with he | rfl
      · obtain ⟨m', s', fb', a1, a2, k1, k2, k3, k4⟩ := h1 e he
        refine ⟨m', s', fb', a1, a2, k1, k2, ?_, by omega⟩
        unfold gset
        rw [if_neg, k3]
        rintro ⟨rfl, rfl⟩
        rw [hg] at k3; cases k3
      · exact ⟨m, s, fb, hm, hs, rfl, rfl, by simp [gset], by simp⟩
    · rw [Array.toList_push, List.pairwise_append]
      exact ⟨h2, by simp, fun x hx y hy => by rw [List.mem_singleton] at hy; subst hy; exact f2 x hx⟩
    · intro m' s' fb' hg'
      rw [Array.toList_push]
      unfold gset at hg'
      split at hg'
      · rename_i e; obtain ⟨rfl, rfl⟩ := e
        exact ⟨_, List.mem_append_right _ (List.mem_singleton.2 rfl), rfl⟩
      · obtain ⟨e, he, hk⟩ := h3 m' s' fb' hg'
        exact ⟨e, List.mem_append_left _ he, hk⟩
theorem mem_eraseIdx_ne {α : Type} {l : List α} {j : Nat} {x e0 : α} (hx : x ∈ l) (hj : l[j]? = some e0) (hne : x ≠ e0) : x ∈ l.eraseIdx j := by
  obtain ⟨i, hi⟩ := List.mem_iff_getElem?.1 hx
  refine List.mem_eraseIdx_iff_getElem?.2 ⟨i, ?_, hi⟩
  rintro rfl
  rw [hi] at hj; cases hj; exact hne rfl
/-- 'delete(m, k)' at a key that is there. -/
theorem FMap.delete (h : FMap w b g) (m s : Int) (hm : 0 ≤ m ∧ m < 100) (hs : 0 ≤ s ∧ s < 4294967296) (fb : Nat) (hg : g m s = some fb) (ty : TypeId) :
    ∃ w2, (Builtin.delete_ #[80, 172] ty #[.map (some b), keyV m s]).run Tryd.prog w = .ok (.tuple #[]) w2 ∧ FMap w2 b (gset g m s none) ∧ ∃ o, w2 = putO w b o := by
  have hlt := h.lt
  obtain ⟨es, c, hb, h1, h2, h3⟩ := h.out
  obtain ⟨l, hl⟩ := key172 m s hm hs
  rcases Tryd.law172.find w hl es.toList (FMap.keys h1) with ⟨f1, f2⟩ | ⟨j, e0, f1, f2, f3⟩
  · obtain ⟨e, he, hk⟩ := h3 m s fb hg; exact absurd hk (f2 e he)
  · have hjs : j < es.size := by simpa using (List.getElem?_eq_some_iff.1 f2).1
    have hsub : (es.eraseIdxIfInBounds j).toList = es.toList.eraseIdx j := by
      unfold Array.eraseIdxIfInBounds
      rw [dif_pos hjs]
      simp
    have hkne : ∀ x ∈ es.toList.eraseIdx j, x.key ≠ keyV m s := by
      intro x hx hk
      obtain ⟨i, hij, hi⟩ := List.mem_eraseIdx_iff_getElem?.1 hx
      obtain ⟨hi', ei⟩ := List.getElem?_eq_some_iff.1 hi
      obtain ⟨hj', ej⟩ := List.getElem?_eq_some_iff.1 f2
      rcases Nat.lt_or_gt_of_ne hij with hh | hh
      · exact List.pairwise_iff_getElem.1 h2 i j hi' hj' hh (by rw [ei, ej, f3, hk])
      · exact List.pairwise_iff_getElem.1 h2 j i hj' hi' hh (by rw [ei, ej, f3, hk])
    refine ⟨putO w b (.map (es.eraseIdxIfInBounds j) c), ?_, ?_, _, rfl⟩
    · simp [Builtin.delete_, run_underlying Tryd.underlying80, run_getObj_map hb, Tryd.law172.check w _ hl, f1, setObj, Sem.run, hb, Result.andThen, putO]
    · refine ⟨es.eraseIdxIfInBounds j, c, by simp [putO, hlt], ?_, ?_, ?_⟩
      · intro e he
        rw [hsub] at he
        obtain ⟨m', s', fb', a1, a2, k1, k2, k3, k4⟩ := h1 e ((List.eraseIdx_sublist _ _).subset he)
        refine ⟨m', s', fb', a1, a2, k1, k2, ?_, k4⟩
        unfold gset
        rw [if_neg, k3]
        rintro ⟨rfl, rfl⟩
        exact hkne e he k1
      · rw [hsub]; exact h2.sublist (List.eraseIdx_sublist _ _)
      · intro m' s' fb' hg'
        unfold gset at hg'
        split at hg'
        · cases hg'
        · rename_i hne
          obtain ⟨e, he, hk⟩ := h3 m' s' fb' hg'
          refine ⟨e, ?_, hk⟩
          rw [hsub]
          refine mem_eraseIdx_ne he f2 ?_
          rintro rfl
          rw [f3] at hk
          obtain ⟨rfl, rfl⟩ := keyV_inj hk
          exact hne ⟨rfl, rfl⟩
/-- 'len(m)': nothing there, and so 0. -/
theorem FMap.empty (h : FMap w b g) (hg : ∀ m s, g m s = none) : ∃ c, w.heap[b]? = some (.map #[] c) := by
  obtain ⟨es, c, hb, h1, h2, h3⟩ := h.out
  have : es = #[] := by
    apply Array.eq_empty_of_size_eq_zero
    cases hs : es.toList with
    | nil => simpa using congrArg List.length hs
    | cons e r =>
      obtain ⟨m, s, fb, _, _, _, _, k, _⟩ := h1 e (by rw [hs]; simp)
      rw [hg] at k; cases k
  subst this
  exact ⟨c, hb⟩
end
end Go.Proofs.Qxb6500750aDoor
