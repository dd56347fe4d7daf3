import Derived.Test.Qxb6500750aDoorStep3
import Derived.Test.Qxb6500750aDoorAwa
import Derived.Test.Qxb6500750aDoorXInv2
import Derived.MapKept
namespace Go.Proofs.Qxb6500750aDoor
open Go.RowKit
open Go.MapKept (Stamped)
/-! ### The law without faults, in the world -/
/-- A map from words to words whose keys all name a slave: f. -/
structure KMap (w : World) (b : Nat) (f : Int → Int) : Prop where
  out : ∃ (es : Array MapEntry) (clock : Nat), w.heap[b]? = some (.map es clock) ∧ (∀ e ∈ es.toList, ∃ a d, e.key = .int .u32 a ∧ e.val = .int .u32 d ∧ f a = d ∧ dec a < 6 ∧ 0 ≤ a ∧ a < 4294967296) ∧ (∀ a, (∀ e ∈ es.toList, e.key ≠ .int .u32 a) → f a = 0) ∧ Stamped es clock
theorem KMap.new (w : World) : KMap (w.alloc (.map #[] 0)) w.heap.size (fun _ => 0) :=
  ⟨#[], 0, by show (w.heap.push _)[w.heap.size]? = _; simp, by simp, fun _ _ => rfl, Go.MapKept.stamped_empty 0⟩
theorem KMap.lt {w : World} {b : Nat} {f : Int → Int} (h : KMap w b f) : b < w.heap.size := by
  obtain ⟨es, c, hb, _⟩ := h.out; exact (Array.getElem?_eq_some_iff.1 hb).1
theorem KMap.same {w w' : World} {b : Nat} {f : Int → Int} (h : KMap w b f) (hs : w'.heap[b]? = w.heap[b]?) : KMap w' b f := by
  obtain ⟨es, c, hb, h2⟩ := h.out; exact ⟨es, c, hs.trans hb, h2⟩
theorem mget_key {es : List MapEntry} {f : Int → Int} (h1 : ∀ e ∈ es, ∃ a d, e.key = .int .u32 a ∧ e.val = .int .u32 d ∧ f a = d) (a : Int) (hne : ¬ ∀ e ∈ es, e.key ≠ .int .u32 a) : mget es a = f a := by
  induction es with
  | nil => exact absurd (fun e he => by cases he) hne
  | cons x l ih =>
    obtain ⟨a', d', k1, k2, k3⟩ := h1 x (by simp)
    unfold mget
    rw [k1, k2]
    by_cases e : a' = a
    · subst e
      rw [if_pos (by simp [keyIs]), k3]; rfl
    · rw [if_neg (by simp [keyIs, e])]
      refine ih (fun e he => h1 e (List.mem_cons_of_mem _ he)) (fun hall => hne fun e' he' => ?_)
      rcases List.mem_cons.1 he' with rfl | he'
      · rw [k1]; intro hc; injection hc with _ hc; exact e hc
      · exact hall e' he'
theorem KMap.mapB {w : World} {b : Nat} {f : Int → Int} (h : KMap w b f) : MapB w b f := by
  obtain ⟨es, c, hb, h1, h2, h3⟩ := h.out
  refine ⟨es, c, hb, fun e he => ?_, fun a => ?_⟩
  · obtain ⟨a, d, k1, k2, _⟩ := h1 e he; exact ⟨a, d, k1, k2⟩
  · by_cases hn : ∀ e ∈ es.toList, e.key ≠ .int .u32 a
    · rw [h2 a hn]
      rcases findNow_words .u32 a es.toList 0 (fun e he => by obtain ⟨a, d, k1, k2, _⟩ := h1 e he; exact ⟨a, d, k1, k2⟩) with ⟨_, k2, _⟩ | ⟨j, d, _, _, ⟨x, hx1, hx2⟩, _⟩
      · exact k2
      · exact absurd hx2 (hn x (List.mem_of_getElem? hx1))
    · exact mget_key (fun e he => by obtain ⟨a, d, k1, k2, k3, _⟩ := h1 e he; exact ⟨a, d, k1, k2, k3⟩) a hn
theorem keyIs_no {v : Value} {a : Int} (h : ∃ a', v = .int .u32 a') (hn : keyIs v a = false) : v ≠ .int .u32 a := by
  obtain ⟨a', rfl⟩ := h
  intro hc; injection hc with _ hc; subst hc; simp [keyIs] at hn
theorem KMap.update {P : Program} {t k e : TypeId} {w : World} {b : Nat} {f : Int → Int} (h : KMap w b f) (ht : P.underlying t = some (.map k e)) (hk : P.underlying k = some (.int .u32)) (a d : Int) (ha : dec a < 6) (ha0 : 0 ≤ a ∧ a < 4294967296) :
    ∃ o, (Instr.mapUpdate t (.map (some b)) (.int .u32 a) (.int .u32 d)).run P w = .ok () (putO w b o) ∧ KMap (putO w b o) b (fun x => if x = a then d else f x) := by
  have hlt := h.lt
  obtain ⟨es, c, hb, h1, h2, h3⟩ := h.out
  have hw : Words es.toList := fun e he => by obtain ⟨a, d, k1, k2, _⟩ := h1 e he; exact ⟨a, d, k1, k2⟩
  have hset : ∀ es' c', (setObj b (.map es' c')).run P w = .ok () (putO w b (.map es' c')) := fun es' c' => by
    simp [setObj, Sem.run, hb, putO]
  have hheap : ∀ es' c', (putO w b (.map es' c')).heap[b]? = some (.map es' c') := fun es' c' => by simp [putO, hlt]
  rcases findNow_words .u32 a es.toList 0 hw with ⟨g1, g2, g3⟩ | ⟨j, d0, g1, g2, ⟨x, hx1, hx2⟩, g4⟩
  · have hno : ∀ x ∈ es.toList, x.key ≠ .int .u32 a := fun x hx => keyIs_no (by obtain ⟨a', d', k1, _⟩ := h1 x hx; exact ⟨a', k1⟩) (g3 x hx)
    refine ⟨.map (es.push { key := .int .u32 a, val := .int .u32 d, born := c }) (c + 1), ?_, ⟨_, _, hheap _ _, fun y hy => ?_, fun y hy => ?_, Go.MapKept.stamped_push h3 hno⟩⟩
    · unfold Instr.mapUpdate
      simp only [Sem.run_bind, run_underlying ht, Result.andThen_ok, run_getObj_map hb, run_checkKey_int hk, run_findKey_int hk a _ _ g1]
      exact hset _ _
    · simp at hy
      rcases hy with hy | rfl
      · have hy' : y ∈ es.toList := by simpa using hy
        obtain ⟨a', d', k1, k2, k3, k4⟩ := h1 y hy'
        have hne : a' ≠ a := fun e => hno y hy' (by rw [k1, e])
        exact ⟨a', d', k1, k2, by rw [if_neg hne]; exact k3, k4⟩
      · exact ⟨a, d, rfl, rfl, if_pos rfl, ha, ha0⟩
    · have hne : y ≠ a := fun e => hy { key := .int .u32 a, val := .int .u32 d, born := c } (by simp) (by rw [e])
      rw [if_neg hne]
      exact h2 y (fun e he => hy e (by simp at he ⊢; exact .inl he))
  · have hjl : j < es.size := by simpa using (List.getElem?_eq_some_iff.1 hx1).1
    have hxj : es[j]? = some x := by simpa using hx1
    have hm : (es.modify j fun e => { e with key := .int .u32 a, val := .int .u32 d }).toList = es.toList.set j { x with key := .int .u32 a, val := .int .u32 d } := by
      apply List.ext_getElem?
      intro i
      simp only [Array.getElem?_toList, Array.getElem?_modify, List.getElem?_set]
      by_cases e : j = i
      · subst e
        have hx' : es[j] = x := (Array.getElem?_eq_some_iff.1 hxj).2
        simp [hjl, hx']
      · simp [e]
    have hpw := (Go.MapKept.stamped_iff es c).1 h3
    have hmap : ∀ {β : Type} (g : MapEntry → β), g { x with key := .int .u32 a, val := .int .u32 d } = g x → (es.toList.set j { x with key := .int .u32 a, val := .int .u32 d }).map g = es.toList.map g := fun g hg => by
      apply List.ext_getElem?
      intro i
      simp only [List.getElem?_map, List.getElem?_set]
      by_cases e : j = i
      · subst e
        rw [hx1]
        rw [if_pos rfl, if_pos (by simpa using hjl)]
        simp [hg]
      · simp [e]
    refine ⟨.map (es.modify j fun e => { e with key := .int .u32 a, val := .int .u32 d }) c, ?_, ⟨_, _, hheap _ _, fun y hy => ?_, fun y hy => ?_, ?_⟩⟩
    · unfold Instr.mapUpdate
      simp only [Sem.run_bind, run_underlying ht, Result.andThen_ok, run_getObj_map hb, run_checkKey_int hk, run_findKey_int hk a _ _ g1, Nat.zero_add, hxj, Option.map_some, Option.getD_some, hx2]
      have hks : (Instr.keyThatStays (.int .u32 a) (.int .u32 a)).run P w = .ok (.int .u32 a) w := by simp [Instr.keyThatStays, Instr.sameBits]
      simp only [hks, Result.andThen_ok]
      exact hset _ _
    · rw [hm] at hy
      obtain ⟨i, hi⟩ := List.getElem?_of_mem hy
      rw [List.getElem?_set] at hi
      by_cases e : j = i
      · subst e
        rw [if_pos rfl, if_pos (by simpa using hjl)] at hi
        have hi := (Option.some.inj hi).symm
        subst hi
        exact ⟨a, d, rfl, rfl, if_pos rfl, ha, ha0⟩
      · rw [if_neg e] at hi
        obtain ⟨a', d', k1, k2, k3, k4⟩ := h1 y (List.mem_of_getElem? hi)
        have hne : a' ≠ a := fun e' => by
          have hp := hpw.2.2
          have hxy : x.key = y.key := by rw [hx2, k1, e']
          have hjl' : j < es.toList.length := by simpa using hjl
          have hil := (List.getElem?_eq_some_iff.1 hi).1
          have hxe := (List.getElem?_eq_some_iff.1 hx1).2
          have hye := (List.getElem?_eq_some_iff.1 hi).2
          rw [List.pairwise_iff_getElem] at hp
          rcases Nat.lt_or_gt_of_ne e with hlt' | hlt'
          · exact hp j i hjl' hil hlt' (by rw [hxe, hye]; exact hxy)
          · exact hp i j hil hjl' hlt' (by rw [hxe, hye]; exact hxy.symm)
        exact ⟨a', d', k1, k2, by rw [if_neg hne]; exact k3, k4⟩
    · rw [hm] at hy
      have hne : y ≠ a := fun e => hy { x with key := .int .u32 a, val := .int .u32 d } (List.mem_of_getElem? (i := j) (by rw [List.getElem?_set, if_pos rfl, if_pos (by simpa using hjl)])) (by rw [e])
      rw [if_neg hne]
      refine h2 y (fun e he hc => ?_)
      obtain ⟨i, hi⟩ := List.getElem?_of_mem he
      by_cases e' : j = i
      · subst e'
        rw [hx1] at hi
        have := (Option.some.inj hi).symm
        subst this
        rw [hx2] at hc; injection hc with _ hc; exact hne hc.symm
      · exact hy e (List.mem_of_getElem? (i := i) (by rw [List.getElem?_set, if_neg e']; exact hi)) hc
    · rw [Go.MapKept.stamped_iff, hm]
      refine ⟨fun y hy => ?_, by rw [hmap (fun e => e.born) rfl]; exact hpw.2.1, ?_⟩
      · have : y.born ∈ (es.toList.set j { x with key := .int .u32 a, val := .int .u32 d }).map (fun e => e.born) := List.mem_map.2 ⟨y, hy, rfl⟩
        rw [hmap (fun e => e.born) rfl] at this
        obtain ⟨z, hz, hz2⟩ := List.mem_map.1 this
        rw [← hz2]; exact hpw.1 z hz
      · have hk' : ((es.toList.set j { x with key := .int .u32 a, val := .int .u32 d }).map (fun e => e.key)).Pairwise (fun x y => x ≠ y) := by
          rw [hmap (fun e => e.key) (by simp [hx2])]
          exact List.pairwise_map.2 hpw.2.2
        exact List.pairwise_map.1 hk'
end Go.Proofs.Qxb6500750aDoor
