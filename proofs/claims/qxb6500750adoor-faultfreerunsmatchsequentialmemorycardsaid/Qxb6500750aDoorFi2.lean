import Derived.Test.Qxb6500750aDoorFi
namespace Go.Proofs.Qxb6500750aDoor
open Go.RowKit
/-! ### The law's variables turned -/
theorem Sl.cast {w : World} {v : Value} {T : TypeId} {es n n' : Nat} {xs xs' : List Value} (h : Sl w v T es n xs) (e1 : n = n') (e2 : xs = xs') : Sl w v T es n' xs' := by subst e1; subst e2; exact h
section
variable {own own' : Nat → Nat} {S : Nat → Prop} {w w' : World} {L : FB} {av ev : Nat → Value} {σ : SS} {rt : Nat → Int} {acc : Nat → List Req} {exp : Nat → List Ret} {mem : Int → Int}
theorem FI.alter (h : FI own w L av ev σ rt acc exp mem) (hx : Ext own own' S w w') (h9 : ∀ k, k ≤ 9 → ¬ S k) {av' ev' : Nat → Value} {rt' : Nat → Int} {acc' : Nat → List Req} {exp' : Nat → List Ret} {mem' : Int → Int}
    (ab : Blk w' L.ab (row 3 av') 73) (eb : Blk w' L.eb (row 3 ev') 89) (tb : Blk w' L.tb (row 3 fun m => .int .i64 (rt' m)) 74) (mm : KMap w' L.mm mem')
    (sa : ∀ m, m < 3 → Sl w' (av' m) 91 3 (acc' m).length ((acc' m).flatMap reqRow)) (se : ∀ m, m < 3 → Sl w' (ev' m) 38 6 (exp' m).length ((exp' m).flatMap retL))
    (adr : ∀ m, m < 3 → ∀ r ∈ acc' m, 0 ≤ r.ad ∧ r.ad < 4294967296) (oav : ∀ m, m < 3 → ∀ k, (av' m).ownBlock = some k → own' k = 11 + m) (oev : ∀ m, m < 3 → ∀ k, (ev' m).ownBlock = some k → own' k = 21 + m) :
    FI own' w' L av' ev' σ rt' acc' exp' mem' where
  rr := h.rr.ext hx (fun k hk => h9 k (by omega))
  glb := h.glb.ext hx (h9 9 (by omega))
  rb := h.rb.ext hx (by rw [h.orb]; exact h9 8 (by omega))
  mb := h.mb.ext hx (by rw [h.omb]; exact h9 8 (by omega))
  ab := ab
  eb := eb
  tb := tb
  mm := mm
  sa := sa
  se := se
  adr := adr
  orb := (hx.keep _ h.rb.lt).trans h.orb
  omb := (hx.keep _ h.mb.lt).trans h.omb
  oab := (hx.keep _ h.ab.lt).trans h.oab
  oeb := (hx.keep _ h.eb.lt).trans h.oeb
  otb := (hx.keep _ h.tb.lt).trans h.otb
  omm := (hx.keep _ h.mm.lt).trans h.omm
  oav := oav
  oev := oev
theorem row3_upd (f : Nat → Value) (m : Nat) (v : Value) : (row 3 f).setIfInBounds m v = row 3 (upd f m v) := row_set _ _ _ _ _ fun j _ => by unfold upd; rfl
/-- A request accepted. -/
theorem FI.taken (h : FI own w L av ev σ rt acc exp mem) {m : Nat} (hm : m < 3) (r : Req) (hr : 0 ≤ r.ad ∧ r.ad < 4294967296) {v : Value} {w3 : World} (hsl : Sl w3 v 91 3 ((acc m).length + 1) ((acc m).flatMap reqRow ++ reqRow r))
    (o1 : w3.os = w.os) (o2 : w3.tape = w.tape) (o3 : w3.output = w.output) (o4 : w.heap.size ≤ w3.heap.size) (hblk : ∀ k, k < w.heap.size → (av m).ownBlock ≠ some k → w3.heap[k]? = w.heap[k]?) (hnew : ∀ k, v.ownBlock = some k → (av m).ownBlock = some k ∨ w.heap.size ≤ k) :
    FI (mark own w.heap.size (11 + m)) (put w3 L.ab (row 3 (upd av m v)) 73) L (upd av m v) ev σ rt (upd acc m (acc m ++ [r])) exp mem ∧ Ext own (mark own w.heap.size (11 + m)) SF w (put w3 L.ab (row 3 (upd av m v)) 73) := by
  have hx : Ext own (mark own w.heap.size (11 + m)) (fun k => k = 10 ∨ k = 11 + m) w (put w3 L.ab (row 3 (upd av m v)) 73) := by
    refine ⟨o1, o2, o3, by rw [put_size]; exact o4, fun k hk => mark_lt hk, fun k hk hs => ?_⟩
    rw [put_heap_ne _ _ _ _ _ (fun e => hs (by rw [e, h.oab]; exact .inl rfl))]
    exact hblk k hk (fun e => hs (.inr (h.oav m hm k e)))
  have hne : ∀ k, v.ownBlock = some k → k ≠ L.ab := fun k hk e => by
    subst e
    rcases hnew _ hk with h1 | h1
    · have := h.oav m hm _ h1; rw [h.oab] at this; omega
    · have := h.ab.lt; omega
  refine ⟨h.alter hx (fun k hk hs => by omega) (Blk.put_same (Nat.lt_of_lt_of_le h.ab.lt o4)) (h.eb.ext hx (by rw [h.oeb]; omega)) (h.tb.ext hx (by rw [h.otb]; omega)) (h.mm.same (hx.block _ h.mm.lt (by rw [h.omm]; omega))) (fun m' hm' => ?_) (fun m' hm' => ?_) (fun m' hm' r' hr' => ?_) (fun m' hm' k hk => ?_) (fun m' hm' k hk => ?_), hx.mono (fun k hk => .inr (.inl (by omega)))⟩
  · by_cases e : m' = m
    · subst e
      rw [upd_same, upd_same, List.length_append, List.flatMap_append]
      refine (hsl.same (fun k hk => put_heap_ne _ _ _ _ _ (hne k hk))).cast rfl ?_
      simp
    · rw [upd_ne _ _ _ _ e, upd_ne _ _ _ _ e]
      exact (h.sa m' hm').same fun k hk => hx.block k ((h.sa m' hm').lt k hk) (by rw [h.oav m' hm' k hk]; omega)
  · exact (h.se m' hm').same fun k hk => hx.block k ((h.se m' hm').lt k hk) (by rw [h.oev m' hm' k hk]; omega)
  · by_cases e : m' = m
    · subst e
      rw [upd_same] at hr'
      rcases List.mem_append.1 hr' with h5 | h5
      · exact h.adr m' hm' r' h5
      · rw [List.mem_singleton.1 h5]; exact hr
    · rw [upd_ne _ _ _ _ e] at hr'; exact h.adr m' hm' r' hr'
  · by_cases e : m' = m
    · subst e
      rw [upd_same] at hk
      rcases hnew k hk with h5 | h5
      · rw [mark_lt ((h.sa m' hm').lt k h5)]; exact h.oav m' hm' k h5
      · exact mark_ge h5
    · rw [upd_ne _ _ _ _ e] at hk
      rw [mark_lt ((h.sa m' hm').lt k hk)]; exact h.oav m' hm' k hk
  · rw [mark_lt ((h.se m' hm').lt k hk)]; exact h.oev m' hm' k hk
/-- An expectation more. -/
theorem FI.expected (h : FI own w L av ev σ rt acc exp mem) {m : Nat} (hm : m < 3) (r : Ret) {v : Value} {w3 : World} (hsl : Sl w3 v 38 6 ((exp m).length + 1) ((exp m).flatMap retL ++ retL r))
    (o1 : w3.os = w.os) (o2 : w3.tape = w.tape) (o3 : w3.output = w.output) (o4 : w.heap.size ≤ w3.heap.size) (hblk : ∀ k, k < w.heap.size → (ev m).ownBlock ≠ some k → w3.heap[k]? = w.heap[k]?) (hnew : ∀ k, v.ownBlock = some k → (ev m).ownBlock = some k ∨ w.heap.size ≤ k) :
    FI (mark own w.heap.size (21 + m)) (put w3 L.eb (row 3 (upd ev m v)) 89) L av (upd ev m v) σ rt acc (upd exp m (exp m ++ [r])) mem ∧ Ext own (mark own w.heap.size (21 + m)) SF w (put w3 L.eb (row 3 (upd ev m v)) 89) := by
  have hx : Ext own (mark own w.heap.size (21 + m)) (fun k => k = 20 ∨ k = 21 + m) w (put w3 L.eb (row 3 (upd ev m v)) 89) := by
    refine ⟨o1, o2, o3, by rw [put_size]; exact o4, fun k hk => mark_lt hk, fun k hk hs => ?_⟩
    rw [put_heap_ne _ _ _ _ _ (fun e => hs (by rw [e, h.oeb]; exact .inl rfl))]
    exact hblk k hk (fun e => hs (.inr (h.oev m hm k e)))
  have hne : ∀ k, v.ownBlock = some k → k ≠ L.eb := fun k hk e => by
    subst e
    rcases hnew _ hk with h1 | h1
    · have := h.oev m hm _ h1; rw [h.oeb] at this; omega
    · have := h.eb.lt; omega
  refine ⟨h.alter hx (fun k hk hs => by omega) (h.ab.ext hx (by rw [h.oab]; omega)) (Blk.put_same (Nat.lt_of_lt_of_le h.eb.lt o4)) (h.tb.ext hx (by rw [h.otb]; omega)) (h.mm.same (hx.block _ h.mm.lt (by rw [h.omm]; omega))) (fun m' hm' => ?_) (fun m' hm' => ?_) h.adr (fun m' hm' k hk => ?_) (fun m' hm' k hk => ?_), hx.mono (fun k hk => .inr (.inl (by omega)))⟩
  · exact (h.sa m' hm').same fun k hk => hx.block k ((h.sa m' hm').lt k hk) (by rw [h.oav m' hm' k hk]; omega)
  · by_cases e : m' = m
    · subst e
      rw [upd_same, upd_same, List.length_append, List.flatMap_append]
      refine (hsl.same (fun k hk => put_heap_ne _ _ _ _ _ (hne k hk))).cast rfl ?_
      simp
    · rw [upd_ne _ _ _ _ e, upd_ne _ _ _ _ e]
      exact (h.se m' hm').same fun k hk => hx.block k ((h.se m' hm').lt k hk) (by rw [h.oev m' hm' k hk]; omega)
  · rw [mark_lt ((h.sa m' hm').lt k hk)]; exact h.oav m' hm' k hk
  · by_cases e : m' = m
    · subst e
      rw [upd_same] at hk
      rcases hnew k hk with h5 | h5
      · rw [mark_lt ((h.se m' hm').lt k h5)]; exact h.oev m' hm' k h5
      · exact mark_ge h5
    · rw [upd_ne _ _ _ _ e] at hk
      rw [mark_lt ((h.se m' hm').lt k hk)]; exact h.oev m' hm' k hk
/-- The memory written. -/
theorem FI.stored (h : FI own w L av ev σ rt acc exp mem) {o : Obj} {mem' : Int → Int} (hk : KMap (putO w L.mm o) L.mm mem') :
    FI own (putO w L.mm o) L av ev σ rt acc exp mem' ∧ Ext own own SF w (putO w L.mm o) := by
  have hsz : (putO w L.mm o).heap.size = w.heap.size := by simp [putO]
  have hx : Ext own own (fun k => k = 14) w (putO w L.mm o) := ⟨rfl, rfl, rfl, by rw [hsz]; exact Nat.le_refl _, fun _ _ => rfl, fun k _ hs => putO_heap_ne _ _ _ _ (fun e => hs (by rw [e]; exact h.omm))⟩
  refine ⟨h.alter hx (fun k hk hs => by omega) (h.ab.ext hx (by rw [h.oab]; omega)) (h.eb.ext hx (by rw [h.oeb]; omega)) (h.tb.ext hx (by rw [h.otb]; omega)) hk (fun m' hm' => ?_) (fun m' hm' => ?_) h.adr h.oav h.oev, hx.mono (fun k hk => .inr (.inl (by omega)))⟩
  · exact (h.sa m' hm').same fun k hk => hx.block k ((h.sa m' hm').lt k hk) (by rw [h.oav m' hm' k hk]; omega)
  · exact (h.se m' hm').same fun k hk => hx.block k ((h.se m' hm').lt k hk) (by rw [h.oev m' hm' k hk]; omega)
/-- An answer counted. -/
theorem FI.counted (h : FI own w L av ev σ rt acc exp mem) (m : Nat) (v : Int) :
    FI own (put w L.tb (row 3 fun j => .int .i64 (upd rt m v j)) 74) L av ev σ (upd rt m v) acc exp mem ∧ Ext own own SF w (put w L.tb (row 3 fun j => .int .i64 (upd rt m v j)) 74) := by
  have hx : Ext own own (fun k => k = 16) w (put w L.tb (row 3 fun j => .int .i64 (upd rt m v j)) 74) := Ext.put h.otb
  refine ⟨h.alter hx (fun k hk hs => by omega) (h.ab.ext hx (by rw [h.oab]; omega)) (h.eb.ext hx (by rw [h.oeb]; omega)) (Blk.put_same h.tb.lt) (h.mm.same (hx.block _ h.mm.lt (by rw [h.omm]; omega))) (fun m' hm' => ?_) (fun m' hm' => ?_) h.adr h.oav h.oev, hx.mono (fun k hk => .inr (.inl (by omega)))⟩
  · exact (h.sa m' hm').same fun k hk => hx.block k ((h.sa m' hm').lt k hk) (by rw [h.oav m' hm' k hk]; omega)
  · exact (h.se m' hm').same fun k hk => hx.block k ((h.se m' hm').lt k hk) (by rw [h.oev m' hm' k hk]; omega)
end
end Go.Proofs.Qxb6500750aDoor
