import Derived.Test.Qxb6500749aMs0
namespace Go.Proofs.Qxb6500749a
open Go.RowKit
/-! ### The machine's log grows -/
theorem pcne {w : World} {b b' o : Nat} {cs : Array Value} {T : TypeId} (h : b' ≠ b) : (put w b cs T).cell? ⟨b', o, none⟩ = w.cell? ⟨b', o, none⟩ := by
  simp [World.cell?, put_heap_ne w b b' cs T h]
section
variable {w0 W w2 w4 : World} {b mm : Nat} {pv gv gv' : Value} {prog : List Int} {M M' : IM}
theorem MR.acc (h : MR W b mm pv gv prog M) (hf : Fr (· = mm) W w2) (m' : Int → Int) (hm : MapB w2 mm m') : MR w2 b mm pv gv prog { M with m := m' } :=
  ⟨h.blk.fr hf (fun e => h.map.neB h.blk e.symm), h.prog.fr hf fun k hk e => Sl.ne_map h.map h.prog k hk e, hm, h.log.fr hf fun k hk e => Sl.ne_map h.map h.log k hk e⟩
theorem MR.push (h : MR W b mm pv gv prog M) (hgr : W.grownBy w4 gv.ownBlock) {t : TR} (hl : M'.log = M.log ++ [t]) (hm : M'.m = M.m) (hs : Sl w4 gv' 68 5 (M.log.length + 1) (M.log.flatMap trow ++ trow t)) :
    MR (put w4 b (mV pv mm M' gv') 46) b mm pv gv' prog M' ∧ Blk w4 b (mV pv mm M gv) 46 := by
  have nb : gv.ownBlock ≠ some b := fun e => h.blk.sl_ne (by decide) h.log b e rfl
  have nm : gv.ownBlock ≠ some mm := fun e => Sl.ne_map h.map h.log mm e rfl
  have hb4 : Blk w4 b (mV pv mm M gv) 46 := (hgr.block b h.blk.lt (Ne.symm nb)).trans h.blk
  have hm4 : MapB w4 mm M.m := h.map.same (hgr.block mm h.map.lt (Ne.symm nm))
  have hp4 : Sl w4 pv 30 1 prog.length (prow prog) := h.prog.same fun k hk => hgr.block k (h.prog.lt k hk) (fun e => Sl.ne_sl (by decide) h.prog h.log k hk e.symm)
  have hs' : Sl w4 gv' 68 5 M'.log.length (M'.log.flatMap trow) := by rw [hl]; exact hs.castM (by simp) (by simp)
  refine ⟨⟨Blk.put_same hb4.lt, hp4.same fun k hk => put_heap_ne _ _ _ _ _ (hb4.sl_ne (by decide) hp4 k hk), by rw [hm]; exact hm4.same (put_heap_ne _ _ _ _ _ (hm4.neB hb4)), hs'.same fun k hk => put_heap_ne _ _ _ _ _ (hb4.sl_ne (by decide) hs' k hk)⟩, hb4⟩
theorem Fr.grown {K : Nat → Prop} (f : Fr K w0 W) (hgr : W.grownBy w4 gv.ownBlock) (hk : ∀ k, k < w0.heap.size → gv.ownBlock = some k → K k) : Fr K w0 w4 :=
  ⟨hgr.os.trans f.os, hgr.tape.trans f.tape, hgr.output.trans f.output, Nat.le_trans f.size hgr.size, fun k hk1 hn => (hgr.block k (Nat.lt_of_lt_of_le hk1 f.size) (fun e => hn (hk k hk1 e.symm))).trans (f.block k hk1 hn)⟩
end
end Go.Proofs.Qxb6500749a
