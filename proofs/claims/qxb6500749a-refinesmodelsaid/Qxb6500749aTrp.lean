import Derived.Test.Qxb6500749aAlu
namespace Go.Proofs.Qxb6500749a
open Go.RowKit
attribute [local go_sem] put_size put_cell_same put_cell_ne put_frozen_same put_frozen_ne put_setCell_same put_setCell_ne put_drew
attribute [local go_sem] drewN_setCell drewN_alloc drewN_put
/-! ### Branches; what a copy of the core turns -/
def takF (op a b : Int) : Bool := if op = 19 then a == b else if op = 20 then a != b else decide (wrap32 a < wrap32 b)
theorem taken_any (op a b : Int) (ho : op = 19 ∨ op = 20 ∨ op = 21) (w : World) :
    Calls Try.prog 88 #[.int .u8 op, .int .u32 a, .int .u32 b] w fun e w' => e = .returned (.bool (takF op a b)) ∧ w' = w := by
  rcases ho with rfl | rfl | rfl
  · have hr : Hid (takF 19 a b = (a == b)) := rfl
    obtain ⟨t, ht⟩ : ∃ t, (a == b) = t := ⟨_, rfl⟩
    rw [hr.out, ht]
    clear hr
    go_enter Try.func88, Try.ntmps88
    go_wp2_with fail
    go_ret
    exact ⟨rfl, rfl⟩
  · have hr : Hid (takF 20 a b = (a != b)) := rfl
    obtain ⟨t, ht⟩ : ∃ t, (a != b) = t := ⟨_, rfl⟩
    rw [hr.out, ht]
    clear hr
    go_enter Try.func88, Try.ntmps88
    go_wp2_with fail
    go_ret
    exact ⟨rfl, rfl⟩
  · have hr : Hid (takF 21 a b = decide (wrap32 a < wrap32 b)) := rfl
    obtain ⟨t, ht⟩ : ∃ t, decide (wrap32 a < wrap32 b) = t := ⟨_, rfl⟩
    rw [hr.out, ht]
    clear hr
    go_enter Try.func88, Try.ntmps88
    go_wp2_with fail
    go_ret
    exact ⟨rfl, rfl⟩
/-- Only the cells' block turned, among those that were there. -/
structure Tn (w w' : World) (cb : Nat) (K : Nat → Int) : Prop where
  os : w'.os = w.os
  tape : w'.tape = w.tape
  output : w'.output = w.output
  size : w.heap.size ≤ w'.heap.size
  block : ∀ k, k < w.heap.size → k ≠ cb → w'.heap[k]? = w.heap[k]?
  cel : Blk w' cb (encK K) 30
theorem Tn.of_put {w w0 : World} {cb : Nat} (hb : Below w.heap.size w w0) (hc : cb < w.heap.size) (K : Nat → Int) : Tn w (put w0 cb (encK K) 30) cb K :=
  ⟨hb.os, hb.tape, hb.output, by rw [put_size]; exact hb.size, fun k hk hne => (put_heap_ne _ _ _ _ _ hne).trans (hb.block k hk), Blk.put_same (by have := hb.size; omega)⟩
theorem Tn.of_below {w w' : World} {cb : Nat} {K : Nat → Int} (hb : Below w.heap.size w w') (h : Blk w cb (encK K) 30) : Tn w w' cb K :=
  ⟨hb.os, hb.tape, hb.output, hb.size, fun k hk _ => hb.block k hk, (hb.block _ h.lt).trans h⟩
theorem Tn.trans {w w1 w2 : World} {cb : Nat} {K K2 : Nat → Int} (h : Tn w w1 cb K) (k : Tn w1 w2 cb K2) : Tn w w2 cb K2 :=
  ⟨k.os.trans h.os, k.tape.trans h.tape, k.output.trans h.output, Nat.le_trans h.size k.size, fun b hb hne => (k.block b (Nat.lt_of_lt_of_le hb h.size) hne).trans (h.block b hb hne), k.cel⟩
theorem Tn.below {w w1 w2 : World} {cb : Nat} {K : Nat → Int} (h : Tn w w1 cb K) (hc : cb < w.heap.size) (k : Below w.heap.size w1 w2) : Tn w w2 cb K :=
  ⟨k.os.trans h.os, k.tape.trans h.tape, k.output.trans h.output, Nat.le_trans h.size k.size, fun b hb hne => (k.block b hb).trans (h.block b hb hne), (k.block _ hc).trans h.cel⟩
theorem BR.tn {w w' : World} {bb cb : Nat} {fv : Value} {B B' : BD} (h : BR w bb cb fv B) (ht : Tn w w' cb B'.c) (e1 : B'.fs = B.fs) (e2 : B'.now = B.now) : BR w' bb cb fv B' := by
  have hbc : bb ≠ cb := h.blk.neT h.cel (by decide)
  refine ⟨?_, ht.cel, ?_, by rw [e1]; exact h.ok, by rw [e1]; exact h.len, by rw [e2]; exact h.now⟩
  · rw [e2]; exact (ht.block _ h.blk.lt hbc).trans h.blk
  · rw [e1]; exact h.sl.same fun k hk => ht.block k (h.sl.lt k hk) (h.cel.sl_ne (by decide) h.sl k hk)
theorem CR.tn {w w' : World} {pb o bb base cb : Nat} {pv : Value} {K : Nat → Int} (h : CR w pb o bb base pv) (ht : Tn w w' cb K) (hne : pb ≠ cb) : CR w' pb o bb base pv := by
  have hl := World.block_lt_of_cell? _ _ h.c0
  have e := ht.block pb hl hne
  refine ⟨?_, ?_, ?_⟩
  · have := h.c0; simp only [World.cell?] at this ⊢; rw [e]; exact this
  · have := h.c1; simp only [World.cell?] at this ⊢; rw [e]; exact this
  · have := h.c2; simp only [World.cell?] at this ⊢; rw [e]; exact this
/-- What a copy drives outward. -/
structure BU where
  c : Int
  a : Int
  d : Int
def buV (b : BU) : Array Value := #[.int .u32 b.c, .int .u32 b.a, .int .u32 b.d]
theorem size49 : (Try.prog.info? 49).map (·.size) = some 3 := by kernel_rfl
set_option maxRecDepth 100000 in
set_option maxHeartbeats 2000000 in
theorem trap_any (pb o bb cb base : Nat) (hb : base ≤ 18) (fv pv : Value) (B : BD) (w : World) (hc : CR w pb o bb base pv) (h : BR w bb cb fv B) :
    Calls Try.prog 82 #[.pointer (some ⟨pb, o, none⟩)] w fun e w' => e = .returned (.agg (buV ⟨8, 0, 0⟩)) ∧ Tn w w' cb (B.set (base + 17) 3).c := by
  obtain ⟨W, hW⟩ : ∃ W, w.alloc (.cells #[.int .u32 0, .int .u32 0, .int .u32 0] 49) = W := ⟨_, rfl⟩
  have hbel : Below w.heap.size w W := by rw [← hW]; exact (Below.refl _ _).alloc (Nat.le_refl _) _
  have hbn : Blk W w.heap.size #[.int .u32 0, .int .u32 0, .int .u32 0] 49 := by rw [← hW]; exact Blk.new _ _ _
  have hc1 : CR W pb o bb base pv := by rw [← hW]; exact ⟨ca1 _ _ _ _ hc.c0, ca1 _ _ _ _ hc.c1, ca1 _ _ _ _ hc.c2⟩
  have hB1 := h.below hbel
  have HS := hid_of (setMode_any pb o bb cb base hb fv pv B 3 W hc1 hB1)
  have HBN := hid_of hbn
  have HBE := hid_of hbel
  have hcl := h.cel.lt
  clear hc h hbn hbel hc1 hB1
  go_enter Try.func82, Try.ntmps82
  go_upto_region 1 with fail
  clear hW
  refine wp_region_list ?_
  go_wp2_with fail
  refine HS.out.mono ?_
  rintro e w1 ⟨rfl, w0, hb0, hw1⟩
  have hsz : W.heap.size ≤ w0.heap.size := hb0.size
  have hnb : w.heap.size ≠ cb := by omega
  have hbn1 : Blk w1 w.heap.size #[.int .u32 0, .int .u32 0, .int .u32 0] 49 := by
    rw [hw1]; exact (put_heap_ne _ _ _ _ _ hnb).trans ((hb0.block _ HBN.out.lt).trans HBN.out)
  have htn : Tn w w1 cb (B.set (base + 17) 3).c := by
    rw [hw1]
    have h1 : Below w.heap.size w w0 := HBE.out.trans (hb0.mono HBE.out.size)
    exact Tn.of_put h1 hcl _
  have HTN := hid_of htn
  obtain ⟨w2, hw2, hl2⟩ := hbn1.out
  have HBL : Hid (Below w.heap.size w1 (put w2 w.heap.size #[.int .u32 8, .int .u32 0, .int .u32 0] 49)) := by
    have h9 := Below.put (B := w.heap.size) (Below.refl w.heap.size w1) (Nat.le_refl _) #[.int .u32 8, .int .u32 0, .int .u32 0] 49
    rw [hw2, put_put] at h9
    rw [hw2]
    exact h9
  clear hw1 hb0 hbn1 htn HS HBN HBE
  subst hw2
  go_wp2_with fail
  exact bodyPost_ret (v := .agg (buV ⟨8, 0, 0⟩)) (results_cell_row (by rfl) _ _ w.heap.size 49 _ (0, 0) _ (by rfl) (Blk.put_same hl2) Try.underlying49 rfl (by rw [size49]; rfl)) rfl ⟨rfl, HTN.out.below hcl HBL.out⟩
end Go.Proofs.Qxb6500749a
