import Derived.Test.Qxb6500749aExe
namespace Go.Proofs.Qxb6500749a
open Go.RowKit
attribute [local go_sem] put_size put_cell_same put_cell_ne put_frozen_same put_frozen_ne put_setCell_same put_setCell_ne put_drew
attribute [local go_sem] drewN_setCell drewN_alloc drewN_put
/-! ### A copy waits for the bus -/
structure YR (w w1 : World) (pb o bb cb base : Nat) (fv pv : Value) (rb : Nat) (rv : Array Value) (B : BD) : Prop where
  tn : Tn w w1 cb B.c
  br : BR w1 bb cb fv B
  cr : CR w1 pb o bb base pv
  hr : Blk w1 rb rv 49
  lr : w.heap.size ≤ rb
  hc : cb < w.heap.size
  hp : pb < w.heap.size
  pc : pb ≠ cb
section
variable {w w1 w2 : World} {pb o bb cb base : Nat} {fv pv : Value} {rb : Nat} {rv : Array Value} {B B' : BD}
theorem YR.below (h : YR w w1 pb o bb cb base fv pv rb rv B) (k : Below w1.heap.size w1 w2) : YR w w2 pb o bb cb base fv pv rb rv B :=
  ⟨h.tn.trans (Tn.of_below k h.tn.cel), h.br.below k, h.cr.tn (Tn.of_below k h.tn.cel) h.pc, (k.block _ h.hr.lt).trans h.hr, h.lr, h.hc, h.hp, h.pc⟩
theorem YR.tset (h : YR w w1 pb o bb cb base fv pv rb rv B) (ht : Tn w1 w2 cb B'.c) (e1 : B'.fs = B.fs) (e2 : B'.now = B.now) : YR w w2 pb o bb cb base fv pv rb rv B' := by
  have h1 := h.hc
  have h2 := h.lr
  exact ⟨h.tn.trans ht, h.br.tn ht e1 e2, h.cr.tn ht h.pc, (ht.block _ h.hr.lt (by omega)).trans h.hr, h.lr, h.hc, h.hp, h.pc⟩
theorem YR.set (h : YR w w1 pb o bb cb base fv pv rb rv B) (k : Below w1.heap.size w1 w2) (site : Nat) (v : Int) : YR w (put w2 cb (encK (B.set site v).c) 30) pb o bb cb base fv pv rb rv (B.set site v) :=
  h.tset (Tn.of_put k h.tn.cel.lt _) rfl rfl
theorem YR.ret (h : YR w w1 pb o bb cb base fv pv rb rv B) (rv' : Array Value) : Tn w (put w1 rb rv' 49) cb B.c :=
  h.tn.below h.hc ⟨rfl, rfl, rfl, by rw [put_size]; exact Nat.le_refl _, fun k hk => put_heap_ne _ _ _ _ _ (by have := h.lr; omega)⟩
end
structure INP where
  v : Bool
  e : Bool
  d : Int
def inpV (i : INP) : Array Value := #[.bool i.v, .bool i.e, .int .u32 i.d]
def awaitF (base : Nat) (mode : Int) (i : INP) (B : BD) : BD × BU :=
  if i.v = false then (B, zBU) else if i.e = true then (B.set (base + 17) 3, ⟨8, 0, 0⟩)
  else if (bits BinOp.and IntKind.u32 mode 4 != 0) = true then ((B.set (base + (mode / 16 % 16).toNat) i.d).set (base + 17) 0, zBU) else (B.set (base + 17) 0, zBU)
theorem yr_start {w : World} {pb o bb cb base : Nat} {fv pv : Value} {B : BD} (hc : CR w pb o bb base pv) (h : BR w bb cb fv B) (hpc : pb ≠ cb) (x : Obj) :
    YR w ((w.alloc x).alloc (.cells #[.int .u32 0, .int .u32 0, .int .u32 0] 49)) pb o bb cb base fv pv (w.heap.size + 1) #[.int .u32 0, .int .u32 0, .int .u32 0] B := by
  have b4 : Below w.heap.size w ((w.alloc x).alloc (.cells #[.int .u32 0, .int .u32 0, .int .u32 0] 49)) := ((Below.refl _ _).alloc (Nat.le_refl _) _).alloc (by simp) _
  have ho : Blk ((w.alloc x).alloc (.cells #[.int .u32 0, .int .u32 0, .int .u32 0] 49)) (w.heap.size + 1) #[.int .u32 0, .int .u32 0, .int .u32 0] 49 := by
    have := Blk.new (w.alloc x) #[.int .u32 0, .int .u32 0, .int .u32 0] 49
    simpa using this
  exact ⟨Tn.of_below b4 h.cel, h.below b4, hc.tn (Tn.of_below b4 h.cel) hpc, ho, by omega, h.cel.lt, World.block_lt_of_cell? _ _ hc.c0, hpc⟩
/-ARMS-/
set_option linter.unusedVariables false in
set_option maxRecDepth 100000 in
set_option maxHeartbeats 4000000 in
theorem await_n (pb o bb cb base : Nat) (hb : base ≤ 18) (fv pv : Value) (mode d : Int) (hm : W32 mode) (er : Bool) (B : BD) (w : World) (hc : CR w pb o bb base pv) (h : BR w bb cb fv B) (hpc : pb ≠ cb) :
    Calls Try.prog 76 #[.pointer (some ⟨pb, o, none⟩), .int .u32 mode, .agg (inpV ⟨false, er, d⟩)] w fun e w' => e = .returned (.agg (buV (awaitF base mode ⟨false, er, d⟩ B).2)) ∧ Tn w w' cb (awaitF base mode ⟨false, er, d⟩ B).1.c := by
  obtain ⟨W3, hW3⟩ : ∃ W3, (w.alloc (.cells #[.bool false, .bool er, .int .u32 d] 112)).alloc (.cells #[.int .u32 0, .int .u32 0, .int .u32 0] 49) = W3 := ⟨_, rfl⟩
  have hY : YR w W3 pb o bb cb base fv pv (w.heap.size + 1) #[.int .u32 0, .int .u32 0, .int .u32 0] B := by rw [← hW3]; exact yr_start hc h hpc _
  have hbx : Blk W3 w.heap.size #[.bool false, .bool er, .int .u32 d] 112 := by
    rw [← hW3]; exact (Below.heap_alloc _ _ _ (by simp)).trans (Blk.new w _ 112)
  have c0 : W3.cell? ⟨w.heap.size, 0, none⟩ = some (.bool false) := hbx.cell 0
  have c1 : W3.cell? ⟨w.heap.size, 1, none⟩ = some (.bool er) := hbx.cell 1
  have c2 : W3.cell? ⟨w.heap.size, 2, none⟩ = some (.int .u32 d) := hbx.cell 2
  have HY := hid_of hY
  clear hbx hY hc h hpc
  unfold inpV
  go_enter Try.func76, Try.ntmps76
  go_upto_region 1 with fail
  clear hW3
  go_upto_region 2 with fail
  obtain ⟨w9, hw9, hl9⟩ := HY.out.hr.out
  have HFIN : Hid (Tn w (put w9 (w.heap.size + 1) #[.int .u32 0, .int .u32 0, .int .u32 0] 49) cb (B).c) := by
    have := HY.out.ret #[.int .u32 0, .int .u32 0, .int .u32 0]
    rw [hw9, put_put] at this
    exact this
  clear HY
  subst hw9
  go_wp2_with fail
  exact bodyPost_ret (v := .agg #[.int .u32 0, .int .u32 0, .int .u32 0]) (results_cell_row (by rfl) _ _ (w.heap.size + 1) 49 _ (0, 0) _ (by rfl) (Blk.put_same hl9) Try.underlying49 rfl (by rw [size49]; rfl)) rfl ⟨rfl, HFIN.out⟩
set_option linter.unusedVariables false in
set_option maxRecDepth 100000 in
set_option maxHeartbeats 4000000 in
theorem await_e (pb o bb cb base : Nat) (hb : base ≤ 18) (fv pv : Value) (mode d : Int) (hm : W32 mode) (er : Bool) (B : BD) (w : World) (hc : CR w pb o bb base pv) (h : BR w bb cb fv B) (hpc : pb ≠ cb) :
    Calls Try.prog 76 #[.pointer (some ⟨pb, o, none⟩), .int .u32 mode, .agg (inpV ⟨true, true, d⟩)] w fun e w' => e = .returned (.agg (buV (awaitF base mode ⟨true, true, d⟩ B).2)) ∧ Tn w w' cb (awaitF base mode ⟨true, true, d⟩ B).1.c := by
  obtain ⟨W3, hW3⟩ : ∃ W3, (w.alloc (.cells #[.bool true, .bool true, .int .u32 d] 112)).alloc (.cells #[.int .u32 0, .int .u32 0, .int .u32 0] 49) = W3 := ⟨_, rfl⟩
  have hY : YR w W3 pb o bb cb base fv pv (w.heap.size + 1) #[.int .u32 0, .int .u32 0, .int .u32 0] B := by rw [← hW3]; exact yr_start hc h hpc _
  have hbx : Blk W3 w.heap.size #[.bool true, .bool true, .int .u32 d] 112 := by
    rw [← hW3]; exact (Below.heap_alloc _ _ _ (by simp)).trans (Blk.new w _ 112)
  have c0 : W3.cell? ⟨w.heap.size, 0, none⟩ = some (.bool true) := hbx.cell 0
  have c1 : W3.cell? ⟨w.heap.size, 1, none⟩ = some (.bool true) := hbx.cell 1
  have c2 : W3.cell? ⟨w.heap.size, 2, none⟩ = some (.int .u32 d) := hbx.cell 2
  have HY := hid_of hY
  clear hbx hY hc h hpc
  unfold inpV
  go_enter Try.func76, Try.ntmps76
  have HT := hid_of (trap_any pb o bb cb base hb fv pv B W3 HY.out.cr HY.out.br)
  go_wp2_with fail
  clear hW3
  refine HT.out.mono ?_
  rintro e v4 ⟨rfl, ht4⟩
  have HY4 : Hid (YR w v4 pb o bb cb base fv pv (w.heap.size + 1) #[.int .u32 0, .int .u32 0, .int .u32 0] (B.set (base + 17) 3)) := HY.out.tset ht4 rfl rfl
  clear ht4 HT HY
  unfold buV
  obtain ⟨w9, hw9, hl9⟩ := HY4.out.hr.out
  have HFIN : Hid (Tn w (put w9 (w.heap.size + 1) #[.int .u32 8, .int .u32 0, .int .u32 0] 49) cb (B.set (base + 17) 3).c) := by
    have := HY4.out.ret #[.int .u32 8, .int .u32 0, .int .u32 0]
    rw [hw9, put_put] at this
    exact this
  clear HY4
  subst hw9
  go_wp2_with fail
  exact bodyPost_ret (v := .agg #[.int .u32 8, .int .u32 0, .int .u32 0]) (results_cell_row (by rfl) _ _ (w.heap.size + 1) 49 _ (0, 0) _ (by rfl) (Blk.put_same hl9) Try.underlying49 rfl (by rw [size49]; rfl)) rfl ⟨rfl, HFIN.out⟩
set_option linter.unusedVariables false in
set_option maxRecDepth 100000 in
set_option maxHeartbeats 4000000 in
theorem await_l (pb o bb cb base : Nat) (hb : base ≤ 18) (fv pv : Value) (mode d : Int) (hm : W32 mode) (er : Bool) (B : BD) (w : World) (hc : CR w pb o bb base pv) (h : BR w bb cb fv B) (hpc : pb ≠ cb)
    (hl : (bits BinOp.and IntKind.u32 mode 4 != 0) = true) :
    Calls Try.prog 76 #[.pointer (some ⟨pb, o, none⟩), .int .u32 mode, .agg (inpV ⟨true, false, d⟩)] w fun e w' => e = .returned (.agg (buV (awaitF base mode ⟨true, false, d⟩ B).2)) ∧ Tn w w' cb (awaitF base mode ⟨true, false, d⟩ B).1.c := by
  obtain ⟨W3, hW3⟩ : ∃ W3, (w.alloc (.cells #[.bool true, .bool false, .int .u32 d] 112)).alloc (.cells #[.int .u32 0, .int .u32 0, .int .u32 0] 49) = W3 := ⟨_, rfl⟩
  have hY : YR w W3 pb o bb cb base fv pv (w.heap.size + 1) #[.int .u32 0, .int .u32 0, .int .u32 0] B := by rw [← hW3]; exact yr_start hc h hpc _
  have hbx : Blk W3 w.heap.size #[.bool true, .bool false, .int .u32 d] 112 := by
    rw [← hW3]; exact (Below.heap_alloc _ _ _ (by simp)).trans (Blk.new w _ 112)
  have c0 : W3.cell? ⟨w.heap.size, 0, none⟩ = some (.bool true) := hbx.cell 0
  have c1 : W3.cell? ⟨w.heap.size, 1, none⟩ = some (.bool false) := hbx.cell 1
  have c2 : W3.cell? ⟨w.heap.size, 2, none⟩ = some (.int .u32 d) := hbx.cell 2
  have HY := hid_of hY
  clear hbx hY hc h hpc
  unfold inpV
  have hsh : mode / 16 % 16 = ((mode / 16 % 16).toNat : Nat) := by have := hm.1; omega
  have hrd : (mode / 16 % 16).toNat < 16 := by omega
  have han := and_fifteen (mode / 16) (by have := hm.1; omega) (by have := hm.2; omega)
  rw [hsh] at han
  obtain ⟨rd, hrdE⟩ : ∃ rd, (mode / 16 % 16).toNat = rd := ⟨_, rfl⟩
  rw [hrdE] at han hrd
  have HE : Hid (awaitF base mode ⟨true, false, d⟩ B = ((B.set (base + rd) d).set (base + 17) 0, zBU)) := by
    unfold Hid awaitF
    rw [if_neg (by simp), if_neg (by simp), if_pos hl, hrdE]
  clear hsh hrdE
  go_enter Try.func76, Try.ntmps76
  have HS := hid_of (setReg_any pb o bb cb base rd hrd hb fv _ (B) (d) W3 HY.out.cr HY.out.br)
  go_wp2_with fail
  clear hW3
  refine HS.out.mono ?_
  rintro e v4 ⟨rfl, u4, hb4, hw4⟩
  have HY4 : Hid (YR w v4 pb o bb cb base fv pv (w.heap.size + 1) #[.int .u32 0, .int .u32 0, .int .u32 0] ((B).set (base + rd) (d))) := by
    rw [hw4]; exact HY.out.set hb4 _ _
  clear hb4 hw4 HS HY
  have HS := hid_of (setMode_any pb o bb cb base hb fv _ (B.set (base + rd) d) (0) v4 HY4.out.cr HY4.out.br)
  go_wp2_with fail
  refine HS.out.mono ?_
  rintro e v5 ⟨rfl, u5, hb5, hw5⟩
  have HY5 : Hid (YR w v5 pb o bb cb base fv pv (w.heap.size + 1) #[.int .u32 0, .int .u32 0, .int .u32 0] ((B.set (base + rd) d).set (base + 17) (0))) := by
    rw [hw5]; exact HY4.out.set hb5 _ _
  clear hb5 hw5 HS HY4
  obtain ⟨w9, hw9, hl9⟩ := HY5.out.hr.out
  have HFIN : Hid (Tn w (put w9 (w.heap.size + 1) #[.int .u32 0, .int .u32 0, .int .u32 0] 49) cb ((B.set (base + rd) d).set (base + 17) 0).c) := by
    have := HY5.out.ret #[.int .u32 0, .int .u32 0, .int .u32 0]
    rw [hw9, put_put] at this
    exact this
  clear HY5
  subst hw9
  go_wp2_with fail
  exact bodyPost_ret (v := .agg #[.int .u32 0, .int .u32 0, .int .u32 0]) (results_cell_row (by rfl) _ _ (w.heap.size + 1) 49 _ (0, 0) _ (by rfl) (Blk.put_same hl9) Try.underlying49 rfl (by rw [size49]; rfl)) rfl ⟨by rw [HE.out]; rfl, by rw [HE.out]; exact HFIN.out⟩
set_option linter.unusedVariables false in
set_option maxRecDepth 100000 in
set_option maxHeartbeats 4000000 in
theorem await_s (pb o bb cb base : Nat) (hb : base ≤ 18) (fv pv : Value) (mode d : Int) (hm : W32 mode) (er : Bool) (B : BD) (w : World) (hc : CR w pb o bb base pv) (h : BR w bb cb fv B) (hpc : pb ≠ cb)
    (hl : (bits BinOp.and IntKind.u32 mode 4 != 0) = false) :
    Calls Try.prog 76 #[.pointer (some ⟨pb, o, none⟩), .int .u32 mode, .agg (inpV ⟨true, false, d⟩)] w fun e w' => e = .returned (.agg (buV (awaitF base mode ⟨true, false, d⟩ B).2)) ∧ Tn w w' cb (awaitF base mode ⟨true, false, d⟩ B).1.c := by
  obtain ⟨W3, hW3⟩ : ∃ W3, (w.alloc (.cells #[.bool true, .bool false, .int .u32 d] 112)).alloc (.cells #[.int .u32 0, .int .u32 0, .int .u32 0] 49) = W3 := ⟨_, rfl⟩
  have hY : YR w W3 pb o bb cb base fv pv (w.heap.size + 1) #[.int .u32 0, .int .u32 0, .int .u32 0] B := by rw [← hW3]; exact yr_start hc h hpc _
  have hbx : Blk W3 w.heap.size #[.bool true, .bool false, .int .u32 d] 112 := by
    rw [← hW3]; exact (Below.heap_alloc _ _ _ (by simp)).trans (Blk.new w _ 112)
  have c0 : W3.cell? ⟨w.heap.size, 0, none⟩ = some (.bool true) := hbx.cell 0
  have c1 : W3.cell? ⟨w.heap.size, 1, none⟩ = some (.bool false) := hbx.cell 1
  have c2 : W3.cell? ⟨w.heap.size, 2, none⟩ = some (.int .u32 d) := hbx.cell 2
  have HY := hid_of hY
  clear hbx hY hc h hpc
  unfold inpV
  have HE : Hid (awaitF base mode ⟨true, false, d⟩ B = (B.set (base + 17) 0, zBU)) := by
    unfold Hid awaitF
    rw [if_neg (by simp), if_neg (by simp), if_neg (by rw [hl]; simp)]
  go_enter Try.func76, Try.ntmps76
  have HS := hid_of (setMode_any pb o bb cb base hb fv _ (B) (0) W3 HY.out.cr HY.out.br)
  go_wp2_with fail
  clear hW3
  refine HS.out.mono ?_
  rintro e v4 ⟨rfl, u4, hb4, hw4⟩
  have HY4 : Hid (YR w v4 pb o bb cb base fv pv (w.heap.size + 1) #[.int .u32 0, .int .u32 0, .int .u32 0] ((B).set (base + 17) (0))) := by
    rw [hw4]; exact HY.out.set hb4 _ _
  clear hb4 hw4 HS HY
  obtain ⟨w9, hw9, hl9⟩ := HY4.out.hr.out
  have HFIN : Hid (Tn w (put w9 (w.heap.size + 1) #[.int .u32 0, .int .u32 0, .int .u32 0] 49) cb (B.set (base + 17) 0).c) := by
    have := HY4.out.ret #[.int .u32 0, .int .u32 0, .int .u32 0]
    rw [hw9, put_put] at this
    exact this
  clear HY4
  subst hw9
  go_wp2_with fail
  exact bodyPost_ret (v := .agg #[.int .u32 0, .int .u32 0, .int .u32 0]) (results_cell_row (by rfl) _ _ (w.heap.size + 1) 49 _ (0, 0) _ (by rfl) (Blk.put_same hl9) Try.underlying49 rfl (by rw [size49]; rfl)) rfl ⟨by rw [HE.out]; rfl, by rw [HE.out]; exact HFIN.out⟩
theorem await_any (pb o bb cb base : Nat) (hb : base ≤ 18) (fv pv : Value) (mode : Int) (i : INP) (hm : W32 mode) (B : BD) (w : World) (hc : CR w pb o bb base pv) (h : BR w bb cb fv B) (hpc : pb ≠ cb) :
    Calls Try.prog 76 #[.pointer (some ⟨pb, o, none⟩), .int .u32 mode, .agg (inpV i)] w fun e w' => e = .returned (.agg (buV (awaitF base mode i B).2)) ∧ Tn w w' cb (awaitF base mode i B).1.c := by
  obtain ⟨v, er, d⟩ := i
  cases v
  · exact await_n pb o bb cb base hb fv pv mode d hm er B w hc h hpc
  · cases er
    · cases hl : (bits BinOp.and IntKind.u32 mode 4 != 0)
      · exact await_s pb o bb cb base hb fv pv mode d hm false B w hc h hpc hl
      · exact await_l pb o bb cb base hb fv pv mode d hm false B w hc h hpc hl
    · exact await_e pb o bb cb base hb fv pv mode d hm true B w hc h hpc
end Go.Proofs.Qxb6500749a
