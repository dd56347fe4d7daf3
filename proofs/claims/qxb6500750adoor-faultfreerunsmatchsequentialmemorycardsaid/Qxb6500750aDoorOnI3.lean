import Derived.Test.Qxb6500750aDoorOnI2
import Derived.BigQuiet
import Derived.Deep.WholeRow
namespace Go.Proofs.Qxb6500750aDoor
open Go.RowKit
attribute [local go_sem] put_size put_cell_same put_cell_ne put_frozen_same put_frozen_ne put_setCell_same put_setCell_ne put_drew
attribute [local go_sem] drewN_setCell drewN_alloc drewN_put
attribute [local go_sem] ag_rg ag_av ag_gr ag_rt ag_tk ag_ba ag_cut ag_turn ag_pt ag_fm ag_f0 ag_f1 ag_f2 ag_f3 as_av as_gr as_rt as_tk as_ba as_cut as_turn as_pt as_fm
attribute [local go_sem] as_f0t as_f1t as_f2t as_f3t og_0 og_1 og_2 upd_same upd_upd
theorem Tryd.info91 : (Tryd.prog.info? 91).map (fun i => (i.zero, i.size, i.bytes)) = some (some (.agg #[.bool false, .int .u32 0, .int .u32 0]), 3, 12) := by kernel_rfl
/-- A cell of a slice turned. -/
theorem Sl.turn {w : World} {v : Value} {T : TypeId} {es n : Nat} {xs : List Value} (h : Sl w v T es n xs) {b off cap : Nat} (hv : v = .slice (some ⟨b, off, none⟩) n cap) {cs : Array Value} (hB : Blk w b cs T) (j : Nat) (u : Value) :
    Sl (put w b (cs.setIfInBounds (off + j) u) T) v T es n (xs.set j u) := by
  refine ⟨by rw [List.length_set]; exact h.1, ?_⟩
  rcases h.2 with ⟨rfl, _⟩ | ⟨b', off', cap', cs', rfl, hb, h1, h2, h3, h4⟩
  · cases hv
  · cases hv
    have e : cs' = cs := by unfold Blk at hb hB; rw [hb] at hB; cases hB; rfl
    subst e
    refine .inr ⟨b, off, cap, _, rfl, Blk.put_same hb.lt, h1, h2, by rw [Array.size_setIfInBounds]; exact h3, ?_⟩
    have hlen := h.1
    rw [Array.toList_setIfInBounds, List.drop_set, if_neg (by omega), List.take_set]
    rw [show off + j - off = j by omega, h4]
structure TakenPost (ab n : Nat) (a : AU) (m : Nat) (ys : List Req) (w w' : World) : Prop where
  out : ∃ v', Blk w' ab (encA { a with av := upd a.av m v', tk := upd a.tk m true }) 82 ∧ Sl w' v' 91 3 (n + 1) (ys.flatMap reqRow) ∧ (∀ k, v'.ownBlock = some k → (a.av m).ownBlock = some k ∨ w.heap.size ≤ k)
  os : w'.os = w.os
  tape : w'.tape = w.tape
  output : w'.output = w.output
  size : w.heap.size ≤ w'.heap.size
  block : ∀ k, k < w.heap.size → k ≠ ab → (a.av m).ownBlock ≠ some k → w'.heap[k]? = w.heap[k]?
set_option maxRecDepth 100000 in
set_option maxHeartbeats 4000000 in
theorem onIssue_read (ab xb m n : Nat) (L : Nat → Value) (x : XS) (a : AU) (o : OpD) (xs : List Req) (hm : m < 3) (hk : o.k = 0) (ha : o.a = (m : Nat)) (h0 : a.f0 = true) (hba : a.ba m = false) (htk : a.tk m = false) (hn : n < 4000000) (hxs : xs.length = n)
    (hi : (x.mp m).iss = (n : Nat) + 1) (hr : (x.mp m).rt = a.rt m) (_ : 0 ≤ a.rt m) (hr1 : a.rt m ≤ n) (hr4 : (n : Int) < a.rt m + 4) (w : World) (hA : Blk w ab (encA a) 82) (hS : Sl w (a.av m) 91 3 n (xs.flatMap reqRow)) (hG : w.cell? ⟨a.rg, 0, none⟩ = some (.pointer (some ⟨xb, 0, none⟩))) (hX : Blk w xb (encX L x) 132) (hne : a.rg ≠ ab) (hne2 : ∀ k, (a.av m).ownBlock = some k → k ≠ a.rg) (hnx : xb ≠ ab) :
    Calls Tryd.prog 45 #[.pointer (some ⟨ab, 0, none⟩), .agg (opC o), .agg (encO false 0 ((n : Nat) : Int) rep0)] w fun e w' => e = .returned (.tuple #[]) ∧ TakenPost ab n a m (xs ++ [⟨false, o.b, 0⟩]) w w' := by
  unfold opC
  rw [ha]
  obtain ⟨i0, hinf, hz0, hz1, hz2⟩ := info_parts Tryd.info91
  obtain ⟨ad, cap, hav⟩ := hS.form'
  have hgl : a.rg < w.heap.size := World.block_lt_of_cell? _ _ hG
  have HX := hid_of hX
  have HS := hid_of hS
  have HW0 := hid_of hA
  obtain ⟨w0, rfl, hl0⟩ := hA.out
  rw [put_size] at hgl
  rw [put_cell_ne _ _ _ _ _ _ _ hne] at hG
  have hwr : ((n : Nat) : Int) % 4294967296 = (n : Nat) := by omega
  have hsub : IntKind.i64.wrap (((n : Nat) : Int) - a.rt m) = (n : Nat) - a.rt m := by simp [IntKind.wrap, IntKind.bits, IntKind.signed]; omega
  have hne4 : (((n : Nat) : Int) - a.rt m == 4) = false := by simp; omega
  have HB5 : Hid (∀ c, Blk ((((put w0 ab (encA a) 82).alloc (.cells #[.int .u8 o.k, .int .u32 ((m : Nat) : Int), .int .u32 o.b, .int .u32 o.c] 31)).alloc (.cells (encO false 0 ((n : Nat) : Int) rep0) 43)).alloc (.cells c 43)) (w0.heap.size + 1) (encO false 0 ((n : Nat) : Int) rep0) 43) := fun c => by
    have := (Blk.new ((put w0 ab (encA a) 82).alloc (.cells #[.int .u8 o.k, .int .u32 ((m : Nat) : Int), .int .u32 o.b, .int .u32 o.c] 31)) (encO false 0 ((n : Nat) : Int) rep0) 43).alloc (.cells c 43)
    simp [put_size] at this; exact this
  have HB7 : Hid (∀ c, Blk ((((put w0 ab (encA a) 82).alloc (.cells #[.int .u8 o.k, .int .u32 ((m : Nat) : Int), .int .u32 o.b, .int .u32 o.c] 31)).alloc (.cells (encO false 0 ((n : Nat) : Int) rep0) 43)).alloc (.cells c 43)) (w0.heap.size + 1 + 1) c 43) := fun c => by
    have := Blk.new (((put w0 ab (encA a) 82).alloc (.cells #[.int .u8 o.k, .int .u32 ((m : Nat) : Int), .int .u32 o.b, .int .u32 o.c] 31)).alloc (.cells (encO false 0 ((n : Nat) : Int) rep0) 43)) c 43
    simp [put_size] at this; exact this
  have HS7 : Hid (∀ c c', ((((put w0 ab (encA a) 82).alloc (.cells #[.int .u8 o.k, .int .u32 ((m : Nat) : Int), .int .u32 o.b, .int .u32 o.c] 31)).alloc (.cells (encO false 0 ((n : Nat) : Int) rep0) 43)).alloc (.cells c 43)).setRow (w0.heap.size + 1 + 1) c' = (((put w0 ab (encA a) 82).alloc (.cells #[.int .u8 o.k, .int .u32 ((m : Nat) : Int), .int .u32 o.b, .int .u32 o.c] 31)).alloc (.cells (encO false 0 ((n : Nat) : Int) rep0) 43)).alloc (.cells c' 43)) := fun c c' => by
    have := World.setRow_alloc_new (((put w0 ab (encA a) 82).alloc (.cells #[.int .u8 o.k, .int .u32 ((m : Nat) : Int), .int .u32 o.b, .int .u32 o.c] 31)).alloc (.cells (encO false 0 ((n : Nat) : Int) rep0) 43)) c c' 43
    simp [put_size] at this; exact this
  have HB5d : Hid (∀ c j, Blk (((((put w0 ab (encA a) 82).alloc (.cells #[.int .u8 o.k, .int .u32 ((m : Nat) : Int), .int .u32 o.b, .int .u32 o.c] 31)).alloc (.cells (encO false 0 ((n : Nat) : Int) rep0) 43)).alloc (.cells c 43)).drewN j) (w0.heap.size + 1) (encO false 0 ((n : Nat) : Int) rep0) 43) := fun c j => HB5.out c
  have HB7d : Hid (∀ c j, Blk (((((put w0 ab (encA a) 82).alloc (.cells #[.int .u8 o.k, .int .u32 ((m : Nat) : Int), .int .u32 o.b, .int .u32 o.c] 31)).alloc (.cells (encO false 0 ((n : Nat) : Int) rep0) 43)).alloc (.cells c 43)).drewN j) (w0.heap.size + 1 + 1) c 43) := fun c j => HB7.out c
  clear hA hX hS
  have z1 : ab < w0.heap.size + 1 := by omega
  have z2 : ab < w0.heap.size + 1 + 1 := by omega
  have z3 : a.rg < w0.heap.size + 1 := by omega
  have z4 : a.rg < w0.heap.size + 1 + 1 := by omega
  have z5 : w0.heap.size < w0.heap.size + 1 + 1 := by omega
  have z6 : w0.heap.size + 1 < w0.heap.size + 1 + 1 := by omega
  rw [hk] at *
  go_enter Tryd.func45, Tryd.ntmps45
  go_wp2_with (first
    | ((with_reducible show wpList _ _ _ ({ dst := _, op := Op.load 43 (Operand.tmp 5), type := _, pos := _, after := _, guard := _ } :: _) _ _); refine wpList_load_yes (by rfl) 43 (.tmp 5) (by rfl) (w0.heap.size + 1) (by rfl) 43 _ (0, 0) _ (HB5.out _) Tryd.underlying43 rfl (by rw [Tryd.size43, encO_size]) ?_)
    | ((with_reducible show wpList _ _ _ ({ dst := _, op := Op.load 43 (Operand.tmp 7), type := _, pos := _, after := _, guard := _ } :: _) _ _); refine wpList_load_yes (by rfl) 43 (.tmp 7) (by rfl) (w0.heap.size + 1 + 1) (by rfl) 43 _ (0, 0) _ (HB7.out _) Tryd.underlying43 rfl (by rw [Tryd.size43, encO_size]) ?_)
    | ((with_reducible show wpList _ _ _ ({ dst := none, op := Op.store 43 (Operand.tmp 7) (Operand.tmp 35), type := _, pos := _, after := _, guard := _ } :: _) _ _); rw [← encO_zero]; rw [← encO_lit0]; refine wpList_store_row (by rfl) 43 (.tmp 7) (.tmp 35) (by rfl) (w0.heap.size + 1 + 1) (encO false 0 ((n : Nat) : Int) rep0) (by rfl) (by rfl) 43 _ (HB7.out _) (by rw [Tryd.size43, encO_size]) (by simp only [encO_size]) (encO_one _ _ _ _) ?_; rw [HS7.out])
    | ((with_reducible show wpList _ _ _ ({ dst := _, op := Op.binOp BinOp.eql 43 (Operand.tmp 87) _ _, type := _, pos := _, after := _, guard := _ } :: _) _ _); refine wpList_eql_yes (by rfl) 43 (.tmp 87) (.tmp 88) 43 (by rfl) (encO false 0 ((n : Nat) : Int) rep0) (encO false 0 ((n : Nat) : Int) rep0) true (by rfl) (by rfl) Tryd.eqg43 (eq43 _ _ _ _) ?_))
  go_quiet (fail)
  go_wp2_with (first
    | ((with_reducible show wpList _ _ _ ({ dst := _, op := Op.load 43 (Operand.tmp 5), type := _, pos := _, after := _, guard := _ } :: _) _ _); refine wpList_load_yes (by rfl) 43 (.tmp 5) (by rfl) (w0.heap.size + 1) (by rfl) 43 _ (0, 0) _ (HB5d.out _ _) Tryd.underlying43 rfl (by rw [Tryd.size43, encO_size]) ?_)
    | ((with_reducible show wpList _ _ _ ({ dst := _, op := Op.load 43 (Operand.tmp 7), type := _, pos := _, after := _, guard := _ } :: _) _ _); refine wpList_load_yes (by rfl) 43 (.tmp 7) (by rfl) (w0.heap.size + 1 + 1) (by rfl) 43 _ (0, 0) _ (HB7d.out _ _) Tryd.underlying43 rfl (by rw [Tryd.size43, encO_size]) ?_)
    | ((with_reducible show wpList _ _ _ ({ dst := none, op := Op.store 43 (Operand.tmp 7) (Operand.tmp 35), type := _, pos := _, after := _, guard := _ } :: _) _ _); rw [← encO_zero]; rw [← encO_lit0]; refine wpList_store_row (by rfl) 43 (.tmp 7) (.tmp 35) (by rfl) (w0.heap.size + 1 + 1) (encO false 0 ((n : Nat) : Int) rep0) (by rfl) (by rfl) 43 _ (HB7d.out _ _) (by rw [Tryd.size43, encO_size]) (by simp only [encO_size]) (encO_one _ _ _ _) ?_; rw [HS7.out])
    | ((with_reducible show wpList _ _ _ ({ dst := _, op := Op.binOp BinOp.eql 43 (Operand.tmp 87) _ _, type := _, pos := _, after := _, guard := _ } :: _) _ _); refine wpList_eql_yes (by rfl) 43 (.tmp 87) (.tmp 88) 43 (by rfl) (encO false 0 ((n : Nat) : Int) rep0) (encO false 0 ((n : Nat) : Int) rep0) true (by rfl) (by rfl) Tryd.eqg43 (eq43 _ _ _ _) ?_))
  have hBl : Below (put w0 ab (encA a) 82).heap.size (put w0 ab (encA a) 82) (((((put w0 ab (encA a) 82).alloc (.cells #[.int .u8 0, .int .u32 ((m : Nat) : Int), .int .u32 o.b, .int .u32 o.c] 31)).alloc (.cells (encO false 0 ((n : Nat) : Int) rep0) 43)).alloc (.cells (encO false 0 ((n : Nat) : Int) rep0) 43)).drewN nq) := below_drewN ((((Below.refl _ _).alloc (by simp [put_size]) _).alloc (by simp [put_size]) _).alloc (by simp [put_size]; omega) _)
  have hB4 : Blk (((((put w0 ab (encA a) 82).alloc (.cells #[.int .u8 0, .int .u32 ((m : Nat) : Int), .int .u32 o.b, .int .u32 o.c] 31)).alloc (.cells (encO false 0 ((n : Nat) : Int) rep0) 43)).alloc (.cells (encO false 0 ((n : Nat) : Int) rep0) 43)).drewN nq) w0.heap.size #[.int .u8 0, .int .u32 ((m : Nat) : Int), .int .u32 o.b, .int .u32 o.c] 31 := by
    have := ((Blk.new (put w0 ab (encA a) 82) #[.int .u8 0, .int .u32 ((m : Nat) : Int), .int .u32 o.b, .int .u32 o.c] 31).alloc (.cells (encO false 0 ((n : Nat) : Int) rep0) 43)).alloc (.cells (encO false 0 ((n : Nat) : Int) rep0) 43)
    rw [put_size] at this; exact this
  have hsz : w0.heap.size + 3 = (((((put w0 ab (encA a) 82).alloc (.cells #[.int .u8 0, .int .u32 ((m : Nat) : Int), .int .u32 o.b, .int .u32 o.c] 31)).alloc (.cells (encO false 0 ((n : Nat) : Int) rep0) 43)).alloc (.cells (encO false 0 ((n : Nat) : Int) rep0) 43)).drewN nq).heap.size := by show _ = ((((put w0 ab (encA a) 82).alloc (.cells #[.int .u8 0, .int .u32 ((m : Nat) : Int), .int .u32 o.b, .int .u32 o.c] 31)).alloc (.cells (encO false 0 ((n : Nat) : Int) rep0) 43)).alloc (.cells (encO false 0 ((n : Nat) : Int) rep0) 43)).heap.size; simp [put_size]
  have hA1 : Blk (((((put w0 ab (encA a) 82).alloc (.cells #[.int .u8 0, .int .u32 ((m : Nat) : Int), .int .u32 o.b, .int .u32 o.c] 31)).alloc (.cells (encO false 0 ((n : Nat) : Int) rep0) 43)).alloc (.cells (encO false 0 ((n : Nat) : Int) rep0) 43)).drewN nq) ab (encA a) 82 := (hBl.block ab HW0.out.lt).trans HW0.out
  have hS1 := HS.out.same (w' := ((((put w0 ab (encA a) 82).alloc (.cells #[.int .u8 0, .int .u32 ((m : Nat) : Int), .int .u32 o.b, .int .u32 o.c] 31)).alloc (.cells (encO false 0 ((n : Nat) : Int) rep0) 43)).alloc (.cells (encO false 0 ((n : Nat) : Int) rep0) 43)).drewN nq) (fun k hk => hBl.block k (HS.out.lt k hk))
  have HX1 := hid_of (show Blk (((((put w0 ab (encA a) 82).alloc (.cells #[.int .u8 0, .int .u32 ((m : Nat) : Int), .int .u32 o.b, .int .u32 o.c] 31)).alloc (.cells (encO false 0 ((n : Nat) : Int) rep0) 43)).alloc (.cells (encO false 0 ((n : Nat) : Int) rep0) 43)).drewN nq) xb (encX L x) 132 from (hBl.block xb HX.out.lt).trans HX.out)
  have hG1 : (((((put w0 ab (encA a) 82).alloc (.cells #[.int .u8 0, .int .u32 ((m : Nat) : Int), .int .u32 o.b, .int .u32 o.c] 31)).alloc (.cells (encO false 0 ((n : Nat) : Int) rep0) 43)).alloc (.cells (encO false 0 ((n : Nat) : Int) rep0) 43)).drewN nq).cell? ⟨a.rg, 0, none⟩ = some (.pointer (some ⟨xb, 0, none⟩)) := by
    have e : (((((put w0 ab (encA a) 82).alloc (.cells #[.int .u8 0, .int .u32 ((m : Nat) : Int), .int .u32 o.b, .int .u32 o.c] 31)).alloc (.cells (encO false 0 ((n : Nat) : Int) rep0) 43)).alloc (.cells (encO false 0 ((n : Nat) : Int) rep0) 43)).drewN nq).heap[a.rg]? = (put w0 ab (encA a) 82).heap[a.rg]? := hBl.block a.rg (by rw [put_size]; exact hgl)
    rw [put_heap_ne _ _ _ _ _ hne] at e
    simp only [World.cell?] at hG ⊢
    rw [e]; exact hG
  have HBL := hid_of hBl
  clear hBl HB5 HB7 HS7 HB5d HB7d hG z1 z2 z3 z4 z5 z6
  generalize (((((put w0 ab (encA a) 82).alloc (.cells #[.int .u8 0, .int .u32 ((m : Nat) : Int), .int .u32 o.b, .int .u32 o.c] 31)).alloc (.cells (encO false 0 ((n : Nat) : Int) rep0) 43)).alloc (.cells (encO false 0 ((n : Nat) : Int) rep0) 43)).drewN nq) = W at *
  have nb4 : ab ≠ w0.heap.size := by omega
  have hB4' := hid_of hB4
  have cA : W.cell? ⟨ab, 1 + m, none⟩ = some (.slice ad n cap) := by rw [hA1.cell, ag_av a m hm, hav]
  have c0 : W.cell? ⟨w0.heap.size, 0, none⟩ = some (.int .u8 0) := hB4.cell 0
  have c2 : W.cell? ⟨w0.heap.size, 2, none⟩ = some (.int .u32 o.b) := hB4.cell 2
  have l1 : ab < W.heap.size := hA1.lt
  have l2 : w0.heap.size < W.heap.size := hB4.lt
  rw [hav] at hS1
  have HS1 := hid_of hS1
  have HA1 := hid_of hA1
  have HAV := hid_of hav
  have HSZ := hid_of hsz
  have hsX : ∀ k, (Value.slice ad n cap).ownBlock = some k → k ≠ xb := HX1.out.sl_ne (by decide) hS1
  rw [hav] at hne2
  have HSX := hid_of hsX
  have HN2 := hid_of hne2
  clear hS1 hA1 hB4 hsz hav HS HX HW0 hsX hne2
  refine wp_region_float [0, 1, 2, 3, 4, 5, 6, 7, 8, 9, 10, 11, 12, 13, 16, 17] [14, 15, 18, 19] [0, 1, 2, 3, 4, 5, 6, 8, 10, 11, 13, 16, 17] mixed (fun ω => ω.cell? ⟨ab, 1 + m, none⟩ = some (.slice ad n cap) ∧ ω.cell? ⟨w0.heap.size, 0, none⟩ = some (.int .u8 0) ∧ ω.cell? ⟨w0.heap.size, 2, none⟩ = some (.int .u32 o.b)) (by kernel_rfl) rfl (by kernel_rfl) ⟨cA, c0, c2⟩ ?_
  iterate 16 refine wpFl_op _ _ _ _ rfl rfl (fun ω hj => by first | (obtain ⟨j1, j2, j3⟩ := hj rfl; go_simp; rfl) | (go_simp; rfl)) ?_
  refine wpFl_nil _ _ ?_
  simp only [Act.put, List.setIfInBounds_toArray]
  refine wpCh_one _ _ _ _ rfl ?_
  simp only [List.getElem_toArray, List.getElem_cons_succ, List.getElem_cons_zero]
  go_wp2_with fail
  refine ⟨⟨?_, ?_, ?_⟩, ?_⟩
  · simp [*, go_sem, World.cell?_alloc_lt]
  · simp [*, go_sem, World.cell?_alloc_lt]
  · simp [*, go_sem, World.cell?_alloc_lt]
  refine wpCh_rest _ _ _ _ [_, _, _] _ _ rfl (by kernel_rfl) ?_
  simp only [List.getElem_toArray, List.getElem_cons_succ, List.getElem_cons_zero]
  go_wp2_with (at_builtin; refine wpList_append_sl _ rfl (.tmp 103) (.tmp 110) 72 rfl 91 i0 (.agg #[.bool false, .int .u32 0, .int .u32 0]) 3 12 Tryd.underlying72 hinf hz0 hz1 hz2 rfl (by decide) _ _ _ rfl (HS1.out.same ?d0) ⟨W.heap.size, 0, none⟩ 1 1 [.bool false, .int .u32 o.b, .int .u32 0] rfl rfl ?d1 ?d2 ?d3 ?d4 ?_)
  case d0 =>
    intro k hk
    show (W.alloc _).heap[k]? = _
    exact Below.heap_alloc W _ k (HS1.out.lt k hk)
  case d1 => exact cells_new _ _ _ _ rfl
  case d2 => intro u hu; simp at hu; rcases hu with rfl | rfl | rfl <;> rfl
  case d3 => unfold maxLen; omega
  case d4 => omega
  intro v' w1 hsl hgr hnew
  obtain ⟨ad', cap', rfl⟩ := hsl.form'
  have hblk : ∀ k, k < W.heap.size → (Value.slice ad n cap).ownBlock ≠ some k → w1.heap[k]? = W.heap[k]? := by
    intro k hk hne'
    rw [hgr.block k (by show k < (W.alloc _).heap.size; simp; omega) (Ne.symm hne')]
    show (W.alloc _).heap[k]? = _
    exact Below.heap_alloc W _ k hk
  have hsA : ∀ k, (Value.slice ad n cap).ownBlock = some k → k ≠ ab := HA1.out.sl_ne (by decide) HS1.out
  have hs4 : ∀ k, (Value.slice ad n cap).ownBlock = some k → k ≠ w0.heap.size := hB4'.out.sl_ne (by decide) HS1.out
  have hA2 : Blk w1 ab (encA a) 82 := (hblk ab l1 (fun e => hsA ab e rfl)).trans HA1.out
  have hB42 : Blk w1 w0.heap.size #[.int .u8 0, .int .u32 ((m : Nat) : Int), .int .u32 o.b, .int .u32 o.c] 31 := (hblk _ l2 (fun e => hs4 _ e rfl)).trans hB4'.out
  have HB := hid_of hblk
  have HSL := hid_of hsl
  have HNEW := hid_of hnew
  have HGR : Hid (w1.os = W.os ∧ w1.tape = W.tape ∧ w1.output = W.output ∧ W.heap.size ≤ w1.heap.size) := ⟨hgr.os, hgr.tape, hgr.output, by have := hgr.size; have h9 : (W.alloc (.cells #[.bool false, .int .u32 o.b, .int .u32 0] 91)).heap.size ≤ w1.heap.size := this; simp at h9; omega⟩
  have hgW : a.rg < W.heap.size := by have := HSZ.out; omega
  have hG2 : w1.cell? ⟨a.rg, 0, none⟩ = some (.pointer (some ⟨xb, 0, none⟩)) := by
    have e := hblk a.rg hgW (fun e => HN2.out _ e rfl)
    simp only [World.cell?] at hG1 ⊢
    rw [e]; exact hG1
  have hX2 : Blk w1 xb (encX L x) 132 := (hblk xb HX1.out.lt (fun e => HSX.out _ e rfl)).trans HX1.out
  obtain ⟨w2, rfl, hl2⟩ := hA2.out
  have hB43 : Blk w2 w0.heap.size #[.int .u8 0, .int .u32 ((m : Nat) : Int), .int .u32 o.b, .int .u32 o.c] 31 := (put_heap_ne w2 ab _ _ _ (Ne.symm nb4)).symm.trans hB42
  obtain ⟨w3, rfl, hl3⟩ := hB43.out
  have nrg4 : a.rg ≠ w0.heap.size := by omega
  have nb4' := Ne.symm nb4
  rw [put_size] at hl2
  rw [put_cell_ne _ _ _ _ _ _ _ hne, put_cell_ne _ _ _ _ _ _ _ nrg4] at hG2
  have HX2 : Hid (∀ C, Blk (put (put w3 w0.heap.size #[.int .u8 0, .int .u32 ((m : Nat) : Int), .int .u32 o.b, .int .u32 o.c] 31) ab C 82) xb (encX L x) 132) := fun C => by
    have := (put_heap_ne _ ab xb _ _ hnx).symm.trans hX2
    exact (put_heap_ne _ ab xb C 82 hnx).trans this
  have hsub2 : IntKind.i64.wrap (((n : Nat) : Int) + 1 - a.rt m) = (n : Nat) + 1 - a.rt m := by simp [IntKind.wrap, IntKind.bits, IntKind.signed]; omega
  have hle : decide (((n : Nat) : Int) + 1 - a.rt m ≤ 4) = true := by simp; omega
  clear hA2 hB42 hB43 hX2 hblk hsl hnew hgr hG1 cA c0 c2 hsA hs4 hne4 hsub
  go_wp2_with fail
  go_quiet (fail)
  go_wp2_with fail
  refine (outstanding_any L xb x m hm (by rw [hi, hr]; omega) (by rw [hi, hr]; omega) _ (by exact HX2.out _)).mono ?_
  rw [hi, hr]
  rintro e w9 ⟨rfl, n2, rfl⟩
  rw [World.drewN_drewN]
  go_wp2_with fail
  go_end0
  have hfl : encA { rg := a.rg, av := upd a.av m (.slice ad' (n + 1) cap'), gr := a.gr, rt := a.rt, tk := upd a.tk m true, ba := a.ba, cut := a.cut, turn := a.turn, pt := a.pt, fm := a.fm, f0 := true, f1 := a.f1, f2 := a.f2, f3 := a.f3 } = encA { a with av := upd a.av m (.slice ad' (n + 1) cap'), tk := upd a.tk m true } := by rw [← h0]
  rw [hfl]
  have hsA' : ∀ k, (Value.slice ad' (n + 1) cap').ownBlock = some k → k ≠ ab := Blk.sl_ne (w := put (put w3 w0.heap.size #[.int .u8 0, .int .u32 ((m : Nat) : Int), .int .u32 o.b, .int .u32 o.c] 31) ab (encA a) 82) (cs := encA a) (T' := 82) (Blk.put_same (by rw [put_size]; exact hl2)) (by decide) HSL.out
  refine ⟨rfl, ⟨⟨.slice ad' (n + 1) cap', Blk.put_same (by rw [put_size]; exact hl2), ?_, ?_⟩, ?_, ?_, ?_, ?_, ?_⟩⟩
  · have hq : (xs ++ [(⟨false, o.b, 0⟩ : Req)]).flatMap reqRow = xs.flatMap reqRow ++ [.bool false, .int .u32 o.b, .int .u32 0] := by simp [reqRow]
    rw [hq]
    exact HSL.out.same fun k hk => (put_heap_ne _ ab k _ _ (hsA' k hk)).trans (put_heap_ne _ ab k _ _ (hsA' k hk)).symm
  · intro k hk
    rcases HNEW.out k hk with h | h
    · exact .inl (by rw [HAV.out]; exact h)
    · right
      have h9 : W.heap.size + 1 ≤ k := h
      have := HSZ.out
      rw [put_size]; omega
  · exact HGR.out.1.trans HBL.out.os
  · exact HGR.out.2.1.trans HBL.out.tape
  · exact HGR.out.2.2.1.trans HBL.out.output
  · have h8 : W.heap.size ≤ w3.heap.size := by have := HGR.out.2.2.2; rw [put_size, put_size] at this; exact this
    have := HSZ.out
    show (put w0 ab (encA a) 82).heap.size ≤ (put (put w3 _ _ _) ab _ _).heap.size
    rw [put_size, put_size, put_size]; omega
  · intro k hk hka hks
    rw [HAV.out] at hks
    rw [put_size] at hk
    have hkW : k < W.heap.size := by have := HSZ.out; omega
    have e1 := HB.out k hkW hks
    have e2 := HBL.out.block k (by rw [put_size]; exact hk)
    refine Eq.trans ?_ (e1.trans e2)
    exact (put_heap_ne _ ab k _ _ hka).trans (put_heap_ne _ ab k _ _ hka).symm
end Go.Proofs.Qxb6500750aDoor
