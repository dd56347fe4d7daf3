import Derived.Test.Qxb6500750aDoorOnI
import Derived.BigQuiet
import Derived.Deep.WholeRow
namespace Go.Proofs.Qxb6500750aDoor
open Go.RowKit
attribute [local go_sem] put_size put_cell_same put_cell_ne put_frozen_same put_frozen_ne put_setCell_same put_setCell_ne put_drew
attribute [local go_sem] drewN_setCell drewN_alloc drewN_put
attribute [local go_sem] ag_rg ag_av ag_gr ag_rt ag_tk ag_ba ag_cut ag_turn ag_pt ag_fm ag_f0 ag_f1 ag_f2 ag_f3 as_av as_gr as_rt as_tk as_ba as_cut as_turn as_pt as_fm
attribute [local go_sem] as_f0t as_f1t as_f2t as_f3t og_0 og_1 og_2
set_option maxRecDepth 100000 in
set_option maxHeartbeats 4000000 in
theorem onIssue_stalled (ab xb m n : Nat) (L : Nat → Value) (x : XS) (a : AU) (o : OpD) (hm : m < 3) (ha : o.a = (m : Nat)) (h0 : a.f0 = true) (hba : a.ba m = false) (hst : a.tk m = true ∨ (n : Int) = a.rt m + 4) (ad : Option Addr) (cap : Nat) (hav : a.av m = .slice ad n cap) (hn : n < 4000000)
    (hi : (x.mp m).iss = (n : Nat)) (hr : (x.mp m).rt = a.rt m) (_ : 0 ≤ a.rt m) (hr1 : a.rt m ≤ n) (hr4 : (n : Int) ≤ a.rt m + 4) (w : World) (hA : Blk w ab (encA a) 82) (hG : w.cell? ⟨a.rg, 0, none⟩ = some (.pointer (some ⟨xb, 0, none⟩))) (hX : Blk w xb (encX L x) 132) (hne : a.rg ≠ ab) :
    Calls Tryd.prog 45 #[.pointer (some ⟨ab, 0, none⟩), .agg (opC o), .agg (encO false 1 0 rep0)] w fun e w' => e = .returned (.tuple #[]) ∧ Below w.heap.size w w' := by
  unfold opC
  rw [ha]
  have hgl : a.rg < w.heap.size := World.block_lt_of_cell? _ _ hG
  have HX := hid_of hX
  obtain ⟨w0, rfl, hl0⟩ := hA.out
  rw [put_size] at hgl
  rw [put_cell_ne _ _ _ _ _ _ _ hne] at hG
  have hwr : ((n : Nat) : Int) % 4294967296 = (n : Nat) := by omega
  have hsub : IntKind.i64.wrap (((n : Nat) : Int) - a.rt m) = (n : Nat) - a.rt m := by simp [IntKind.wrap, IntKind.bits, IntKind.signed]; omega
  have hle : decide (((n : Nat) : Int) - a.rt m ≤ 4) = true := by simp; omega
  obtain ⟨W, hW⟩ : ∃ W, ((put w0 ab (encA a) 82).alloc (.cells #[.int .u8 o.k, .int .u32 ((m : Nat) : Int), .int .u32 o.b, .int .u32 o.c] 31)).alloc (.cells (encO false 1 0 rep0) 43) = W := ⟨_, rfl⟩
  have HB5 : Hid (∀ c, Blk ((((put w0 ab (encA a) 82).alloc (.cells #[.int .u8 o.k, .int .u32 ((m : Nat) : Int), .int .u32 o.b, .int .u32 o.c] 31)).alloc (.cells (encO false 1 0 rep0) 43)).alloc (.cells c 43)) (w0.heap.size + 1) (encO false 1 0 rep0) 43) := fun c => by
    have := (Blk.new ((put w0 ab (encA a) 82).alloc (.cells #[.int .u8 o.k, .int .u32 ((m : Nat) : Int), .int .u32 o.b, .int .u32 o.c] 31)) (encO false 1 0 rep0) 43).alloc (.cells c 43)
    simp [put_size] at this; exact this
  have HB7 : Hid (∀ c, Blk ((((put w0 ab (encA a) 82).alloc (.cells #[.int .u8 o.k, .int .u32 ((m : Nat) : Int), .int .u32 o.b, .int .u32 o.c] 31)).alloc (.cells (encO false 1 0 rep0) 43)).alloc (.cells c 43)) (w0.heap.size + 1 + 1) c 43) := fun c => by
    have := Blk.new (((put w0 ab (encA a) 82).alloc (.cells #[.int .u8 o.k, .int .u32 ((m : Nat) : Int), .int .u32 o.b, .int .u32 o.c] 31)).alloc (.cells (encO false 1 0 rep0) 43)) c 43
    simp [put_size] at this; exact this
  have HS7 : Hid (∀ c c', ((((put w0 ab (encA a) 82).alloc (.cells #[.int .u8 o.k, .int .u32 ((m : Nat) : Int), .int .u32 o.b, .int .u32 o.c] 31)).alloc (.cells (encO false 1 0 rep0) 43)).alloc (.cells c 43)).setRow (w0.heap.size + 1 + 1) c' = (((put w0 ab (encA a) 82).alloc (.cells #[.int .u8 o.k, .int .u32 ((m : Nat) : Int), .int .u32 o.b, .int .u32 o.c] 31)).alloc (.cells (encO false 1 0 rep0) 43)).alloc (.cells c' 43)) := fun c c' => by
    have := World.setRow_alloc_new (((put w0 ab (encA a) 82).alloc (.cells #[.int .u8 o.k, .int .u32 ((m : Nat) : Int), .int .u32 o.b, .int .u32 o.c] 31)).alloc (.cells (encO false 1 0 rep0) 43)) c c' 43
    simp [put_size] at this; exact this
  have HB5d : Hid (∀ c j, Blk (((((put w0 ab (encA a) 82).alloc (.cells #[.int .u8 o.k, .int .u32 ((m : Nat) : Int), .int .u32 o.b, .int .u32 o.c] 31)).alloc (.cells (encO false 1 0 rep0) 43)).alloc (.cells c 43)).drewN j) (w0.heap.size + 1) (encO false 1 0 rep0) 43) := fun c j => HB5.out c
  have HB7d : Hid (∀ c j, Blk (((((put w0 ab (encA a) 82).alloc (.cells #[.int .u8 o.k, .int .u32 ((m : Nat) : Int), .int .u32 o.b, .int .u32 o.c] 31)).alloc (.cells (encO false 1 0 rep0) 43)).alloc (.cells c 43)).drewN j) (w0.heap.size + 1 + 1) c 43) := fun c j => HB7.out c
  have HS7d : Hid (∀ c c' j, (((((put w0 ab (encA a) 82).alloc (.cells #[.int .u8 o.k, .int .u32 ((m : Nat) : Int), .int .u32 o.b, .int .u32 o.c] 31)).alloc (.cells (encO false 1 0 rep0) 43)).alloc (.cells c 43)).drewN j).setRow (w0.heap.size + 1 + 1) c' = ((((put w0 ab (encA a) 82).alloc (.cells #[.int .u8 o.k, .int .u32 ((m : Nat) : Int), .int .u32 o.b, .int .u32 o.c] 31)).alloc (.cells (encO false 1 0 rep0) 43)).alloc (.cells c' 43)).drewN j) := fun c c' j => congrArg (fun v => World.drewN v j) (HS7.out c c')
  clear hA hX hW
  have z1 : ab < w0.heap.size + 1 := by omega
  have z2 : ab < w0.heap.size + 1 + 1 := by omega
  have z3 : a.rg < w0.heap.size + 1 := by omega
  have z4 : a.rg < w0.heap.size + 1 + 1 := by omega
  have z5 : w0.heap.size < w0.heap.size + 1 + 1 := by omega
  have z6 : w0.heap.size + 1 < w0.heap.size + 1 + 1 := by omega
  cases htk : a.tk m
  · have h4 : ((n : Nat) : Int) = a.rt m + 4 := hst.resolve_left (by rw [htk]; simp)
    have h4' : ((n : Nat) : Int) - a.rt m = 4 := by omega
    clear hst h4 hsub hle
    have hsub : IntKind.i64.wrap (((n : Nat) : Int) - a.rt m) = 4 := by rw [h4']; rfl
    go_enter Tryd.func45, Tryd.ntmps45
    go_wp2_with (first
        | ((with_reducible show wpList _ _ _ ({ dst := _, op := Op.load 43 (Operand.tmp 5), type := _, pos := _, after := _, guard := _ } :: _) _ _); refine wpList_load_yes (by rfl) 43 (.tmp 5) (by rfl) (w0.heap.size + 1) (by rfl) 43 _ (0, 0) _ (HB5.out _) Tryd.underlying43 rfl (by rw [Tryd.size43, encO_size]) ?_)
        | ((with_reducible show wpList _ _ _ ({ dst := _, op := Op.load 43 (Operand.tmp 7), type := _, pos := _, after := _, guard := _ } :: _) _ _); refine wpList_load_yes (by rfl) 43 (.tmp 7) (by rfl) (w0.heap.size + 1 + 1) (by rfl) 43 _ (0, 0) _ (HB7.out _) Tryd.underlying43 rfl (by rw [Tryd.size43, encO_size]) ?_)
        | ((with_reducible show wpList _ _ _ ({ dst := none, op := Op.store 43 (Operand.tmp 7) (Operand.tmp 35), type := _, pos := _, after := _, guard := _ } :: _) _ _); rw [← encO_zero]; rw [← encO_lit0]; refine wpList_store_row (by rfl) 43 (.tmp 7) (.tmp 35) (by rfl) (w0.heap.size + 1 + 1) (encO false 0 (n : Nat) rep0) (by rfl) (by rfl) 43 _ (HB7.out _) (by rw [Tryd.size43, encO_size]) (by simp only [encO_size]) (encO_one _ _ _ _) ?_; rw [HS7.out])
        | ((with_reducible show wpList _ _ _ ({ dst := none, op := Op.store 43 (Operand.tmp 7) (Operand.tmp 80), type := _, pos := _, after := _, guard := _ } :: _) _ _); rw [← encO_lit0 false 1 0]; refine wpList_store_row (by rfl) 43 (.tmp 7) (.tmp 80) (by rfl) (w0.heap.size + 1 + 1) (encO false 1 0 rep0) (by rfl) (by rfl) 43 _ (HB7.out _) (by rw [Tryd.size43, encO_size]) (by simp only [encO_size]) (encO_one _ _ _ _) ?_; rw [HS7.out])
        | ((with_reducible show wpList _ _ _ ({ dst := _, op := Op.binOp BinOp.eql 43 (Operand.tmp 87) _ _, type := _, pos := _, after := _, guard := _ } :: _) _ _); refine wpList_eql_yes (by rfl) 43 (.tmp 87) (.tmp 88) 43 (by rfl) (encO false 1 0 rep0) (encO false 1 0 rep0) true (by rfl) (by rfl) Tryd.eqg43 (eq43 _ _ _ _) ?_))
    go_quiet (fail)
    go_wp2_with (first
        | ((with_reducible show wpList _ _ _ ({ dst := _, op := Op.load 43 (Operand.tmp 5), type := _, pos := _, after := _, guard := _ } :: _) _ _); refine wpList_load_yes (by rfl) 43 (.tmp 5) (by rfl) (w0.heap.size + 1) (by rfl) 43 _ (0, 0) _ (HB5d.out _ _) Tryd.underlying43 rfl (by rw [Tryd.size43, encO_size]) ?_)
        | ((with_reducible show wpList _ _ _ ({ dst := _, op := Op.load 43 (Operand.tmp 7), type := _, pos := _, after := _, guard := _ } :: _) _ _); refine wpList_load_yes (by rfl) 43 (.tmp 7) (by rfl) (w0.heap.size + 1 + 1) (by rfl) 43 _ (0, 0) _ (HB7d.out _ _) Tryd.underlying43 rfl (by rw [Tryd.size43, encO_size]) ?_)
        | ((with_reducible show wpList _ _ _ ({ dst := none, op := Op.store 43 (Operand.tmp 7) (Operand.tmp 35), type := _, pos := _, after := _, guard := _ } :: _) _ _); rw [← encO_zero]; rw [← encO_lit0]; refine wpList_store_row (by rfl) 43 (.tmp 7) (.tmp 35) (by rfl) (w0.heap.size + 1 + 1) (encO false 0 (n : Nat) rep0) (by rfl) (by rfl) 43 _ (HB7d.out _ _) (by rw [Tryd.size43, encO_size]) (by simp only [encO_size]) (encO_one _ _ _ _) ?_; rw [HS7d.out])
        | ((with_reducible show wpList _ _ _ ({ dst := none, op := Op.store 43 (Operand.tmp 7) (Operand.tmp 80), type := _, pos := _, after := _, guard := _ } :: _) _ _); rw [← encO_lit0 false 1 0]; refine wpList_store_row (by rfl) 43 (.tmp 7) (.tmp 80) (by rfl) (w0.heap.size + 1 + 1) (encO false 1 0 rep0) (by rfl) (by rfl) 43 _ (HB7d.out _ _) (by rw [Tryd.size43, encO_size]) (by simp only [encO_size]) (encO_one _ _ _ _) ?_; rw [HS7d.out])
        | ((with_reducible show wpList _ _ _ ({ dst := _, op := Op.binOp BinOp.eql 43 (Operand.tmp 87) _ _, type := _, pos := _, after := _, guard := _ } :: _) _ _); refine wpList_eql_yes (by rfl) 43 (.tmp 87) (.tmp 88) 43 (by rfl) (encO false 1 0 rep0) (encO false 1 0 rep0) true (by rfl) (by rfl) Tryd.eqg43 (eq43 _ _ _ _) ?_))
    go_quiet (fail)
    go_wp2_with fail
    refine (outstanding_any L xb x m hm (by rw [hi, hr]; omega) (by rw [hi, hr]; omega) _ (by exact ((HX.out.alloc _).alloc _).alloc _)).mono ?_
    rw [hi, hr]
    rintro e w2 ⟨rfl, n2, rfl⟩
    rw [World.drewN_drewN]
    go_wp2_with fail
    go_end0
    exact ⟨rfl, below_drewN ((((Below.refl _ _).alloc (by simp [put_size]) _).alloc (by simp [put_size]) _).alloc (by simp [put_size]; omega) _)⟩
  · clear hst
    go_enter Tryd.func45, Tryd.ntmps45
    go_wp2_with (first
        | ((with_reducible show wpList _ _ _ ({ dst := _, op := Op.load 43 (Operand.tmp 5), type := _, pos := _, after := _, guard := _ } :: _) _ _); refine wpList_load_yes (by rfl) 43 (.tmp 5) (by rfl) (w0.heap.size + 1) (by rfl) 43 _ (0, 0) _ (HB5.out _) Tryd.underlying43 rfl (by rw [Tryd.size43, encO_size]) ?_)
        | ((with_reducible show wpList _ _ _ ({ dst := _, op := Op.load 43 (Operand.tmp 7), type := _, pos := _, after := _, guard := _ } :: _) _ _); refine wpList_load_yes (by rfl) 43 (.tmp 7) (by rfl) (w0.heap.size + 1 + 1) (by rfl) 43 _ (0, 0) _ (HB7.out _) Tryd.underlying43 rfl (by rw [Tryd.size43, encO_size]) ?_)
        | ((with_reducible show wpList _ _ _ ({ dst := none, op := Op.store 43 (Operand.tmp 7) (Operand.tmp 35), type := _, pos := _, after := _, guard := _ } :: _) _ _); rw [← encO_zero]; rw [← encO_lit0]; refine wpList_store_row (by rfl) 43 (.tmp 7) (.tmp 35) (by rfl) (w0.heap.size + 1 + 1) (encO false 0 (n : Nat) rep0) (by rfl) (by rfl) 43 _ (HB7.out _) (by rw [Tryd.size43, encO_size]) (by simp only [encO_size]) (encO_one _ _ _ _) ?_; rw [HS7.out])
        | ((with_reducible show wpList _ _ _ ({ dst := none, op := Op.store 43 (Operand.tmp 7) (Operand.tmp 80), type := _, pos := _, after := _, guard := _ } :: _) _ _); rw [← encO_lit0 false 1 0]; refine wpList_store_row (by rfl) 43 (.tmp 7) (.tmp 80) (by rfl) (w0.heap.size + 1 + 1) (encO false 1 0 rep0) (by rfl) (by rfl) 43 _ (HB7.out _) (by rw [Tryd.size43, encO_size]) (by simp only [encO_size]) (encO_one _ _ _ _) ?_; rw [HS7.out])
        | ((with_reducible show wpList _ _ _ ({ dst := _, op := Op.binOp BinOp.eql 43 (Operand.tmp 87) _ _, type := _, pos := _, after := _, guard := _ } :: _) _ _); refine wpList_eql_yes (by rfl) 43 (.tmp 87) (.tmp 88) 43 (by rfl) (encO false 1 0 rep0) (encO false 1 0 rep0) true (by rfl) (by rfl) Tryd.eqg43 (eq43 _ _ _ _) ?_))
    go_quiet (fail)
    go_wp2_with (first
        | ((with_reducible show wpList _ _ _ ({ dst := _, op := Op.load 43 (Operand.tmp 5), type := _, pos := _, after := _, guard := _ } :: _) _ _); refine wpList_load_yes (by rfl) 43 (.tmp 5) (by rfl) (w0.heap.size + 1) (by rfl) 43 _ (0, 0) _ (HB5d.out _ _) Tryd.underlying43 rfl (by rw [Tryd.size43, encO_size]) ?_)
        | ((with_reducible show wpList _ _ _ ({ dst := _, op := Op.load 43 (Operand.tmp 7), type := _, pos := _, after := _, guard := _ } :: _) _ _); refine wpList_load_yes (by rfl) 43 (.tmp 7) (by rfl) (w0.heap.size + 1 + 1) (by rfl) 43 _ (0, 0) _ (HB7d.out _ _) Tryd.underlying43 rfl (by rw [Tryd.size43, encO_size]) ?_)
        | ((with_reducible show wpList _ _ _ ({ dst := none, op := Op.store 43 (Operand.tmp 7) (Operand.tmp 35), type := _, pos := _, after := _, guard := _ } :: _) _ _); rw [← encO_zero]; rw [← encO_lit0]; refine wpList_store_row (by rfl) 43 (.tmp 7) (.tmp 35) (by rfl) (w0.heap.size + 1 + 1) (encO false 0 (n : Nat) rep0) (by rfl) (by rfl) 43 _ (HB7d.out _ _) (by rw [Tryd.size43, encO_size]) (by simp only [encO_size]) (encO_one _ _ _ _) ?_; rw [HS7d.out])
        | ((with_reducible show wpList _ _ _ ({ dst := none, op := Op.store 43 (Operand.tmp 7) (Operand.tmp 80), type := _, pos := _, after := _, guard := _ } :: _) _ _); rw [← encO_lit0 false 1 0]; refine wpList_store_row (by rfl) 43 (.tmp 7) (.tmp 80) (by rfl) (w0.heap.size + 1 + 1) (encO false 1 0 rep0) (by rfl) (by rfl) 43 _ (HB7d.out _ _) (by rw [Tryd.size43, encO_size]) (by simp only [encO_size]) (encO_one _ _ _ _) ?_; rw [HS7d.out])
        | ((with_reducible show wpList _ _ _ ({ dst := _, op := Op.binOp BinOp.eql 43 (Operand.tmp 87) _ _, type := _, pos := _, after := _, guard := _ } :: _) _ _); refine wpList_eql_yes (by rfl) 43 (.tmp 87) (.tmp 88) 43 (by rfl) (encO false 1 0 rep0) (encO false 1 0 rep0) true (by rfl) (by rfl) Tryd.eqg43 (eq43 _ _ _ _) ?_))
    go_quiet (fail)
    go_wp2_with fail
    refine (outstanding_any L xb x m hm (by rw [hi, hr]; omega) (by rw [hi, hr]; omega) _ (by exact ((HX.out.alloc _).alloc _).alloc _)).mono ?_
    rw [hi, hr]
    rintro e w2 ⟨rfl, n2, rfl⟩
    rw [World.drewN_drewN]
    go_wp2_with fail
    go_end0
    exact ⟨rfl, below_drewN ((((Below.refl _ _).alloc (by simp [put_size]) _).alloc (by simp [put_size]) _).alloc (by simp [put_size]; omega) _)⟩
end Go.Proofs.Qxb6500750aDoor
