import Derived.Test.Qxb6500750aDoorRowg
import Derived.BigQuiet
import Derived.Deep.WholeRow
namespace Go.Proofs.Qxb6500750aDoor
open Go.RowKit
attribute [local go_sem] put_size put_cell_same put_cell_ne put_frozen_same put_frozen_ne put_setCell_same put_setCell_ne put_drew
attribute [local go_sem] drewN_setCell drewN_alloc drewN_put
attribute [local go_sem] ag_rg ag_av ag_gr ag_rt ag_tk ag_ba ag_cut ag_turn ag_pt ag_fm ag_f0 ag_f1 ag_f2 ag_f3 as_av as_gr as_rt as_tk as_ba as_cut as_turn as_pt as_fm
/-! ### onIssue, where every check succeeds -/
theorem Tryd.eqg43 : Tryd.prog.eqGuardType Tryd.prog.depth 43 = false := by kernel_rfl
section
variable (a : AU)
theorem as_f0t (h : a.f0 = true) : (encA a).setIfInBounds 38 (.bool true) = encA a := by rw [as_f0, ← h]
theorem as_f1t (h : a.f1 = true) : (encA a).setIfInBounds 39 (.bool true) = encA a := by rw [as_f1, ← h]
theorem as_f2t (h : a.f2 = true) : (encA a).setIfInBounds 40 (.bool true) = encA a := by rw [as_f2, ← h]
theorem as_f3t (h : a.f3 = true) : (encA a).setIfInBounds 41 (.bool true) = encA a := by rw [as_f3, ← h]
end
theorem og_0 (rf : Bool) (is sq : Int) (ρ : RepD) : (encO rf is sq ρ)[0]? = some (.bool rf) := by simp [encO, Array.getElem?_append]
theorem og_1 (rf : Bool) (is sq : Int) (ρ : RepD) : (encO rf is sq ρ)[1]? = some (.int .u8 is) := by simp [encO, Array.getElem?_append]
theorem og_2 (rf : Bool) (is sq : Int) (ρ : RepD) : (encO rf is sq ρ)[2]? = some (.int .u32 sq) := by simp [encO, Array.getElem?_append]
attribute [local go_sem] as_f0t as_f1t as_f2t as_f3t og_0 og_1 og_2
set_option maxRecDepth 100000 in
set_option maxHeartbeats 4000000 in
theorem onIssue_no (ab : Nat) (a : AU) (o : OpD) (ha : 3 ≤ o.a) (h0 : a.f0 = true) (w : World) (hA : Blk w ab (encA a) 82) :
    Calls Tryd.prog 45 #[.pointer (some ⟨ab, 0, none⟩), .agg (opC o), .agg (encO true 2 0 rep0)] w fun e w' => e = .returned (.tuple #[]) ∧ Below w.heap.size w w' := by
  unfold opC
  obtain ⟨w0, rfl, hl0⟩ := hA.out
  have hB5 : Blk (((put w0 ab (encA a) 82).alloc (.cells #[.int .u8 o.k, .int .u32 o.a, .int .u32 o.b, .int .u32 o.c] 31)).alloc (.cells (encO true 2 0 rep0) 43)) (w0.heap.size + 1) (encO true 2 0 rep0) 43 := by
    have := Blk.new ((put w0 ab (encA a) 82).alloc (.cells #[.int .u8 o.k, .int .u32 o.a, .int .u32 o.b, .int .u32 o.c] 31)) (encO true 2 0 rep0) 43
    simp [put_size] at this; exact this
  have HB5 := hid_of hB5
  clear hA hB5
  go_enter Tryd.func45, Tryd.ntmps45
  go_wp2_with (first
    | ((with_reducible show wpList _ _ _ ({ dst := _, op := Op.load 43 _, type := _, pos := _, after := _, guard := _ } :: _) _ _); refine wpList_load_yes (by rfl) 43 (.tmp 5) (by rfl) (w0.heap.size + 1) (by rfl) 43 _ (0, 0) _ HB5.out Tryd.underlying43 rfl (by rw [Tryd.size43, encO_size]) ?_)
    | ((with_reducible show wpList _ _ _ ({ dst := _, op := Op.binOp BinOp.eql 43 _ _ _, type := _, pos := _, after := _, guard := _ } :: _) _ _); rw [← encO_lit0]; refine wpList_eql_yes (by rfl) 43 (.tmp 18) (.tmp 19) 43 (by rfl) (encO true 2 0 rep0) (encO true 2 0 rep0) true (by rfl) (by rfl) Tryd.eqg43 (eq43 _ _ _ _) ?_))
  refine bodyPost_ret (results_none rfl _ _ _) rfl ?_
  exact ⟨rfl, ((Below.refl _ _).alloc (by simp [put_size]) _).alloc (by simp [put_size]) _⟩
set_option maxRecDepth 100000 in
set_option maxHeartbeats 4000000 in
theorem onIssue_barred (ab xb m n : Nat) (L : Nat → Value) (x : XS) (a : AU) (o : OpD) (hm : m < 3) (ha : o.a = (m : Nat)) (h0 : a.f0 = true) (h2 : a.f2 = true) (hba : a.ba m = true) (ad : Option Addr) (cap : Nat) (hav : a.av m = .slice ad n cap) (hn : n < 4000000)
    (hi : (x.mp m).iss = (n : Nat)) (hr : (x.mp m).rt = a.rt m) (_ : 0 ≤ a.rt m) (hr1 : a.rt m ≤ n) (hr4 : (n : Int) ≤ a.rt m + 4) (w : World) (hA : Blk w ab (encA a) 82) (hG : w.cell? ⟨a.rg, 0, none⟩ = some (.pointer (some ⟨xb, 0, none⟩))) (hX : Blk w xb (encX L x) 132) (hne : a.rg ≠ ab) :
    Calls Tryd.prog 45 #[.pointer (some ⟨ab, 0, none⟩), .agg (opC o), .agg (encO false 2 0 rep0)] w fun e w' => e = .returned (.tuple #[]) ∧ Below w.heap.size w w' := by
  unfold opC
  rw [ha]
  have hgl : a.rg < w.heap.size := World.block_lt_of_cell? _ _ hG
  have HX := hid_of hX
  obtain ⟨w0, rfl, hl0⟩ := hA.out
  rw [put_size] at hgl
  rw [put_cell_ne _ _ _ _ _ _ _ hne] at hG
  have hwr : ((n : Nat) : Int) % 4294967296 = (n : Nat) := by omega
  have hsub : IntKind.i64.wrap (((n : Nat) : Int) - a.rt m) = (n : Nat) - a.rt m := by simp [IntKind.wrap, IntKind.bits, IntKind.signed]; omega
  have hle : decide (((n : Nat) : Int) - a.rt m ≤ 4) = true := by simp; omega
  obtain ⟨W, hW⟩ : ∃ W, ((put w0 ab (encA a) 82).alloc (.cells #[.int .u8 o.k, .int .u32 ((m : Nat) : Int), .int .u32 o.b, .int .u32 o.c] 31)).alloc (.cells (encO false 2 0 rep0) 43) = W := ⟨_, rfl⟩
  have HB5 : Hid (∀ c, Blk ((((put w0 ab (encA a) 82).alloc (.cells #[.int .u8 o.k, .int .u32 ((m : Nat) : Int), .int .u32 o.b, .int .u32 o.c] 31)).alloc (.cells (encO false 2 0 rep0) 43)).alloc (.cells c 43)) (w0.heap.size + 1) (encO false 2 0 rep0) 43) := fun c => by
    have := (Blk.new ((put w0 ab (encA a) 82).alloc (.cells #[.int .u8 o.k, .int .u32 ((m : Nat) : Int), .int .u32 o.b, .int .u32 o.c] 31)) (encO false 2 0 rep0) 43).alloc (.cells c 43)
    simp [put_size] at this; exact this
  have HB7 : Hid (∀ c, Blk ((((put w0 ab (encA a) 82).alloc (.cells #[.int .u8 o.k, .int .u32 ((m : Nat) : Int), .int .u32 o.b, .int .u32 o.c] 31)).alloc (.cells (encO false 2 0 rep0) 43)).alloc (.cells c 43)) (w0.heap.size + 1 + 1) c 43) := fun c => by
    have := Blk.new (((put w0 ab (encA a) 82).alloc (.cells #[.int .u8 o.k, .int .u32 ((m : Nat) : Int), .int .u32 o.b, .int .u32 o.c] 31)).alloc (.cells (encO false 2 0 rep0) 43)) c 43
    simp [put_size] at this; exact this
  have HS7 : Hid (∀ c c', ((((put w0 ab (encA a) 82).alloc (.cells #[.int .u8 o.k, .int .u32 ((m : Nat) : Int), .int .u32 o.b, .int .u32 o.c] 31)).alloc (.cells (encO false 2 0 rep0) 43)).alloc (.cells c 43)).setRow (w0.heap.size + 1 + 1) c' = (((put w0 ab (encA a) 82).alloc (.cells #[.int .u8 o.k, .int .u32 ((m : Nat) : Int), .int .u32 o.b, .int .u32 o.c] 31)).alloc (.cells (encO false 2 0 rep0) 43)).alloc (.cells c' 43)) := fun c c' => by
    have := World.setRow_alloc_new (((put w0 ab (encA a) 82).alloc (.cells #[.int .u8 o.k, .int .u32 ((m : Nat) : Int), .int .u32 o.b, .int .u32 o.c] 31)).alloc (.cells (encO false 2 0 rep0) 43)) c c' 43
    simp [put_size] at this; exact this
  clear hA hX hW
  have z1 : ab < w0.heap.size + 1 := by omega
  have z2 : ab < w0.heap.size + 1 + 1 := by omega
  have z3 : a.rg < w0.heap.size + 1 := by omega
  have z4 : a.rg < w0.heap.size + 1 + 1 := by omega
  have z5 : w0.heap.size < w0.heap.size + 1 + 1 := by omega
  have z6 : w0.heap.size + 1 < w0.heap.size + 1 + 1 := by omega
  go_enter Tryd.func45, Tryd.ntmps45
  go_wp2_with (first
    | ((with_reducible show wpList _ _ _ ({ dst := _, op := Op.load 43 (Operand.tmp 5), type := _, pos := _, after := _, guard := _ } :: _) _ _); refine wpList_load_yes (by rfl) 43 (.tmp 5) (by rfl) (w0.heap.size + 1) (by rfl) 43 _ (0, 0) _ (HB5.out _) Tryd.underlying43 rfl (by rw [Tryd.size43, encO_size]) ?_)
    | ((with_reducible show wpList _ _ _ ({ dst := _, op := Op.load 43 (Operand.tmp 7), type := _, pos := _, after := _, guard := _ } :: _) _ _); refine wpList_load_yes (by rfl) 43 (.tmp 7) (by rfl) (w0.heap.size + 1 + 1) (by rfl) 43 _ (0, 0) _ (HB7.out _) Tryd.underlying43 rfl (by rw [Tryd.size43, encO_size]) ?_)
    | ((with_reducible show wpList _ _ _ ({ dst := none, op := Op.store 43 (Operand.tmp 7) (Operand.tmp 35), type := _, pos := _, after := _, guard := _ } :: _) _ _); rw [← encO_zero]; rw [← encO_lit0]; refine wpList_store_row (by rfl) 43 (.tmp 7) (.tmp 35) (by rfl) (w0.heap.size + 1 + 1) (encO false 0 (n : Nat) rep0) (by rfl) (by rfl) 43 _ (HB7.out _) (by rw [Tryd.size43, encO_size]) (by simp only [encO_size]) (encO_one _ _ _ _) ?_; rw [HS7.out])
    | ((with_reducible show wpList _ _ _ ({ dst := none, op := Op.store 43 (Operand.tmp 7) (Operand.tmp 43), type := _, pos := _, after := _, guard := _ } :: _) _ _); rw [← encO_lit0 false 2 0]; refine wpList_store_row (by rfl) 43 (.tmp 7) (.tmp 43) (by rfl) (w0.heap.size + 1 + 1) (encO false 2 0 rep0) (by rfl) (by rfl) 43 _ (HB7.out _) (by rw [Tryd.size43, encO_size]) (by simp only [encO_size]) (encO_one _ _ _ _) ?_; rw [HS7.out])
    | ((with_reducible show wpList _ _ _ ({ dst := _, op := Op.binOp BinOp.eql 43 (Operand.tmp 50) _ _, type := _, pos := _, after := _, guard := _ } :: _) _ _); refine wpList_eql_yes (by rfl) 43 (.tmp 50) (.tmp 51) 43 (by rfl) (encO false 2 0 rep0) (encO false 2 0 rep0) true (by rfl) (by rfl) Tryd.eqg43 (eq43 _ _ _ _) ?_)
    | ((with_reducible show wpList _ _ _ ({ dst := _, op := Op.binOp BinOp.eql 43 (Operand.tmp 87) _ _, type := _, pos := _, after := _, guard := _ } :: _) _ _); refine wpList_eql_yes (by rfl) 43 (.tmp 87) (.tmp 88) 43 (by rfl) (encO false 2 0 rep0) (encO false 2 0 rep0) true (by rfl) (by rfl) Tryd.eqg43 (eq43 _ _ _ _) ?_))
  go_quiet (fail)
  go_wp2_with fail
  refine (outstanding_any L xb x m hm (by rw [hi, hr]; omega) (by rw [hi, hr]; omega) _ (by exact ((HX.out.alloc _).alloc _).alloc _)).mono ?_
  rw [hi, hr]
  rintro e w2 ⟨rfl, n2, rfl⟩
  rw [World.drewN_drewN]
  go_wp2_with fail
  go_end0
  exact ⟨rfl, below_drewN ((((Below.refl _ _).alloc (by simp [put_size]) _).alloc (by simp [put_size]) _).alloc (by simp [put_size]; omega) _)⟩
end Go.Proofs.Qxb6500750aDoor
