import Derived.Test.Qxb6500749aAcc
import Derived.Test.Qxb6500749aMcl
namespace Go.Proofs.Qxb6500749a
open Go.RowKit
attribute [local go_sem] put_size put_cell_same put_cell_ne put_frozen_same put_frozen_ne put_setCell_same put_setCell_ne put_drew
attribute [local go_sem] drewN_setCell drewN_alloc drewN_put
/-! ### The interpreter, plain -/
structure IM where
  r : Nat → Int
  pc : Int
  hal : Bool
  tra : Bool
  m : Int → Int
  log : List TR
def itI (M : IM) (i : IN) : IM :=
  if i.op = 0 then { M with pc := (M.pc + 1) % 4294967296 }
  else if i.op = 1 then { M with hal := true }
  else if i.op = 2 then { M with r := upd M.r i.rd i.i16, pc := (M.pc + 1) % 4294967296 }
  else if i.op = 3 then { M with r := upd M.r i.rd (i.i16 * 65536 % 4294967296), pc := (M.pc + 1) % 4294967296 }
  else if i.op = 4 then { M with r := upd M.r i.rd (M.r i.ra), pc := (M.pc + 1) % 4294967296 }
  else if i.op = 13 then { M with r := upd M.r i.rd ((M.r i.ra + i.i12) % 4294967296), pc := (M.pc + 1) % 4294967296 }
  else if i.op = 14 then { M with r := upd M.r i.rd (bits BinOp.and IntKind.u32 (M.r i.ra) i.i12), pc := (M.pc + 1) % 4294967296 }
  else if i.op = 17 then { M with r := if mapF ((M.r i.ra + i.i12) % 4294967296) = true then upd M.r i.rd (M.m ((M.r i.ra + i.i12) % 4294967296)) else M.r, pc := (M.pc + 1) % 4294967296, tra := !mapF ((M.r i.ra + i.i12) % 4294967296), log := M.log ++ [accT M.m false ((M.r i.ra + i.i12) % 4294967296) 0] }
  else if i.op = 18 then { M with m := accM M.m true ((M.r i.ra + i.i12) % 4294967296) (M.r i.rd), pc := (M.pc + 1) % 4294967296, tra := !mapF ((M.r i.ra + i.i12) % 4294967296), log := M.log ++ [accT M.m true ((M.r i.ra + i.i12) % 4294967296) (M.r i.rd)] }
  else if i.op = 19 ∨ i.op = 20 ∨ i.op = 21 then { M with pc := if takF i.op (M.r i.ra) (M.r i.rb) = true then (M.pc + i.i12) % 4294967296 else (M.pc + 1) % 4294967296 }
  else if i.op = 22 then { M with r := upd M.r i.rd ((M.pc + 1) % 4294967296), pc := (M.pc + i.i16) % 4294967296 }
  else if i.op = 23 then { M with pc := M.r i.ra }
  else if i.op < 17 then { M with r := upd M.r i.rd (aluF i.op (M.r i.ra) (M.r i.rb)), pc := (M.pc + 1) % 4294967296 }
  else { M with tra := true }
def itF (prog : List Int) (M : IM) : IM := if (M.hal || M.tra) = true then M else itI M (decF (fetF prog M.pc))
def itN (prog : List Int) (M : IM) : Nat → IM
  | 0 => M
  | n + 1 => itF prog (itN prog M n)
structure IM.Ok (M : IM) : Prop where
  r : ∀ j, W32 (M.r j)
  pc : W32 M.pc
  m : ∀ a, W32 (M.m a)
/-! ### small helpers of the interpreter -/
theorem sg12 (x : Int) (hx : W32 x) : (if 2048 ≤ x % 4096 then (x % 4096 - 4096) % 4294967296 else x % 4096) = (decF x).i12 := by
  unfold decF wrap32
  have := hx.1
  have := hx.2
  simp only []
  repeat' split
  all_goals omega
theorem sg16 (x : Int) (hx : W32 x) : (if 32768 ≤ x % 65536 then (x % 65536 - 65536) % 4294967296 else x % 65536) = (decF x).i16 := by
  unfold decF wrap32
  have := hx.1
  have := hx.2
  simp only []
  repeat' split
  all_goals omega
set_option maxRecDepth 100000 in
theorem signed12 (x : Int) (hx : W32 x) (w : World) : Calls Try.prog 37 #[.int .u32 x, .int .i64 12] w fun e w' => e = .returned (.int .u32 (decF x).i12) ∧ w' = w := by
  have ht : x.tmod 4096 = x % 4096 := Int.tmod_eq_emod_of_nonneg hx.1
  have hr : (x % 4096) % 4294967296 = x % 4096 := by omega
  rw [← sg12 x hx]
  by_cases h : 2048 ≤ x % 4096
  · rw [if_pos h]
    go_enter Try.func37, Try.ntmps37
    go_wp2_with fail
    go_ret
    exact ⟨rfl, rfl⟩
  · rw [if_neg h]
    go_enter Try.func37, Try.ntmps37
    go_wp2_with fail
    go_ret
    exact ⟨rfl, rfl⟩
set_option maxRecDepth 100000 in
theorem signed16 (x : Int) (hx : W32 x) (w : World) : Calls Try.prog 37 #[.int .u32 x, .int .i64 16] w fun e w' => e = .returned (.int .u32 (decF x).i16) ∧ w' = w := by
  have ht : x.tmod 65536 = x % 65536 := Int.tmod_eq_emod_of_nonneg hx.1
  have hr : (x % 65536) % 4294967296 = x % 65536 := by omega
  rw [← sg16 x hx]
  by_cases h : 32768 ≤ x % 65536
  · rw [if_pos h]
    go_enter Try.func37, Try.ntmps37
    go_wp2_with fail
    go_ret
    exact ⟨rfl, rfl⟩
  · rw [if_neg h]
    go_enter Try.func37, Try.ntmps37
    go_wp2_with fail
    go_ret
    exact ⟨rfl, rfl⟩
set_option maxRecDepth 100000 in
theorem one_any (b : Bool) (w : World) : Calls Try.prog 38 #[.bool b] w fun e w' => e = .returned (.int .u32 (if b = true then 1 else 0)) ∧ w' = w := by
  cases b
  · go_enter Try.func38, Try.ntmps38
    go_wp2_with fail
    go_ret
    exact ⟨rfl, rfl⟩
  · go_enter Try.func38, Try.ntmps38
    go_wp2_with fail
    go_ret
    exact ⟨rfl, rfl⟩
/-! ### The machine in the world -/
def mV (pv : Value) (mm : Nat) (M : IM) (gv : Value) : Array Value := #[pv, .map (some mm), .int .u32 (M.r 0), .int .u32 (M.r 1), .int .u32 (M.r 2), .int .u32 (M.r 3), .int .u32 (M.r 4), .int .u32 (M.r 5), .int .u32 (M.r 6), .int .u32 (M.r 7), .int .u32 (M.r 8), .int .u32 (M.r 9), .int .u32 (M.r 10), .int .u32 (M.r 11), .int .u32 (M.r 12), .int .u32 (M.r 13), .int .u32 (M.r 14), .int .u32 (M.r 15), .int .u32 M.pc, .bool M.hal, .bool M.tra, gv]
theorem mV_reg (pv : Value) (mm : Nat) (M : IM) (gv : Value) (j : Nat) (h : j < 16) : (mV pv mm M gv)[2 + j]? = some (.int .u32 (M.r j)) := by
  obtain rfl | rfl | rfl | rfl | rfl | rfl | rfl | rfl | rfl | rfl | rfl | rfl | rfl | rfl | rfl | rfl : j = 0 ∨ j = 1 ∨ j = 2 ∨ j = 3 ∨ j = 4 ∨ j = 5 ∨ j = 6 ∨ j = 7 ∨ j = 8 ∨ j = 9 ∨ j = 10 ∨ j = 11 ∨ j = 12 ∨ j = 13 ∨ j = 14 ∨ j = 15 := by omega
  all_goals rfl
theorem mV_set (pv : Value) (mm : Nat) (M : IM) (gv : Value) (j : Nat) (h : j < 16) (x : Int) : (mV pv mm M gv).setIfInBounds (2 + j) (.int .u32 x) = mV pv mm { M with r := upd M.r j x } gv := by
  obtain rfl | rfl | rfl | rfl | rfl | rfl | rfl | rfl | rfl | rfl | rfl | rfl | rfl | rfl | rfl | rfl : j = 0 ∨ j = 1 ∨ j = 2 ∨ j = 3 ∨ j = 4 ∨ j = 5 ∨ j = 6 ∨ j = 7 ∨ j = 8 ∨ j = 9 ∨ j = 10 ∨ j = 11 ∨ j = 12 ∨ j = 13 ∨ j = 14 ∨ j = 15 := by omega
  all_goals rfl
structure MR (w : World) (b mm : Nat) (pv gv : Value) (prog : List Int) (M : IM) : Prop where
  blk : Blk w b (mV pv mm M gv) 46
  prog : Sl w pv 30 1 prog.length (prow prog)
  map : MapB w mm M.m
  log : Sl w gv 68 5 M.log.length (M.log.flatMap trow)
def KM (b mm : Nat) (gv : Value) : Nat → Prop := fun k => k = b ∨ k = mm ∨ gv.ownBlock = some k
theorem MR.below {w w' : World} {b mm : Nat} {pv gv : Value} {prog : List Int} {M : IM} (h : MR w b mm pv gv prog M) (k : Below w.heap.size w w') : MR w' b mm pv gv prog M :=
  ⟨(k.block _ h.blk.lt).trans h.blk, h.prog.same fun b hb => k.block b (h.prog.lt b hb), h.map.same (k.block _ h.map.lt), h.log.same fun b hb => k.block b (h.log.lt b hb)⟩
/-- The machine's row laid anew. -/
theorem MR.row {w : World} {b mm : Nat} {pv gv : Value} {prog : List Int} {M : IM} (h : MR w b mm pv gv prog M) (M' : IM) (h1 : M'.m = M.m) (h2 : M'.log = M.log) : MR (put w b (mV pv mm M' gv) 46) b mm pv gv prog M' :=
  ⟨Blk.put_same h.blk.lt, h.prog.same fun k hk => put_heap_ne _ _ _ _ _ (h.blk.sl_ne (by decide) h.prog k hk), by rw [h1]; exact h.map.same (put_heap_ne _ _ _ _ _ (h.map.neB h.blk)), by rw [h2]; exact h.log.same fun k hk => put_heap_ne _ _ _ _ _ (h.blk.sl_ne (by decide) h.log k hk)⟩
/-- What a step of the machine leaves. -/
def MPost (w : World) (b mm : Nat) (pv gv : Value) (prog : List Int) (M' : IM) (w' : World) : Prop :=
  ∃ gv', MR w' b mm pv gv' prog M' ∧ Fr (KM b mm gv) w w' ∧ (∀ k, gv'.ownBlock = some k → gv.ownBlock = some k ∨ w.heap.size ≤ k)
end Go.Proofs.Qxb6500749a
