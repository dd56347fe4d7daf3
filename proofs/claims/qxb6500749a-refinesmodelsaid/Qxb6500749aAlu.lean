import Derived.Test.Qxb6500749aDec
namespace Go.Proofs.Qxb6500749a
open Go.RowKit
attribute [local go_sem] put_size put_cell_same put_cell_ne put_frozen_same put_frozen_ne put_setCell_same put_setCell_ne put_drew
attribute [local go_sem] drewN_setCell drewN_alloc drewN_put
/-! ### The three-register operations -/
theorem and_31 (a : Int) (h0 : 0 ≤ a) (h1 : a < 4294967296) : bits BinOp.and IntKind.u32 a 31 = ((a % 32).toNat : Nat) := by
  obtain ⟨x, rfl⟩ := Int.eq_ofNat_of_zero_le h0
  rw [u32_and x 31 (by omega) (by omega) (by omega) (by omega), Int.toNat_natCast]
  have : (31 : Int).toNat = 2 ^ 5 - 1 := rfl
  rw [this, Nat.and_two_pow_sub_one_eq_mod]
  omega
def shF (b : Int) : Nat := (b % 32).toNat
def aluF (op a b : Int) : Int :=
  if op = 5 then (a + b) % 4294967296 else if op = 6 then (a - b) % 4294967296 else if op = 7 then bits BinOp.and IntKind.u32 a b else if op = 8 then bits BinOp.or IntKind.u32 a b else if op = 9 then bits BinOp.xor IntKind.u32 a b
  else if op = 10 then a * 2 ^ shF b % 4294967296 else if op = 11 then a / 2 ^ shF b else if op = 12 then wrap32 a / 2 ^ shF b % 4294967296 else if op = 15 then (if wrap32 a < wrap32 b then 1 else 0) else (if a < b then 1 else 0)
set_option linter.unusedVariables false in
set_option maxRecDepth 100000 in
theorem alu_5 (a b : Int) (ha : 0 ≤ a ∧ a < 4294967296) (hb : 0 ≤ b ∧ b < 4294967296) (w : World) :
    Calls Try.prog 87 #[.int .u8 5, .int .u32 a, .int .u32 b] w fun e w' => e = .returned (.int .u32 (aluF 5 a b)) ∧ w' = w := by
  have hr : Hid (aluF 5 a b = (a + b) % 4294967296) := rfl
  rw [hr.out]
  clear hr
  go_enter Try.func87, Try.ntmps87
  go_wp2_with fail
  go_ret
  exact ⟨rfl, rfl⟩
set_option linter.unusedVariables false in
set_option maxRecDepth 100000 in
theorem alu_6 (a b : Int) (ha : 0 ≤ a ∧ a < 4294967296) (hb : 0 ≤ b ∧ b < 4294967296) (w : World) :
    Calls Try.prog 87 #[.int .u8 6, .int .u32 a, .int .u32 b] w fun e w' => e = .returned (.int .u32 (aluF 6 a b)) ∧ w' = w := by
  have hr : Hid (aluF 6 a b = (a - b) % 4294967296) := rfl
  rw [hr.out]
  clear hr
  go_enter Try.func87, Try.ntmps87
  go_wp2_with fail
  go_ret
  exact ⟨rfl, rfl⟩
set_option linter.unusedVariables false in
set_option maxRecDepth 100000 in
theorem alu_7 (a b : Int) (ha : 0 ≤ a ∧ a < 4294967296) (hb : 0 ≤ b ∧ b < 4294967296) (w : World) :
    Calls Try.prog 87 #[.int .u8 7, .int .u32 a, .int .u32 b] w fun e w' => e = .returned (.int .u32 (aluF 7 a b)) ∧ w' = w := by
  have hr : Hid (aluF 7 a b = bits BinOp.and IntKind.u32 a b) := rfl
  rw [hr.out]
  clear hr
  go_enter Try.func87, Try.ntmps87
  go_wp2_with fail
  go_ret
  exact ⟨rfl, rfl⟩
set_option linter.unusedVariables false in
set_option maxRecDepth 100000 in
theorem alu_8 (a b : Int) (ha : 0 ≤ a ∧ a < 4294967296) (hb : 0 ≤ b ∧ b < 4294967296) (w : World) :
    Calls Try.prog 87 #[.int .u8 8, .int .u32 a, .int .u32 b] w fun e w' => e = .returned (.int .u32 (aluF 8 a b)) ∧ w' = w := by
  have hr : Hid (aluF 8 a b = bits BinOp.or IntKind.u32 a b) := rfl
  rw [hr.out]
  clear hr
  go_enter Try.func87, Try.ntmps87
  go_wp2_with fail
  go_ret
  exact ⟨rfl, rfl⟩
set_option linter.unusedVariables false in
set_option maxRecDepth 100000 in
theorem alu_9 (a b : Int) (ha : 0 ≤ a ∧ a < 4294967296) (hb : 0 ≤ b ∧ b < 4294967296) (w : World) :
    Calls Try.prog 87 #[.int .u8 9, .int .u32 a, .int .u32 b] w fun e w' => e = .returned (.int .u32 (aluF 9 a b)) ∧ w' = w := by
  have hr : Hid (aluF 9 a b = bits BinOp.xor IntKind.u32 a b) := rfl
  rw [hr.out]
  clear hr
  go_enter Try.func87, Try.ntmps87
  go_wp2_with fail
  go_ret
  exact ⟨rfl, rfl⟩
set_option linter.unusedVariables false in
set_option maxRecDepth 100000 in
theorem alu_10 (a b : Int) (ha : 0 ≤ a ∧ a < 4294967296) (hb : 0 ≤ b ∧ b < 4294967296) (w : World) :
    Calls Try.prog 87 #[.int .u8 10, .int .u32 a, .int .u32 b] w fun e w' => e = .returned (.int .u32 (aluF 10 a b)) ∧ w' = w := by
  have hr : Hid (aluF 10 a b = a * 2 ^ shF b % 4294967296) := rfl
  rw [hr.out]
  have hs := and_31 b hb.1 hb.2
  have hs2 : ((b % 32).toNat : Nat) = shF b := rfl
  rw [hs2] at hs
  have hs3 : shF b < 32 := by unfold shF; omega
  obtain ⟨s, hse⟩ : ∃ s, shF b = s := ⟨_, rfl⟩
  rw [hse] at hs hs3 ⊢
  have hsi : ((s : Nat) : Int) < 32 := by omega
  clear hse hs2 hr
  go_enter Try.func87, Try.ntmps87
  go_wp2_with fail
  go_ret
  exact ⟨rfl, rfl⟩
set_option linter.unusedVariables false in
set_option maxRecDepth 100000 in
theorem alu_11 (a b : Int) (ha : 0 ≤ a ∧ a < 4294967296) (hb : 0 ≤ b ∧ b < 4294967296) (w : World) :
    Calls Try.prog 87 #[.int .u8 11, .int .u32 a, .int .u32 b] w fun e w' => e = .returned (.int .u32 (aluF 11 a b)) ∧ w' = w := by
  have hr : Hid (aluF 11 a b = a / 2 ^ shF b) := rfl
  rw [hr.out]
  have hs := and_31 b hb.1 hb.2
  have hs2 : ((b % 32).toNat : Nat) = shF b := rfl
  rw [hs2] at hs
  have hs3 : shF b < 32 := by unfold shF; omega
  obtain ⟨s, hse⟩ : ∃ s, shF b = s := ⟨_, rfl⟩
  rw [hse] at hs hs3 ⊢
  have hsi : ((s : Nat) : Int) < 32 := by omega
  clear hse hs2 hr
  go_enter Try.func87, Try.ntmps87
  go_wp2_with fail
  go_ret
  exact ⟨rfl, rfl⟩
set_option linter.unusedVariables false in
set_option maxRecDepth 100000 in
theorem alu_12 (a b : Int) (ha : 0 ≤ a ∧ a < 4294967296) (hb : 0 ≤ b ∧ b < 4294967296) (w : World) :
    Calls Try.prog 87 #[.int .u8 12, .int .u32 a, .int .u32 b] w fun e w' => e = .returned (.int .u32 (aluF 12 a b)) ∧ w' = w := by
  have hr : Hid (aluF 12 a b = wrap32 a / 2 ^ shF b % 4294967296) := rfl
  rw [hr.out]
  have hs := and_31 b hb.1 hb.2
  have hs2 : ((b % 32).toNat : Nat) = shF b := rfl
  rw [hs2] at hs
  have hs3 : shF b < 32 := by unfold shF; omega
  obtain ⟨s, hse⟩ : ∃ s, shF b = s := ⟨_, rfl⟩
  rw [hse] at hs hs3 ⊢
  have hsi : ((s : Nat) : Int) < 32 := by omega
  clear hse hs2 hr
  go_enter Try.func87, Try.ntmps87
  go_wp2_with fail
  go_ret
  exact ⟨rfl, rfl⟩
set_option linter.unusedVariables false in
set_option maxRecDepth 100000 in
theorem alu_15 (a b : Int) (ha : 0 ≤ a ∧ a < 4294967296) (hb : 0 ≤ b ∧ b < 4294967296) (w : World) :
    Calls Try.prog 87 #[.int .u8 15, .int .u32 a, .int .u32 b] w fun e w' => e = .returned (.int .u32 (aluF 15 a b)) ∧ w' = w := by
  obtain ⟨t, ht⟩ : ∃ t, decide (wrap32 a < wrap32 b) = t := ⟨_, rfl⟩
  have hr : Hid (aluF 15 a b = if t = true then 1 else 0) := by
    unfold Hid
    show (if wrap32 a < wrap32 b then (1 : Int) else 0) = _
    by_cases h : wrap32 a < wrap32 b
    · rw [if_pos h, ← ht, decide_eq_true h]; rfl
    · rw [if_neg h, ← ht, decide_eq_false h]; rfl
  rw [hr.out]
  have HF := hid_of (flag_any t w)
  obtain ⟨y, hy⟩ : ∃ y : Int, (if t = true then 1 else 0) = y := ⟨_, rfl⟩
  rw [hy] at HF ⊢
  clear hr hy
  go_enter Try.func87, Try.ntmps87
  go_wp2_with fail
  refine HF.out.mono ?_
  rintro e w1 ⟨rfl, hw1⟩
  obtain rfl := hw1.symm
  go_wp2_with fail
  go_ret
  exact ⟨rfl, rfl⟩
set_option linter.unusedVariables false in
set_option maxRecDepth 100000 in
theorem alu_16 (a b : Int) (ha : 0 ≤ a ∧ a < 4294967296) (hb : 0 ≤ b ∧ b < 4294967296) (w : World) :
    Calls Try.prog 87 #[.int .u8 16, .int .u32 a, .int .u32 b] w fun e w' => e = .returned (.int .u32 (aluF 16 a b)) ∧ w' = w := by
  obtain ⟨t, ht⟩ : ∃ t, decide (a < b) = t := ⟨_, rfl⟩
  have hr : Hid (aluF 16 a b = if t = true then 1 else 0) := by
    unfold Hid
    show (if a < b then (1 : Int) else 0) = _
    by_cases h : a < b
    · rw [if_pos h, ← ht, decide_eq_true h]; rfl
    · rw [if_neg h, ← ht, decide_eq_false h]; rfl
  rw [hr.out]
  have HF := hid_of (flag_any t w)
  obtain ⟨y, hy⟩ : ∃ y : Int, (if t = true then 1 else 0) = y := ⟨_, rfl⟩
  rw [hy] at HF ⊢
  clear hr hy
  go_enter Try.func87, Try.ntmps87
  go_wp2_with fail
  refine HF.out.mono ?_
  rintro e w1 ⟨rfl, hw1⟩
  obtain rfl := hw1.symm
  go_wp2_with fail
  go_ret
  exact ⟨rfl, rfl⟩
def isAlu (op : Int) : Prop := op = 5 ∨ op = 6 ∨ op = 7 ∨ op = 8 ∨ op = 9 ∨ op = 10 ∨ op = 11 ∨ op = 12 ∨ op = 15 ∨ op = 16
theorem alu_any (op a b : Int) (ho : isAlu op) (ha : 0 ≤ a ∧ a < 4294967296) (hb : 0 ≤ b ∧ b < 4294967296) (w : World) :
    Calls Try.prog 87 #[.int .u8 op, .int .u32 a, .int .u32 b] w fun e w' => e = .returned (.int .u32 (aluF op a b)) ∧ w' = w := by
  rcases ho with rfl | rfl | rfl | rfl | rfl | rfl | rfl | rfl | rfl | rfl
  · exact alu_5 a b ha hb w
  · exact alu_6 a b ha hb w
  · exact alu_7 a b ha hb w
  · exact alu_8 a b ha hb w
  · exact alu_9 a b ha hb w
  · exact alu_10 a b ha hb w
  · exact alu_11 a b ha hb w
  · exact alu_12 a b ha hb w
  · exact alu_15 a b ha hb w
  · exact alu_16 a b ha hb w
end Go.Proofs.Qxb6500749a
