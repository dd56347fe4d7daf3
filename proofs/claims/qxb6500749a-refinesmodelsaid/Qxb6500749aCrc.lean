import Derived.Test.Qxb6500749aPar
namespace Go.Proofs.Qxb6500749a
open Go.RowKit
/-! ### CRC-32 -/
def crcB (reg x : Int) (bit : Nat) : Int :=
  if bits BinOp.and IntKind.u32 (bits BinOp.xor IntKind.u32 reg (x / 2 ^ bit)) 1 = 1 then bits BinOp.xor IntKind.u32 (reg / 2) 3988292384 else reg / 2
def crcW (reg x : Int) : Nat → Int
  | 0 => reg
  | k + 1 => crcB (crcW reg x k) x k
theorem crcW_succ (reg x : Int) (k : Nat) : crcW reg x (k + 1) = crcB (crcW reg x k) x k := rfl
def crcF (x0 x1 x2 : Int) : Int := bits BinOp.xor IntKind.u32 4294967295 (crcW (crcW (crcW 4294967295 x0 32) x1 32) x2 32)
theorem w32_half {x : Int} (h : W32 x) : W32 (x / 2) := ⟨by have := h.1; omega, by have := h.1; have := h.2; omega⟩
theorem crcB_w32 {reg : Int} (h : W32 reg) (x : Int) (bit : Nat) : W32 (crcB reg x bit) := by
  unfold crcB
  exact w32_ite (W32.bxor _ _) (w32_half h)
theorem crcW_w32 {reg : Int} (h : W32 reg) (x : Int) (k : Nat) : W32 (crcW reg x k) := by
  induction k with
  | zero => exact h
  | succ k ih => exact crcB_w32 ih x k
theorem crcF_w32 (x0 x1 x2 : Int) : W32 (crcF x0 x1 x2) := W32.bxor _ _
def fr45 (ib cap : Nat) (i : Int) (x reg : Int) (bit : Nat) (u : Nat → Value) : Act :=
  { tmps := ((.slice (some ⟨ib, 0, none⟩) 3 cap) :: (u 1) :: (u 2) :: (.int .u32 reg) :: (u 4) :: (.int .u32 x) :: (.int .i64 (bit : Nat)) :: (u 7) :: (.slice (some ⟨ib, 0, none⟩) 3 cap) :: (.int .i64 3) :: (.int .i64 i) :: (u 11) :: (u 12) :: (u 13) :: (u 14) :: (u 15) :: (u 16) :: (u 17) :: (u 18) :: (u 19) :: (u 20) :: (u 21) :: (u 22) :: (u 23) :: (u 24) :: (u 25) :: (u 26) :: (u 27) :: (u 28) :: (u 29) :: (u 30) :: (u 31) :: (u 32) :: [] : List Value).toArray, defers := [] }
set_option maxRecDepth 100000 in
set_option maxHeartbeats 4000000 in
theorem crc_any (ib cap : Nat) (x0 x1 x2 : Int) (h0 : W32 x0) (h1 : W32 x1) (h2 : W32 x2) (w : World) (p0 : w.cell? ⟨ib, 0, none⟩ = some (.int .u32 x0)) (p1 : w.cell? ⟨ib, 1, none⟩ = some (.int .u32 x1)) (p2 : w.cell? ⟨ib, 2, none⟩ = some (.int .u32 x2)) :
    Calls Try.prog 45 #[.slice (some ⟨ib, 0, none⟩) 3 cap] w fun e w' => e = .returned (.int .u32 (crcF x0 x1 x2)) ∧ w' = w := by
  go_enter Try.func45, Try.ntmps45
  go_wp2_with fail
  refine wp_loop_rounds 4 ?_
  rw [rounds_succ]
  go_wp2_with fail
  have hw0 : W32 4294967295 := w32_lit _ (by decide)
  obtain ⟨r0, hr0⟩ : ∃ r0 : Int, 4294967295 = r0 := ⟨_, rfl⟩
  have HR0 := hid_of hr0
  have HW0 : Hid (W32 r0) := by rw [← hr0]; exact hw0
  clear hw0 hr0
  refine q_of (Q := fun a => (Code.loop _).wp Try.prog _ a _) (F := fr45 ib cap 0 x0 (4294967295) 0) (fun u0 => ?_) _ (by kernel_rfl)
  refine wp_loop (fun act wr => ∃ (u : Nat → Value) (k : Nat), act = fr45 ib cap 0 x0 (crcW (4294967295) x0 k) k u ∧ k ≤ 32 ∧ wr = w) (fun act _ => 32 - (intOf (act.tmps.getD 6 undef)).toNat) ⟨u0, 0, rfl, by omega, rfl⟩ ?_
  rintro act wr ⟨u, k, rfl, hk, hwr⟩
  obtain rfl := hwr.symm
  clear hwr
  have hxw : W32 (crcW (4294967295) x0 k) := crcW_w32 (w32_lit _ (by decide)) _ _
  have hsu := crcW_succ (4294967295) x0 k
  obtain ⟨y, hy⟩ : ∃ y, crcW (4294967295) x0 k = y := ⟨_, rfl⟩
  rw [hy] at hsu hxw ⊢
  have HY := hid_of hy
  clear hy
  by_cases hk32 : k < 32
  · have hki : ((k : Nat) : Int) < 32 := by omega
    have hadd : IntKind.i64.wrap (((k : Nat) : Int) + 1) = (k : Nat) + 1 := by simp [IntKind.wrap, IntKind.bits, IntKind.signed]; omega
    have hsh : x0 / 2 ^ k % 4294967296 = x0 / 2 ^ k := by
      have q0 : (0 : Int) < 2 ^ k := Int.pow_pos (by decide)
      have q1 := Int.ediv_nonneg h0.1 (Int.le_of_lt q0)
      have q2 := Int.ediv_le_self (2 ^ k : Int) h0.1
      have := h0.2
      omega
    have hhf : y / 2 % 4294967296 = y / 2 := by have := hxw.1; have := hxw.2; omega
    have HXW := hid_of hxw
    have HKR : Hid (∀ (act : Act), act = fr45 ib cap 0 x0 (crcB y x0 k) (k + 1) (fun i => act.tmps.getD i undef) → (∃ (u : Nat → Value) (k' : Nat), act = fr45 ib cap 0 x0 (crcW (4294967295) x0 k') k' u ∧ k' ≤ 32 ∧ w = w) ∧ 32 - (intOf (act.tmps.getD 6 undef)).toNat < 32 - (intOf ((fr45 ib cap 0 x0 y k u).tmps.getD 6 undef)).toNat) := fun act e => by
      refine ⟨⟨_, k + 1, by rw [hsu]; exact e, hk32, rfl⟩, ?_⟩
      have e1 : act.tmps.getD 6 undef = .int .i64 ((k + 1 : Nat) : Int) := by rw [e]; rfl
      have e2 : (fr45 ib cap 0 x0 y k u).tmps.getD 6 undef = .int .i64 ((k : Nat) : Int) := rfl
      simp only [e1, e2, intOf]
      omega
    have HCB : Hid (crcB y x0 k = if bits BinOp.and IntKind.u32 (bits BinOp.xor IntKind.u32 y (x0 / 2 ^ k)) 1 = 1 then bits BinOp.xor IntKind.u32 (y / 2) 3988292384 else y / 2) := rfl
    clear hsu hxw
    obtain ⟨KR, hKR⟩ : ∃ KR : Act → World → Prop, KR = fun act wr => (∃ (u : Nat → Value) (k' : Nat), act = fr45 ib cap 0 x0 (crcW (4294967295) x0 k') k' u ∧ k' ≤ 32 ∧ wr = w) ∧ 32 - (intOf (act.tmps.getD 6 undef)).toNat < 32 - (intOf ((fr45 ib cap 0 x0 y k u).tmps.getD 6 undef)).toNat := ⟨_, rfl⟩
    have HKR2 : Hid (∀ (act : Act), act = fr45 ib cap 0 x0 (crcB y x0 k) (k + 1) (fun i => act.tmps.getD i undef) → KR act w) := by rw [hKR]; exact HKR.out
    rw [← hKR]
    clear hKR HKR
    by_cases hb : bits BinOp.and IntKind.u32 (bits BinOp.xor IntKind.u32 y (x0 / 2 ^ k)) 1 = 1
    · have HC2 : Hid (crcB y x0 k = bits BinOp.xor IntKind.u32 (y / 2) 3988292384) := by unfold Hid; rw [HCB.out, if_pos hb]
      rw [HC2.out] at HKR2
      clear HCB HC2
      unfold fr45
      go_wp2_with fail
      exact HKR2.out _ (by kernel_rfl)
    · have HC2 : Hid (crcB y x0 k = y / 2) := by unfold Hid; rw [HCB.out, if_neg hb]
      rw [HC2.out] at HKR2
      have hbb : (bits BinOp.and IntKind.u32 (bits BinOp.xor IntKind.u32 y (x0 / 2 ^ k)) 1 == 1) = false := by simpa using hb
      clear HCB HC2 hb
      unfold fr45
      go_wp2_with fail
      exact HKR2.out _ (by kernel_rfl)
  have hki : ¬ ((k : Nat) : Int) < 32 := by omega
  have hk9 : k = 32 := by omega
  subst hk9
  obtain ⟨r1, hr1⟩ : ∃ r1, crcW (4294967295) x0 32 = r1 := ⟨_, rfl⟩
  have hyr : r1 = y := by rw [← hr1]; exact HY.out
  subst hyr
  have HR1 := hid_of hr1
  have HW1 := hid_of hxw
  clear hr1 hxw HY hsu hk32 hk hki
  unfold fr45
  go_wp2_with fail
  rw [rounds_succ]
  go_wp2_with fail
  refine q_of (Q := fun a => (Code.loop _).wp Try.prog _ a _) (F := fr45 ib cap 1 x1 (r1) 0) (fun u0 => ?_) _ (by kernel_rfl)
  refine wp_loop (fun act wr => ∃ (u : Nat → Value) (k : Nat), act = fr45 ib cap 1 x1 (crcW (r1) x1 k) k u ∧ k ≤ 32 ∧ wr = w) (fun act _ => 32 - (intOf (act.tmps.getD 6 undef)).toNat) ⟨u0, 0, rfl, by omega, rfl⟩ ?_
  rintro act wr ⟨u, k, rfl, hk, hwr⟩
  obtain rfl := hwr.symm
  clear hwr
  have hxw : W32 (crcW (r1) x1 k) := crcW_w32 HW1.out _ _
  have hsu := crcW_succ (r1) x1 k
  obtain ⟨y, hy⟩ : ∃ y, crcW (r1) x1 k = y := ⟨_, rfl⟩
  rw [hy] at hsu hxw ⊢
  have HY := hid_of hy
  clear hy
  by_cases hk32 : k < 32
  · have hki : ((k : Nat) : Int) < 32 := by omega
    have hadd : IntKind.i64.wrap (((k : Nat) : Int) + 1) = (k : Nat) + 1 := by simp [IntKind.wrap, IntKind.bits, IntKind.signed]; omega
    have hsh : x1 / 2 ^ k % 4294967296 = x1 / 2 ^ k := by
      have q0 : (0 : Int) < 2 ^ k := Int.pow_pos (by decide)
      have q1 := Int.ediv_nonneg h1.1 (Int.le_of_lt q0)
      have q2 := Int.ediv_le_self (2 ^ k : Int) h1.1
      have := h1.2
      omega
    have hhf : y / 2 % 4294967296 = y / 2 := by have := hxw.1; have := hxw.2; omega
    have HXW := hid_of hxw
    have HKR : Hid (∀ (act : Act), act = fr45 ib cap 1 x1 (crcB y x1 k) (k + 1) (fun i => act.tmps.getD i undef) → (∃ (u : Nat → Value) (k' : Nat), act = fr45 ib cap 1 x1 (crcW (r1) x1 k') k' u ∧ k' ≤ 32 ∧ w = w) ∧ 32 - (intOf (act.tmps.getD 6 undef)).toNat < 32 - (intOf ((fr45 ib cap 1 x1 y k u).tmps.getD 6 undef)).toNat) := fun act e => by
      refine ⟨⟨_, k + 1, by rw [hsu]; exact e, hk32, rfl⟩, ?_⟩
      have e1 : act.tmps.getD 6 undef = .int .i64 ((k + 1 : Nat) : Int) := by rw [e]; rfl
      have e2 : (fr45 ib cap 1 x1 y k u).tmps.getD 6 undef = .int .i64 ((k : Nat) : Int) := rfl
      simp only [e1, e2, intOf]
      omega
    have HCB : Hid (crcB y x1 k = if bits BinOp.and IntKind.u32 (bits BinOp.xor IntKind.u32 y (x1 / 2 ^ k)) 1 = 1 then bits BinOp.xor IntKind.u32 (y / 2) 3988292384 else y / 2) := rfl
    clear hsu hxw
    obtain ⟨KR, hKR⟩ : ∃ KR : Act → World → Prop, KR = fun act wr => (∃ (u : Nat → Value) (k' : Nat), act = fr45 ib cap 1 x1 (crcW (r1) x1 k') k' u ∧ k' ≤ 32 ∧ wr = w) ∧ 32 - (intOf (act.tmps.getD 6 undef)).toNat < 32 - (intOf ((fr45 ib cap 1 x1 y k u).tmps.getD 6 undef)).toNat := ⟨_, rfl⟩
    have HKR2 : Hid (∀ (act : Act), act = fr45 ib cap 1 x1 (crcB y x1 k) (k + 1) (fun i => act.tmps.getD i undef) → KR act w) := by rw [hKR]; exact HKR.out
    rw [← hKR]
    clear hKR HKR
    by_cases hb : bits BinOp.and IntKind.u32 (bits BinOp.xor IntKind.u32 y (x1 / 2 ^ k)) 1 = 1
    · have HC2 : Hid (crcB y x1 k = bits BinOp.xor IntKind.u32 (y / 2) 3988292384) := by unfold Hid; rw [HCB.out, if_pos hb]
      rw [HC2.out] at HKR2
      clear HCB HC2
      unfold fr45
      go_wp2_with fail
      exact HKR2.out _ (by kernel_rfl)
    · have HC2 : Hid (crcB y x1 k = y / 2) := by unfold Hid; rw [HCB.out, if_neg hb]
      rw [HC2.out] at HKR2
      have hbb : (bits BinOp.and IntKind.u32 (bits BinOp.xor IntKind.u32 y (x1 / 2 ^ k)) 1 == 1) = false := by simpa using hb
      clear HCB HC2 hb
      unfold fr45
      go_wp2_with fail
      exact HKR2.out _ (by kernel_rfl)
  have hki : ¬ ((k : Nat) : Int) < 32 := by omega
  have hk9 : k = 32 := by omega
  subst hk9
  obtain ⟨r2, hr2⟩ : ∃ r2, crcW (r1) x1 32 = r2 := ⟨_, rfl⟩
  have hyr : r2 = y := by rw [← hr2]; exact HY.out
  subst hyr
  have HR2 := hid_of hr2
  have HW2 := hid_of hxw
  clear hr2 hxw HY hsu hk32 hk hki
  unfold fr45
  go_wp2_with fail
  rw [rounds_succ]
  go_wp2_with fail
  refine q_of (Q := fun a => (Code.loop _).wp Try.prog _ a _) (F := fr45 ib cap 2 x2 (r2) 0) (fun u0 => ?_) _ (by kernel_rfl)
  refine wp_loop (fun act wr => ∃ (u : Nat → Value) (k : Nat), act = fr45 ib cap 2 x2 (crcW (r2) x2 k) k u ∧ k ≤ 32 ∧ wr = w) (fun act _ => 32 - (intOf (act.tmps.getD 6 undef)).toNat) ⟨u0, 0, rfl, by omega, rfl⟩ ?_
  rintro act wr ⟨u, k, rfl, hk, hwr⟩
  obtain rfl := hwr.symm
  clear hwr
  have hxw : W32 (crcW (r2) x2 k) := crcW_w32 HW2.out _ _
  have hsu := crcW_succ (r2) x2 k
  obtain ⟨y, hy⟩ : ∃ y, crcW (r2) x2 k = y := ⟨_, rfl⟩
  rw [hy] at hsu hxw ⊢
  have HY := hid_of hy
  clear hy
  by_cases hk32 : k < 32
  · have hki : ((k : Nat) : Int) < 32 := by omega
    have hadd : IntKind.i64.wrap (((k : Nat) : Int) + 1) = (k : Nat) + 1 := by simp [IntKind.wrap, IntKind.bits, IntKind.signed]; omega
    have hsh : x2 / 2 ^ k % 4294967296 = x2 / 2 ^ k := by
      have q0 : (0 : Int) < 2 ^ k := Int.pow_pos (by decide)
      have q1 := Int.ediv_nonneg h2.1 (Int.le_of_lt q0)
      have q2 := Int.ediv_le_self (2 ^ k : Int) h2.1
      have := h2.2
      omega
    have hhf : y / 2 % 4294967296 = y / 2 := by have := hxw.1; have := hxw.2; omega
    have HXW := hid_of hxw
    have HKR : Hid (∀ (act : Act), act = fr45 ib cap 2 x2 (crcB y x2 k) (k + 1) (fun i => act.tmps.getD i undef) → (∃ (u : Nat → Value) (k' : Nat), act = fr45 ib cap 2 x2 (crcW (r2) x2 k') k' u ∧ k' ≤ 32 ∧ w = w) ∧ 32 - (intOf (act.tmps.getD 6 undef)).toNat < 32 - (intOf ((fr45 ib cap 2 x2 y k u).tmps.getD 6 undef)).toNat) := fun act e => by
      refine ⟨⟨_, k + 1, by rw [hsu]; exact e, hk32, rfl⟩, ?_⟩
      have e1 : act.tmps.getD 6 undef = .int .i64 ((k + 1 : Nat) : Int) := by rw [e]; rfl
      have e2 : (fr45 ib cap 2 x2 y k u).tmps.getD 6 undef = .int .i64 ((k : Nat) : Int) := rfl
      simp only [e1, e2, intOf]
      omega
    have HCB : Hid (crcB y x2 k = if bits BinOp.and IntKind.u32 (bits BinOp.xor IntKind.u32 y (x2 / 2 ^ k)) 1 = 1 then bits BinOp.xor IntKind.u32 (y / 2) 3988292384 else y / 2) := rfl
    clear hsu hxw
    obtain ⟨KR, hKR⟩ : ∃ KR : Act → World → Prop, KR = fun act wr => (∃ (u : Nat → Value) (k' : Nat), act = fr45 ib cap 2 x2 (crcW (r2) x2 k') k' u ∧ k' ≤ 32 ∧ wr = w) ∧ 32 - (intOf (act.tmps.getD 6 undef)).toNat < 32 - (intOf ((fr45 ib cap 2 x2 y k u).tmps.getD 6 undef)).toNat := ⟨_, rfl⟩
    have HKR2 : Hid (∀ (act : Act), act = fr45 ib cap 2 x2 (crcB y x2 k) (k + 1) (fun i => act.tmps.getD i undef) → KR act w) := by rw [hKR]; exact HKR.out
    rw [← hKR]
    clear hKR HKR
    by_cases hb : bits BinOp.and IntKind.u32 (bits BinOp.xor IntKind.u32 y (x2 / 2 ^ k)) 1 = 1
    · have HC2 : Hid (crcB y x2 k = bits BinOp.xor IntKind.u32 (y / 2) 3988292384) := by unfold Hid; rw [HCB.out, if_pos hb]
      rw [HC2.out] at HKR2
      clear HCB HC2
      unfold fr45
      go_wp2_with fail
      exact HKR2.out _ (by kernel_rfl)
    · have HC2 : Hid (crcB y x2 k = y / 2) := by unfold Hid; rw [HCB.out, if_neg hb]
      rw [HC2.out] at HKR2
      have hbb : (bits BinOp.and IntKind.u32 (bits BinOp.xor IntKind.u32 y (x2 / 2 ^ k)) 1 == 1) = false := by simpa using hb
      clear HCB HC2 hb
      unfold fr45
      go_wp2_with fail
      exact HKR2.out _ (by kernel_rfl)
  have hki : ¬ ((k : Nat) : Int) < 32 := by omega
  have hk9 : k = 32 := by omega
  subst hk9
  obtain ⟨r3, hr3⟩ : ∃ r3, crcW (r2) x2 32 = r3 := ⟨_, rfl⟩
  have hyr : r3 = y := by rw [← hr3]; exact HY.out
  subst hyr
  have HR3 := hid_of hr3
  have HW3 := hid_of hxw
  clear hr3 hxw HY hsu hk32 hk hki
  unfold fr45
  go_wp2_with fail
  rw [rounds_succ]
  go_wp2_with fail
  go_ret
  refine ⟨?_, rfl⟩
  unfold crcF
  rw [HR1.out, HR2.out, HR3.out]
  rfl
end Go.Proofs.Qxb6500749a
