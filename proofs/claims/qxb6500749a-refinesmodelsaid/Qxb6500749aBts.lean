import Derived.Test.Qxb6500749aPly
import Derived.Test.Qxb6500749aSnd
namespace Go.Proofs.Qxb6500749a
open Go.RowKit
/-! ### Words by their bits -/
def bt (x : Int) (k : Nat) : Bool := x.toNat.testBit k
theorem bv_of {x : Int} (h : W32 x) : (BitVec.ofInt 32 x).toNat = x.toNat := by
  rw [BitVec.toNat_ofInt]
  have := h.1; have := h.2
  congr 1
  omega
theorem wrap_nat {n : Nat} (h : n < 4294967296) : IntKind.u32.wrap ((n : Nat) : Int) = (n : Nat) := by
  simp [IntKind.wrap, IntKind.bits, IntKind.signed]; omega
theorem bits_xor {x y : Int} (hx : W32 x) (hy : W32 y) : (bits BinOp.xor IntKind.u32 x y).toNat = x.toNat ^^^ y.toNat := by
  show (IntKind.u32.wrap (((BitVec.ofInt 32 x ^^^ BitVec.ofInt 32 y).toNat : Nat) : Int)).toNat = _
  rw [wrap_nat (BitVec.isLt _), Int.toNat_natCast, BitVec.toNat_xor, bv_of hx, bv_of hy]
theorem bits_and {x y : Int} (hx : W32 x) (hy : W32 y) : (bits BinOp.and IntKind.u32 x y).toNat = x.toNat &&& y.toNat := by
  show (IntKind.u32.wrap (((BitVec.ofInt 32 x &&& BitVec.ofInt 32 y).toNat : Nat) : Int)).toNat = _
  rw [wrap_nat (BitVec.isLt _), Int.toNat_natCast, BitVec.toNat_and, bv_of hx, bv_of hy]
theorem bits_or {x y : Int} (hx : W32 x) (hy : W32 y) : (bits BinOp.or IntKind.u32 x y).toNat = x.toNat ||| y.toNat := by
  show (IntKind.u32.wrap (((BitVec.ofInt 32 x ||| BitVec.ofInt 32 y).toNat : Nat) : Int)).toNat = _
  rw [wrap_nat (BitVec.isLt _), Int.toNat_natCast, BitVec.toNat_or, bv_of hx, bv_of hy]
theorem bt_hi {x : Int} (h : W32 x) {k : Nat} (hk : 32 ≤ k) : bt x k = false := by
  unfold bt
  refine Nat.testBit_lt_two_pow (Nat.lt_of_lt_of_le (m := 4294967296) (by have := h.1; have := h.2; omega) ?_)
  rw [show 4294967296 = 2 ^ 32 from rfl]
  exact Nat.pow_le_pow_right (by decide) hk
theorem bt_ext {x y : Int} (hx : W32 x) (hy : W32 y) (h : ∀ k, bt x k = bt y k) : x = y := by
  have := Nat.eq_of_testBit_eq h
  have := hx.1; have := hy.1
  omega
theorem bt_xor {x y : Int} (hx : W32 x) (hy : W32 y) (k : Nat) : bt (bits BinOp.xor IntKind.u32 x y) k = (bt x k ^^ bt y k) := by
  unfold bt
  rw [bits_xor hx hy, Nat.testBit_xor]
theorem bt_and {x y : Int} (hx : W32 x) (hy : W32 y) (k : Nat) : bt (bits BinOp.and IntKind.u32 x y) k = (bt x k && bt y k) := by
  unfold bt
  rw [bits_and hx hy, Nat.testBit_and]
theorem bt_or {x y : Int} (hx : W32 x) (hy : W32 y) (k : Nat) : bt (bits BinOp.or IntKind.u32 x y) k = (bt x k || bt y k) := by
  unfold bt
  rw [bits_or hx hy, Nat.testBit_or]
theorem bt_andNot {x y : Int} (hx : W32 x) (hy : W32 y) (k : Nat) (hk : k < 32) : bt (bits BinOp.andNot IntKind.u32 x y) k = (bt x k && !bt y k) := by
  have e : (bits BinOp.andNot IntKind.u32 x y).toNat = (BitVec.ofInt 32 x &&& ~~~ BitVec.ofInt 32 y).toNat := by
    show (IntKind.u32.wrap (((BitVec.ofInt 32 x &&& ~~~ BitVec.ofInt 32 y).toNat : Nat) : Int)).toNat = _
    rw [wrap_nat (BitVec.isLt _), Int.toNat_natCast]
  unfold bt
  rw [e]
  have h1 : (BitVec.ofInt 32 x &&& ~~~ BitVec.ofInt 32 y).toNat.testBit k = (BitVec.ofInt 32 x &&& ~~~ BitVec.ofInt 32 y).getLsbD k := rfl
  have h2 : x.toNat.testBit k = (BitVec.ofInt 32 x).getLsbD k := by rw [← bv_of hx]; rfl
  have h3 : y.toNat.testBit k = (BitVec.ofInt 32 y).getLsbD k := by rw [← bv_of hy]; rfl
  rw [h1, h2, h3, BitVec.getLsbD_and, BitVec.getLsbD_not]
  simp [hk]
theorem w32_pow {b : Nat} (h : b < 32) : W32 ((2 : Int) ^ b) := by
  have h1 : (2 : Nat) ^ b < 2 ^ 32 := Nat.pow_lt_pow_right (by decide) h
  refine ⟨Int.le_of_lt (Int.pow_pos (by decide)), ?_⟩
  have : ((2 : Int) ^ b) = ((2 ^ b : Nat) : Int) := by simp
  rw [this]
  omega
theorem bt_pow {b : Nat} (k : Nat) : bt ((2 : Int) ^ b) k = decide (b = k) := by
  unfold bt
  have : ((2 : Int) ^ b).toNat = 2 ^ b := by
    have : ((2 : Int) ^ b) = ((2 ^ b : Nat) : Int) := by simp
    rw [this, Int.toNat_natCast]
  rw [this, Nat.testBit_two_pow]
/-! ### Words that differ in one bit at most -/
def Nr (b : Nat) (x y : Int) : Prop := ∀ k, k ≠ b → bt x k = bt y k
theorem Nr.refl (b : Nat) (x : Int) : Nr b x x := fun _ _ => rfl
theorem Nr.eq_or {b : Nat} {x y : Int} (hx : W32 x) (hy : W32 y) (h : Nr b x y) : x = y ∨ bt x b ≠ bt y b := by
  by_cases e : bt x b = bt y b
  · left
    refine bt_ext hx hy fun k => ?_
    by_cases q : k = b
    · rw [q]; exact e
    · exact h k q
  · exact .inr e
theorem nr_wV {f : FD} {v y : Int} (hb : f.bit < 32) (hv : W32 v) (h : Nr f.bit v y) : Nr f.bit (wV f v) y := by
  intro k hk
  have hp := w32_pow hb
  have hq : bt ((2 : Int) ^ f.bit) k = false := by rw [bt_pow]; exact decide_eq_false (fun e => hk e.symm)
  rw [← h k hk]
  unfold wV
  split
  · rw [bt_xor hv hp, hq]; simp
  · split
    · by_cases k32 : k < 32
      · rw [bt_andNot hv hp k k32, hq]; simp
      · rw [bt_hi (W32.bandNot _ _) (by omega), bt_hi hv (by omega)]
    · split
      · rw [bt_or hv hp, hq]; simp
      · rfl
theorem nr_wire {b z : Nat} {fs : List FD} (hf : ∀ f ∈ fs, f.site = (z : Nat) → f.bit = b) (now : Int) {y : Int} : ∀ v, W32 v → Nr b v y → Nr b (wireF now z fs v) y ∧ W32 (wireF now z fs v) := by
  unfold wireF
  induction fs with
  | nil => intro v h1 h2; exact ⟨h2, h1⟩
  | cons f fs ih =>
    intro v h1 h2
    rw [List.foldl_cons]
    apply ih (fun g hg => hf g (List.mem_cons_of_mem _ hg))
    · split
      · exact wV_w32 f v h1
      · exact h1
    · split
      · rename_i q
        unfold actF at q
        simp only [Bool.and_eq_true, decide_eq_true_eq, beq_iff_eq] at q
        have hb := hf f (by simp) q.1.1.1
        rw [← hb] at h2 ⊢
        exact nr_wV q.1.1.2 h1 h2
      · exact h2
theorem nr_keep {b z : Nat} {fs : List FD} (hf : ∀ f ∈ fs, f.site = (z : Nat) → f.bit = b) (now : Int) {c0 y : Int} (hc : W32 c0) : ∀ v, W32 v → Nr b v y → Nr b (keepF now z c0 fs v) y ∧ W32 (keepF now z c0 fs v) := by
  unfold keepF
  induction fs with
  | nil => intro v h1 h2; exact ⟨h2, h1⟩
  | cons f fs ih =>
    intro v h1 h2
    rw [List.foldl_cons]
    apply ih (fun g hg => hf g (List.mem_cons_of_mem _ hg))
    · split
      · exact W32.bor _ _
      · exact h1
    · split
      · rename_i q
        have q := q.1
        unfold actF at q
        simp only [Bool.and_eq_true, decide_eq_true_eq, beq_iff_eq] at q
        have hb := hf f (by simp) q.1.1.1
        rw [← hb] at h2 ⊢
        intro k hk
        have hp := w32_pow q.1.1.2
        have hq : bt ((2 : Int) ^ f.bit) k = false := by rw [bt_pow]; exact decide_eq_false (fun e => hk e.symm)
        rw [← h2 k hk, bt_or (W32.bandNot _ _) (W32.band _ _), bt_and hc hp, hq]
        by_cases k32 : k < 32
        · rw [bt_andNot h1 hp k k32, hq]; simp
        · rw [bt_hi (W32.bandNot _ _) (by omega), bt_hi h1 (by omega)]; simp
      · exact h2
/-! ### The CRC sees one bit -/
theorem bt_half (x : Int) (h : W32 x) (k : Nat) : bt (x / 2) k = bt x (k + 1) := by
  unfold bt
  rw [Nat.testBit_succ]
  congr 1
  have := h.1
  omega
theorem bt_shift (x : Int) (h : W32 x) (k : Nat) : bt (x / 2 ^ k) 0 = bt x k ∧ W32 (x / 2 ^ k) := by
  have q0 : (0 : Int) < 2 ^ k := Int.pow_pos (by decide)
  have q1 := Int.ediv_nonneg h.1 (Int.le_of_lt q0)
  have q2 := Int.ediv_le_self (2 ^ k : Int) h.1
  refine ⟨?_, q1, by have := h.2; omega⟩
  unfold bt
  have e : (x / 2 ^ k).toNat = x.toNat / 2 ^ k := by
    obtain ⟨n, hn⟩ : ∃ n : Nat, x = n := ⟨x.toNat, by have := h.1; omega⟩
    subst hn
    have : ((n : Int) / 2 ^ k) = ((n / 2 ^ k : Nat) : Int) := by simp
    rw [this, Int.toNat_natCast, Int.toNat_natCast]
  rw [e, Nat.testBit_zero, Nat.testBit_eq_decide_div_mod_eq]
theorem crcB_bt (reg x : Int) (hr : W32 reg) (hx : W32 x) (bit : Nat) : crcB reg x bit = if (bt reg 0 ^^ bt x bit) = true then bits BinOp.xor IntKind.u32 (reg / 2) 3988292384 else reg / 2 := by
  unfold crcB
  obtain ⟨h1, h2⟩ := bt_shift x hx bit
  have hw := W32.bxor reg (x / 2 ^ bit)
  have e := bt_xor hr h2 0
  rw [h1] at e
  rw [← e]
  generalize bits BinOp.xor IntKind.u32 reg (x / 2 ^ bit) = y at *
  have hy : (bits BinOp.and IntKind.u32 y 1).toNat = y.toNat % 2 := by
    rw [bits_and hw (by constructor <;> decide)]
    show y.toNat &&& 1 = _
    exact Nat.and_one_is_mod _
  have hz := (W32.band y 1).1
  have hb : bt y 0 = decide (y.toNat % 2 = 1) := by unfold bt; exact Nat.testBit_zero _
  rw [hb]
  by_cases q : y.toNat % 2 = 1
  · rw [if_pos (by omega), if_pos (by simp [q])]
  · rw [if_neg (by omega), if_neg (by simp [q])]
theorem crcB_31 (reg x : Int) (hr : W32 reg) (hx : W32 x) (bit : Nat) : bt (crcB reg x bit) 31 = (bt reg 0 ^^ bt x bit) := by
  have h31 : bt (reg / 2) 31 = false := by rw [bt_half reg hr, bt_hi hr (by decide)]
  rw [crcB_bt reg x hr hx]
  cases (bt reg 0 ^^ bt x bit)
  · rw [if_neg (by decide)]; exact h31
  · rw [if_pos rfl, bt_xor (w32_half hr) (by constructor <;> decide), h31]
    decide
/-- Registers that differ stay different, whatever bit the words have in common. -/
theorem crcB_inj {r r' x x' : Int} (hr : W32 r) (hr' : W32 r') (hx : W32 x) (hx' : W32 x') (bit : Nat) (hb : bt x bit = bt x' bit) (h : crcB r x bit = crcB r' x' bit) : r = r' := by
  have e31 := crcB_31 r x hr hx bit
  rw [h, crcB_31 r' x' hr' hx', hb] at e31
  have e0 : bt r 0 = bt r' 0 := by
    revert e31
    cases bt r 0 <;> cases bt r' 0 <;> cases bt x' bit <;> simp
  rw [crcB_bt r x hr hx, crcB_bt r' x' hr' hx', hb, e0] at h
  have hh : r / 2 = r' / 2 := by
    revert h
    cases (bt r' 0 ^^ bt x' bit)
    · rw [if_neg (by decide), if_neg (by decide)]; exact id
    · rw [if_pos rfl, if_pos rfl]
      intro h
      refine bt_ext (w32_half hr) (w32_half hr') fun k => ?_
      have e := congrArg (fun z => bt z k) h
      simp only [bt_xor (w32_half hr) (show W32 3988292384 by constructor <;> decide), bt_xor (w32_half hr') (show W32 3988292384 by constructor <;> decide)] at e
      revert e
      cases bt (r / 2) k <;> cases bt (r' / 2) k <;> cases bt 3988292384 k <;> simp
  have h0 : r.toNat % 2 = r'.toNat % 2 := by
    have := e0
    unfold bt at this
    rw [Nat.testBit_zero, Nat.testBit_zero] at this
    have := decide_eq_decide.1 this
    omega
  have := hr.1; have := hr'.1
  omega
theorem crcW_inj {r r' x x' : Int} (hr : W32 r) (hr' : W32 r') (hx : W32 x) (hx' : W32 x') : ∀ n, (∀ k, k < n → bt x k = bt x' k) → crcW r x n = crcW r' x' n → r = r'
  | 0, _, h => h
  | n + 1, hb, h => crcW_inj hr hr' hx hx' n (fun k hk => hb k (by omega)) (crcB_inj (crcW_w32 hr x n) (crcW_w32 hr' x' n) hx hx' n (hb n (by omega)) h)
theorem crcW_bits {r x x' : Int} (hr : W32 r) (hx : W32 x) (hx' : W32 x') : ∀ n, (∀ k, k < n → bt x k = bt x' k) → crcW r x n = crcW r x' n
  | 0, _ => rfl
  | n + 1, hb => by
    rw [crcW_succ, crcW_succ, crcW_bits hr hx hx' n fun k hk => hb k (by omega), crcB_bt _ _ (crcW_w32 hr x' n) hx, crcB_bt _ _ (crcW_w32 hr x' n) hx', hb n (by omega)]
/-- One bit that differs shows in the register. -/
theorem crcW_one {r x x' : Int} {b : Nat} (hr : W32 r) (hx : W32 x) (hx' : W32 x') (hb : b < 32) (hn : Nr b x x') (hd : bt x b ≠ bt x' b) : crcW r x 32 ≠ crcW r x' 32 := by
  have key : ∀ n, b < n → crcW r x n ≠ crcW r x' n := by
    intro n
    induction n with
    | zero => intro h; omega
    | succ n ih =>
      intro hbn h
      by_cases e : n = b
      · subst e
        have eb := crcW_bits hr hx hx' n fun k hk => hn k (by omega)
        have e31 := congrArg (fun z => bt z 31) h
        simp only [crcW_succ] at e31
        rw [eb, crcB_31 _ _ (crcW_w32 hr x' n) hx, crcB_31 _ _ (crcW_w32 hr x' n) hx'] at e31
        revert e31 hd
        cases bt (crcW r x' n) 0 <;> cases bt x n <;> cases bt x' n <;> simp
      · rw [crcW_succ, crcW_succ] at h
        exact ih (by omega) (crcB_inj (crcW_w32 hr x n) (crcW_w32 hr x' n) hx hx' n (hn n e) h)
  exact key 32 hb
theorem xor_inj {r r' : Int} (hr : W32 r) (hr' : W32 r') (h : bits BinOp.xor IntKind.u32 4294967295 r = bits BinOp.xor IntKind.u32 4294967295 r') : r = r' := by
  refine bt_ext hr hr' fun k => ?_
  have e := congrArg (fun z => bt z k) h
  simp only [bt_xor (show W32 4294967295 by constructor <;> decide) hr, bt_xor (show W32 4294967295 by constructor <;> decide) hr'] at e
  revert e
  cases bt r k <;> cases bt r' k <;> cases bt 4294967295 k <;> simp
theorem w32_ones : W32 4294967295 := by constructor <;> decide
/-- Four words that bear their CRC bear it no longer with one bit turned. -/
theorem crc_one {x0 x1 x2 x3 y0 y1 y2 y3 : Int} {b : Nat} (hb : b < 32) (h0 : W32 x0) (h1 : W32 x1) (h2 : W32 x2) (g0 : W32 y0) (g1 : W32 y1) (g2 : W32 y2)
    (hs : crcF x0 x1 x2 = x3) (hd : (Nr b y0 x0 ∧ bt y0 b ≠ bt x0 b ∧ y1 = x1 ∧ y2 = x2 ∧ y3 = x3) ∨ (Nr b y1 x1 ∧ bt y1 b ≠ bt x1 b ∧ y0 = x0 ∧ y2 = x2 ∧ y3 = x3) ∨ (Nr b y2 x2 ∧ bt y2 b ≠ bt x2 b ∧ y0 = x0 ∧ y1 = x1 ∧ y3 = x3) ∨ (bt y3 b ≠ bt x3 b ∧ y0 = x0 ∧ y1 = x1 ∧ y2 = x2)) : crcF y0 y1 y2 ≠ y3 := by
  have k0 := fun r (hr : W32 r) x n => crcW_w32 hr x n
  rcases hd with ⟨n, d, e1, e2, e3⟩ | ⟨n, d, e0, e2, e3⟩ | ⟨n, d, e0, e1, e3⟩ | ⟨d, e0, e1, e2⟩
  · subst e1; subst e2; subst e3
    intro h
    rw [← hs] at h
    have h := xor_inj (k0 _ (k0 _ (k0 _ w32_ones _ _) _ _) _ _) (k0 _ (k0 _ (k0 _ w32_ones _ _) _ _) _ _) h
    have h := crcW_inj (k0 _ (k0 _ w32_ones _ _) _ _) (k0 _ (k0 _ w32_ones _ _) _ _) h2 h2 32 (fun _ _ => rfl) h
    have h := crcW_inj (k0 _ w32_ones _ _) (k0 _ w32_ones _ _) h1 h1 32 (fun _ _ => rfl) h
    exact crcW_one w32_ones g0 h0 hb n d h
  · subst e0; subst e2; subst e3
    intro h
    rw [← hs] at h
    have h := xor_inj (k0 _ (k0 _ (k0 _ w32_ones _ _) _ _) _ _) (k0 _ (k0 _ (k0 _ w32_ones _ _) _ _) _ _) h
    have h := crcW_inj (k0 _ (k0 _ w32_ones _ _) _ _) (k0 _ (k0 _ w32_ones _ _) _ _) h2 h2 32 (fun _ _ => rfl) h
    exact crcW_one (k0 _ w32_ones _ _) g1 h1 hb n d h
  · subst e0; subst e1; subst e3
    intro h
    rw [← hs] at h
    have h := xor_inj (k0 _ (k0 _ (k0 _ w32_ones _ _) _ _) _ _) (k0 _ (k0 _ (k0 _ w32_ones _ _) _ _) _ _) h
    exact crcW_one (k0 _ (k0 _ w32_ones _ _) _ _) g2 h2 hb n d h
  · subst e0; subst e1; subst e2
    intro h
    rw [hs] at h
    exact d (by rw [h])
end Go.Proofs.Qxb6500749a
