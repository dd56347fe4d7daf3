import Derived.Test.Qxb6500750aDoorXb3
namespace Go.Proofs.Qxb6500750aDoor
open Go.RowKit

/-! ### Bits of a byte, as a function -/
def b2i (b : Bool) (n : Int) : Int := if b then n else 0
def bitsV (f : Nat → Bool) : Int := b2i (f 0) 1 + b2i (f 1) 2 + b2i (f 2) 4 + b2i (f 3) 8 + b2i (f 4) 16 + b2i (f 5) 32 + b2i (f 6) 64
theorem bitsV_range (f : Nat → Bool) : 0 ≤ bitsV f ∧ bitsV f < 128 := by
  unfold bitsV b2i
  constructor <;> (repeat' split) <;> omega
theorem b2i_cases (b : Bool) (n : Int) : (b = true ∧ b2i b n = n) ∨ (b = false ∧ b2i b n = 0) := by cases b <;> simp [b2i]
theorem bitsV_none : bitsV (fun _ => false) = 0 := rfl
theorem bitsV_congr {f g : Nat → Bool} (h : ∀ t, t < 7 → f t = g t) : bitsV f = bitsV g := by
  unfold bitsV
  rw [h 0 (by decide), h 1 (by decide), h 2 (by decide), h 3 (by decide), h 4 (by decide), h 5 (by decide), h 6 (by decide)]
theorem or_all : ∀ a b c d e f g : Bool,
   (BitVec.ofInt 8 (b2i a 1 + b2i b 2 + b2i c 4 + b2i d 8 + b2i e 16 + b2i f 32 + b2i g 64) ||| BitVec.ofInt 8 1).toNat = b2i true 1 + b2i b 2 + b2i c 4 + b2i d 8 + b2i e 16 + b2i f 32 + b2i g 64 ∧
   (BitVec.ofInt 8 (b2i a 1 + b2i b 2 + b2i c 4 + b2i d 8 + b2i e 16 + b2i f 32 + b2i g 64) ||| BitVec.ofInt 8 2).toNat = b2i a 1 + b2i true 2 + b2i c 4 + b2i d 8 + b2i e 16 + b2i f 32 + b2i g 64 ∧
   (BitVec.ofInt 8 (b2i a 1 + b2i b 2 + b2i c 4 + b2i d 8 + b2i e 16 + b2i f 32 + b2i g 64) ||| BitVec.ofInt 8 4).toNat = b2i a 1 + b2i b 2 + b2i true 4 + b2i d 8 + b2i e 16 + b2i f 32 + b2i g 64 ∧
   (BitVec.ofInt 8 (b2i a 1 + b2i b 2 + b2i c 4 + b2i d 8 + b2i e 16 + b2i f 32 + b2i g 64) ||| BitVec.ofInt 8 8).toNat = b2i a 1 + b2i b 2 + b2i c 4 + b2i true 8 + b2i e 16 + b2i f 32 + b2i g 64 ∧
   (BitVec.ofInt 8 (b2i a 1 + b2i b 2 + b2i c 4 + b2i d 8 + b2i e 16 + b2i f 32 + b2i g 64) ||| BitVec.ofInt 8 16).toNat = b2i a 1 + b2i b 2 + b2i c 4 + b2i d 8 + b2i true 16 + b2i f 32 + b2i g 64 ∧
   (BitVec.ofInt 8 (b2i a 1 + b2i b 2 + b2i c 4 + b2i d 8 + b2i e 16 + b2i f 32 + b2i g 64) ||| BitVec.ofInt 8 32).toNat = b2i a 1 + b2i b 2 + b2i c 4 + b2i d 8 + b2i e 16 + b2i true 32 + b2i g 64 ∧
   (BitVec.ofInt 8 (b2i a 1 + b2i b 2 + b2i c 4 + b2i d 8 + b2i e 16 + b2i f 32 + b2i g 64) ||| BitVec.ofInt 8 64).toNat = b2i a 1 + b2i b 2 + b2i c 4 + b2i d 8 + b2i e 16 + b2i f 32 + b2i true 64 := by
  intro a b c d e f g
  cases a <;> cases b <;> cases c <;> cases d <;> cases e <;> cases f <;> cases g <;> decide
theorem seven (t : Nat) (h : t < 7) : t = 0 ∨ t = 1 ∨ t = 2 ∨ t = 3 ∨ t = 4 ∨ t = 5 ∨ t = 6 := by omega
theorem bits_or (f : Nat → Bool) (t : Nat) (h : t < 7) : (((BitVec.ofInt 8 (bitsV f) ||| BitVec.ofInt 8 (2 ^ t)).toNat : Nat) : Int) = bitsV (upd f t true) := by
  have H := or_all (f 0) (f 1) (f 2) (f 3) (f 4) (f 5) (f 6)
  obtain ⟨h0, h1, h2, h3, h4, h5, h6⟩ := H
  rcases seven t h with rfl | rfl | rfl | rfl | rfl | rfl | rfl
  · simpa [bitsV, upd] using h0
  · simpa [bitsV, upd] using h1
  · simpa [bitsV, upd] using h2
  · simpa [bitsV, upd] using h3
  · simpa [bitsV, upd] using h4
  · simpa [bitsV, upd] using h5
  · simpa [bitsV, upd] using h6
theorem at_all : ∀ a b c d e f g : Bool,
   (b2i a 1 + b2i b 2 + b2i c 4 + b2i d 8 + b2i e 16 + b2i f 32 + b2i g 64) / 1 % 2 = (if a then 1 else 0) ∧
   (b2i a 1 + b2i b 2 + b2i c 4 + b2i d 8 + b2i e 16 + b2i f 32 + b2i g 64) / 2 % 2 = (if b then 1 else 0) ∧
   (b2i a 1 + b2i b 2 + b2i c 4 + b2i d 8 + b2i e 16 + b2i f 32 + b2i g 64) / 4 % 2 = (if c then 1 else 0) ∧
   (b2i a 1 + b2i b 2 + b2i c 4 + b2i d 8 + b2i e 16 + b2i f 32 + b2i g 64) / 8 % 2 = (if d then 1 else 0) ∧
   (b2i a 1 + b2i b 2 + b2i c 4 + b2i d 8 + b2i e 16 + b2i f 32 + b2i g 64) / 16 % 2 = (if e then 1 else 0) ∧
   (b2i a 1 + b2i b 2 + b2i c 4 + b2i d 8 + b2i e 16 + b2i f 32 + b2i g 64) / 32 % 2 = (if f then 1 else 0) ∧
   (b2i a 1 + b2i b 2 + b2i c 4 + b2i d 8 + b2i e 16 + b2i f 32 + b2i g 64) / 64 % 2 = (if g then 1 else 0) := by
  intro a b c d e f g
  cases a <;> cases b <;> cases c <;> cases d <;> cases e <;> cases f <;> cases g <;> decide
/-- 'v >> t & 1'. -/
theorem bits_at (f : Nat → Bool) (t : Nat) (h : t < 7) : bitsV f / 2 ^ t % 2 = if f t then 1 else 0 := by
  have H := at_all (f 0) (f 1) (f 2) (f 3) (f 4) (f 5) (f 6)
  obtain ⟨h0, h1, h2, h3, h4, h5, h6⟩ := H
  rcases seven t h with rfl | rfl | rfl | rfl | rfl | rfl | rfl
  · exact h0
  · exact h1
  · exact h2
  · exact h3
  · exact h4
  · exact h5
  · exact h6
/-! ### The report of one cycle, as data -/
structure RepD where
  g : Nat → Int
  r : Nat → Ret
  rs : Nat → Bool
  rp : Nat → Bool
def retCell (r : Ret) : Nat → Value
  | 0 => .bool r.va
  | 1 => .int .u32 r.sq
  | 2 => .int .u8 r.st
  | 3 => .int .u32 r.da
  | 4 => .int .u8 r.re
  | _ => .int .u8 r.ca
def rcell (ρ : RepD) (i : Nat) : Value :=
  if i < 7 then .int .i8 (ρ.g i) else if i < 25 then retCell (ρ.r ((i - 7) / 6)) ((i - 7) % 6) else if i = 25 then .int .u8 (bitsV ρ.rs) else .int .u8 (bitsV ρ.rp)
def encR (ρ : RepD) : Array Value := row 27 (rcell ρ)
section
variable (ρ : RepD)
theorem r_places (i : Nat) (h : i < 27) : i < 7 ∨ (∃ m r, m < 3 ∧ r < 6 ∧ i = 7 + m * 6 + r) ∨ i = 25 ∨ i = 26 := by
  by_cases h1 : i < 7
  · exact .inl h1
  · by_cases h2 : i < 25
    · exact .inr (.inl ⟨(i - 7) / 6, (i - 7) % 6, by omega, by omega, by omega⟩)
    · omega
theorem rcell_g (t : Nat) (h : t < 7) : rcell ρ t = .int .i8 (ρ.g t) := if_pos h
theorem rcell_r (m r : Nat) (hm : m < 3) (hr : r < 6) : rcell ρ (7 + m * 6 + r) = retCell (ρ.r m) r := by
  unfold rcell
  rw [if_neg (by omega), if_pos (by omega), show (7 + m * 6 + r - 7) / 6 = m from by omega, show (7 + m * 6 + r - 7) % 6 = r from by omega]
theorem rg_g (t : Nat) (h : t < 7) : (encR ρ)[t]? = some (.int .i8 (ρ.g t)) := by
  rw [encR, row_get _ _ _ (by omega), rcell_g ρ t h]
theorem rg_rs : (encR ρ)[25]? = some (.int .u8 (bitsV ρ.rs)) := by rw [encR, row_get _ _ _ (by omega)]; rfl
theorem rg_rp : (encR ρ)[26]? = some (.int .u8 (bitsV ρ.rp)) := by rw [encR, row_get _ _ _ (by omega)]; rfl
theorem rg_r (m r : Nat) (hm : m < 3) (hr : r < 6) : (encR ρ)[7 + m * 6 + r]? = some (retCell (ρ.r m) r) := by
  rw [encR, row_get _ _ _ (by omega), rcell_r ρ m r hm hr]
theorem rs_g (t : Nat) (h : t < 7) (v : Int) : (encR ρ).setIfInBounds t (.int .i8 v) = encR { ρ with g := upd ρ.g t v } := by
  refine row_set _ _ _ _ _ fun i hi => ?_
  unfold rcell
  by_cases e : i = t
  · subst e; simp [h, upd]
  · rw [if_neg e]
    by_cases h7 : i < 7
    · simp [h7, upd, e]
    · simp [h7]
theorem rs_rs (f : Nat → Bool) : (encR ρ).setIfInBounds 25 (.int .u8 (bitsV f)) = encR { ρ with rs := f } := by
  refine row_set _ _ _ _ _ fun i hi => ?_
  unfold rcell
  by_cases e : i = 25
  · subst e; simp
  · simp [e]
theorem rs_rp (f : Nat → Bool) : (encR ρ).setIfInBounds 26 (.int .u8 (bitsV f)) = encR { ρ with rp := f } := by
  refine row_set _ _ _ _ _ fun i hi => ?_
  unfold rcell
  by_cases e : i = 26
  · subst e; simp
  · have e' : ¬ (i = 25) → i < 25 := by omega
    by_cases h25 : i = 25
    · simp [h25]
    · simp [e, e' h25]
theorem rs_r (m r : Nat) (hm : m < 3) (hr : r < 6) (p : Ret) (v : Value) (h : ∀ j, j < 6 → retCell p j = if j = r then v else retCell (ρ.r m) j) :
    (encR ρ).setIfInBounds (7 + m * 6 + r) v = encR { ρ with r := upd ρ.r m p } := by
  refine row_set _ _ _ _ _ fun i hi => ?_
  rcases r_places i hi with h1 | ⟨m', r', a, b, rfl⟩ | rfl | rfl
  · rw [rcell_g _ i h1, rcell_g _ i h1, if_neg (by omega)]
  · rw [rcell_r _ m' r' a b, rcell_r _ m' r' a b]
    by_cases e1 : m' = m
    · subst e1
      simp only [upd, if_true]
      rw [h r' b]
      by_cases e2 : r' = r
      · subst e2; simp
      · rw [if_neg e2, if_neg (by omega)]
    · have : 7 + m' * 6 + r' ≠ 7 + m * 6 + r := by
        intro e
        have h1 : (m' * 6 + r') / 6 = m' := by omega
        have h2 : (m * 6 + r) / 6 = m := by omega
        rw [show m' * 6 + r' = m * 6 + r from by omega] at h1
        omega
      rw [if_neg this]
      simp [upd, e1]
  · rw [if_neg (by omega)]; rfl
  · rw [if_neg (by omega)]; rfl
theorem six_cases (j : Nat) (h : j < 6) : j = 0 ∨ j = 1 ∨ j = 2 ∨ j = 3 ∨ j = 4 ∨ j = 5 := by omega
theorem rs_r0 (m : Nat) (hm : m < 3) (v : Bool) : (encR ρ).setIfInBounds (7 + m * 6) (.bool v) = encR { ρ with r := upd ρ.r m { ρ.r m with va := v } } :=
  rs_r ρ m 0 hm (by decide) _ _ (by intro j hj; rcases six_cases j hj with rfl | rfl | rfl | rfl | rfl | rfl <;> rfl)
theorem rs_r1 (m : Nat) (hm : m < 3) (v : Int) : (encR ρ).setIfInBounds (7 + m * 6 + 1) (.int .u32 v) = encR { ρ with r := upd ρ.r m { ρ.r m with sq := v } } :=
  rs_r ρ m 1 hm (by decide) _ _ (by intro j hj; rcases six_cases j hj with rfl | rfl | rfl | rfl | rfl | rfl <;> rfl)
theorem rs_r2 (m : Nat) (hm : m < 3) (v : Int) : (encR ρ).setIfInBounds (7 + m * 6 + 2) (.int .u8 v) = encR { ρ with r := upd ρ.r m { ρ.r m with st := v } } :=
  rs_r ρ m 2 hm (by decide) _ _ (by intro j hj; rcases six_cases j hj with rfl | rfl | rfl | rfl | rfl | rfl <;> rfl)
theorem rs_r3 (m : Nat) (hm : m < 3) (v : Int) : (encR ρ).setIfInBounds (7 + m * 6 + 3) (.int .u32 v) = encR { ρ with r := upd ρ.r m { ρ.r m with da := v } } :=
  rs_r ρ m 3 hm (by decide) _ _ (by intro j hj; rcases six_cases j hj with rfl | rfl | rfl | rfl | rfl | rfl <;> rfl)
theorem rs_r4 (m : Nat) (hm : m < 3) (v : Int) : (encR ρ).setIfInBounds (7 + m * 6 + 4) (.int .u8 v) = encR { ρ with r := upd ρ.r m { ρ.r m with re := v } } :=
  rs_r ρ m 4 hm (by decide) _ _ (by intro j hj; rcases six_cases j hj with rfl | rfl | rfl | rfl | rfl | rfl <;> rfl)
theorem rs_r5 (m : Nat) (hm : m < 3) (v : Int) : (encR ρ).setIfInBounds (7 + m * 6 + 5) (.int .u8 v) = encR { ρ with r := upd ρ.r m { ρ.r m with ca := v } } :=
  rs_r ρ m 5 hm (by decide) _ _ (by intro j hj; rcases six_cases j hj with rfl | rfl | rfl | rfl | rfl | rfl <;> rfl)
end
end Go.Proofs.Qxb6500750aDoor
