import Derived.Test.Qxb6500750aDoorProg
import Derived.WalkKit
import Derived.WalkSpells
import Derived.KernelRfl
namespace Go.Proofs.Qxb6500750aDoor
open Go.RowKit

set_option maxRecDepth 100000 in
set_option maxHeartbeats 400000 in
theorem small_yes (a : Option Addr) (n c : Nat) (hn : n ≤ 65536) (w : World) :
    Calls Tryd.prog 11 #[.slice a n c] w fun e w' => e = .returned (.bool true) ∧ w' = w := by
  go_enter Tryd.func11, Tryd.ntmps11
  go_wp2
  go_ret
  exact ⟨rfl, rfl⟩
set_option maxRecDepth 100000 in
set_option maxHeartbeats 400000 in
theorem small_no (a : Option Addr) (n c : Nat) (hn : 65536 < n) (w : World) :
    Calls Tryd.prog 11 #[.slice a n c] w fun e w' => e = .returned (.bool false) ∧ w' = w := by
  go_enter Tryd.func11, Tryd.ntmps11
  go_wp2
  go_ret
  exact ⟨rfl, rfl⟩


set_option maxRecDepth 100000 in
set_option maxHeartbeats 400000 in
theorem tz8_any (s : Nat) (hs : s < 7) (w : World) :
    Calls Tryd.prog 41 #[.int .u8 (2 ^ s)] w fun e w' => e = .returned (.int .i64 s) ∧ w' = w := by
  have : s = 0 ∨ s = 1 ∨ s = 2 ∨ s = 3 ∨ s = 4 ∨ s = 5 ∨ s = 6 := by omega
  rcases this with rfl | rfl | rfl | rfl | rfl | rfl | rfl
  all_goals
    go_enter Tryd.func41, Tryd.ntmps41
    go_wp2
    go_ret
    exact ⟨by kernel_rfl, rfl⟩
set_option maxRecDepth 100000 in
set_option maxHeartbeats 400000 in
theorem ones8_any (s : Nat) (hs : s < 7) (w : World) :
    Calls Tryd.prog 22 #[.int .u8 (2 ^ s)] w fun e w' => e = .returned (.int .i64 1) ∧ w' = w := by
  have : s = 0 ∨ s = 1 ∨ s = 2 ∨ s = 3 ∨ s = 4 ∨ s = 5 ∨ s = 6 := by omega
  rcases this with rfl | rfl | rfl | rfl | rfl | rfl | rfl
  all_goals
    go_enter Tryd.func22, Tryd.ntmps22
    go_wp2
    go_ret
    exact ⟨by kernel_rfl, rfl⟩

/-! ### The windows: the comparator's tables, and what the six rounds make of an address -/
def wmask : Nat → Int
  | 0 => 4294963200 | 1 => 4294967040 | 2 => 4294967040 | 3 => 4294967232 | 4 => 4294967264 | _ => 4294967040
def wmatch : Nat → Int
  | 0 => 0 | 1 => 1073741824 | 2 => 1073742080 | 3 => 1073745920 | 4 => 1073750016 | _ => 4294967040
def hit (a : Int) (k : Nat) : Bool := bits BinOp.and IntKind.u32 a (wmask k) == wmatch k
def selTo (a : Int) : Nat → Int
  | 0 => 0
  | k + 1 => if hit a k then bits BinOp.or IntKind.u8 (selTo a k) (2 ^ k % 256) else selTo a k
def sel (a : Int) : Int := if selTo a 6 == 0 then 64 else selTo a 6

def Wins (w : World) : Prop := ∀ k, k < 6 → w.cell? ⟨1, 2 * k, none⟩ = some (.int .u32 (wmask k)) ∧ w.cell? ⟨1, 2 * k + 1, none⟩ = some (.int .u32 (wmatch k))

theorem index_wins : ∀ (k : Nat) (_ : k < 6) (w : World), (Instr.index 116 (.agg #[.int .u32 (wmask 0), .int .u32 (wmatch 0), .int .u32 (wmask 1), .int .u32 (wmatch 1), .int .u32 (wmask 2), .int .u32 (wmatch 2), .int .u32 (wmask 3), .int .u32 (wmatch 3), .int .u32 (wmask 4), .int .u32 (wmatch 4), .int .u32 (wmask 5), .int .u32 (wmatch 5)]) (.int .i64 k)).run Tryd.prog w = .ok (.agg #[.int .u32 (wmask k), .int .u32 (wmatch k)]) w
  | 0, _, _ => by kernel_rfl
  | 1, _, _ => by kernel_rfl
  | 2, _, _ => by kernel_rfl
  | 3, _, _ => by kernel_rfl
  | 4, _, _ => by kernel_rfl
  | 5, _, _ => by kernel_rfl
  | _ + 6, h, _ => absurd h (by omega)

set_option maxRecDepth 100000 in
set_option maxHeartbeats 1000000 in
theorem select_any (a : Int) (w : World) (hw : Wins w) :
    Calls Tryd.prog 21 #[.int .u32 a] w fun e w' => e = .returned (.int .u8 (sel a)) ∧ Below w.heap.size w w' := by
  obtain ⟨c0, d0⟩ := hw 0 (by decide)
  obtain ⟨c1, d1⟩ := hw 1 (by decide)
  obtain ⟨c2, d2⟩ := hw 2 (by decide)
  obtain ⟨c3, d3⟩ := hw 3 (by decide)
  obtain ⟨c4, d4⟩ := hw 4 (by decide)
  obtain ⟨c5, d5⟩ := hw 5 (by decide)
  simp only [Nat.reduceMul, Nat.reduceAdd] at c0 c1 c2 c3 c4 c5 d0 d1 d2 d3 d4 d5
  go_enter Tryd.func21, Tryd.ntmps21
  go_wp2
  go_loopw [3, 7] (fun l i w' => ∃ k : Nat, k ≤ 6 ∧ i = .int .i64 k ∧ l = .int .u8 (selTo a k) ∧ Below w.heap.size w w') (fun _ i _ => 6 - (intOf i).toNat)
  case atStart => exact ⟨0, by omega, rfl, rfl, Below.refl _ _⟩
  case round =>
    obtain ⟨k, hk, rfl, rfl, hb⟩ := hrel
    by_cases hlt : k < 6
    · have hix := index_wins k hlt
      by_cases hh : (bits BinOp.and IntKind.u32 a (wmask k) == wmatch k) = true
      · have HS : Hid (selTo a (k + 1) = bits BinOp.or IntKind.u8 (selTo a k) (2 ^ k % 256)) := if_pos hh
        go_wp2
        exact ⟨⟨k + 1, by omega, by go_num, by rw [HS.out], hb.alloc hb.size _⟩, by simp [intOf]; omega⟩
      · have HS : Hid (selTo a (k + 1) = selTo a k) := if_neg hh
        go_wp2
        exact ⟨⟨k + 1, by omega, by go_num, by rw [HS.out], hb.alloc hb.size _⟩, by simp [intOf]; omega⟩
    · obtain rfl : k = 6 := by omega
      by_cases hz : (selTo a 6 == 0) = true
      · have HS : Hid (sel a = 64) := by show _ = _; unfold sel; rw [if_pos hz]
        go_wp2
        go_ret
        exact ⟨by rw [HS.out]; rfl, hb⟩
      · have HS : Hid (sel a = selTo a 6) := by show _ = _; unfold sel; rw [if_neg hz]
        go_wp2
        go_ret
        exact ⟨by rw [HS.out]; rfl, hb⟩

/-! ### The map: the table of intervals -/
def mfirst : Nat → Int
  | 0 => 0 | 1 => 1073741824 | 2 => 1073742080 | 3 => 1073745920 | 4 => 1073750016 | _ => 4294967040
def mlast : Nat → Int
  | 0 => 4095 | 1 => 1073742079 | 2 => 1073742335 | 3 => 1073745983 | 4 => 1073750047 | _ => 4294967295
/-- The target to which an address belongs. -/
def dec (a : Int) : Nat :=
  if mfirst 0 ≤ a ∧ a ≤ mlast 0 then 0 else if mfirst 1 ≤ a ∧ a ≤ mlast 1 then 1 else if mfirst 2 ≤ a ∧ a ≤ mlast 2 then 2
  else if mfirst 3 ≤ a ∧ a ≤ mlast 3 then 3 else if mfirst 4 ≤ a ∧ a ≤ mlast 4 then 4 else if mfirst 5 ≤ a ∧ a ≤ mlast 5 then 5 else 6
def Maps (w : World) : Prop := ∀ k, k < 6 → w.cell? ⟨0, 2 * k, none⟩ = some (.int .u32 (mfirst k)) ∧ w.cell? ⟨0, 2 * k + 1, none⟩ = some (.int .u32 (mlast k))

theorem index_map : ∀ (k : Nat) (_ : k < 6) (w : World), (Instr.index 67 (.agg #[.int .u32 (mfirst 0), .int .u32 (mlast 0), .int .u32 (mfirst 1), .int .u32 (mlast 1), .int .u32 (mfirst 2), .int .u32 (mlast 2), .int .u32 (mfirst 3), .int .u32 (mlast 3), .int .u32 (mfirst 4), .int .u32 (mlast 4), .int .u32 (mfirst 5), .int .u32 (mlast 5)]) (.int .i64 k)).run Tryd.prog w = .ok (.agg #[.int .u32 (mfirst k), .int .u32 (mlast k)]) w
  | 0, _, _ => by kernel_rfl
  | 1, _, _ => by kernel_rfl
  | 2, _, _ => by kernel_rfl
  | 3, _, _ => by kernel_rfl
  | 4, _, _ => by kernel_rfl
  | 5, _, _ => by kernel_rfl
  | _ + 6, h, _ => absurd h (by omega)

/-- No interval before the k-th holds a. -/
def noneTo (a : Int) (k : Nat) : Prop := ∀ j, j < k → ¬ (mfirst j ≤ a ∧ a ≤ mlast j)
theorem dec_hit {a : Int} {k : Nat} (hk : k < 6) (hn : noneTo a k) (h1 : mfirst k ≤ a) (h2 : a ≤ mlast k) : dec a = k := by
  unfold dec
  have n0 := hn 0; have n1 := hn 1; have n2 := hn 2; have n3 := hn 3; have n4 := hn 4
  have : k = 0 ∨ k = 1 ∨ k = 2 ∨ k = 3 ∨ k = 4 ∨ k = 5 := by omega
  rcases this with rfl | rfl | rfl | rfl | rfl | rfl
  · rw [if_pos ⟨h1, h2⟩]
  · rw [if_neg (n0 (by omega)), if_pos ⟨h1, h2⟩]
  · rw [if_neg (n0 (by omega)), if_neg (n1 (by omega)), if_pos ⟨h1, h2⟩]
  · rw [if_neg (n0 (by omega)), if_neg (n1 (by omega)), if_neg (n2 (by omega)), if_pos ⟨h1, h2⟩]
  · rw [if_neg (n0 (by omega)), if_neg (n1 (by omega)), if_neg (n2 (by omega)), if_neg (n3 (by omega)), if_pos ⟨h1, h2⟩]
  · rw [if_neg (n0 (by omega)), if_neg (n1 (by omega)), if_neg (n2 (by omega)), if_neg (n3 (by omega)), if_neg (n4 (by omega)), if_pos ⟨h1, h2⟩]
theorem dec_none {a : Int} (hn : noneTo a 6) : dec a = 6 := by
  unfold dec
  rw [if_neg (hn 0 (by omega)), if_neg (hn 1 (by omega)), if_neg (hn 2 (by omega)), if_neg (hn 3 (by omega)), if_neg (hn 4 (by omega)), if_neg (hn 5 (by omega))]
theorem noneTo_succ {a : Int} {k : Nat} (hn : noneTo a k) (h : ¬ (mfirst k ≤ a ∧ a ≤ mlast k)) : noneTo a (k + 1) := by
  intro j hj
  by_cases e : j = k
  · subst e; exact h
  · exact hn j (by omega)

set_option maxRecDepth 100000 in
set_option maxHeartbeats 1000000 in
theorem mdecode_any (a : Int) (w : World) (hw : Maps w) :
    Calls Tryd.prog 23 #[.int .u32 a] w fun e w' => e = .returned (.int .i64 (dec a)) ∧ Below w.heap.size w w' := by
  obtain ⟨c0, d0⟩ := hw 0 (by decide)
  obtain ⟨c1, d1⟩ := hw 1 (by decide)
  obtain ⟨c2, d2⟩ := hw 2 (by decide)
  obtain ⟨c3, d3⟩ := hw 3 (by decide)
  obtain ⟨c4, d4⟩ := hw 4 (by decide)
  obtain ⟨c5, d5⟩ := hw 5 (by decide)
  simp only [Nat.reduceMul, Nat.reduceAdd] at c0 c1 c2 c3 c4 c5 d0 d1 d2 d3 d4 d5
  go_enter Tryd.func23, Tryd.ntmps23
  go_wp2
  go_loopw [6] (fun i w' => ∃ k : Nat, k ≤ 6 ∧ i = .int .i64 k ∧ noneTo a k ∧ Below w.heap.size w w') (fun i _ => 6 - (intOf i).toNat)
  case atStart => exact ⟨0, by omega, rfl, (fun j hj => absurd hj (by omega)), Below.refl _ _⟩
  case round =>
    obtain ⟨k, hk, rfl, hn, hb⟩ := hrel
    have Hn : Hid (noneTo a k) := hn
    clear hn
    by_cases hlt : k < 6
    · have hix := index_map k hlt
      by_cases hf : mfirst k ≤ a
      · by_cases hl : a ≤ mlast k
        · have HS : Hid (dec a = k) := dec_hit hlt Hn hf hl
          go_wp2
          go_ret
          exact ⟨by rw [HS.out]; rfl, hb.alloc hb.size _⟩
        · have HS : Hid (noneTo a (k + 1)) := noneTo_succ Hn (fun h => hl h.2)
          go_wp2
          exact ⟨⟨k + 1, by omega, by go_num, HS, hb.alloc hb.size _⟩, by simp [intOf]; omega⟩
      · have HS : Hid (noneTo a (k + 1)) := noneTo_succ Hn (fun h => hf h.1)
        go_wp2
        exact ⟨⟨k + 1, by omega, by go_num, HS, hb.alloc hb.size _⟩, by simp [intOf]; omega⟩
    · obtain rfl : k = 6 := by omega
      have HS : Hid (dec a = 6) := dec_none Hn
      go_wp2
      go_ret
      exact ⟨by rw [HS.out]; rfl, hb⟩

/-! ### The plain law: the comparators agree with the intervals -/
theorem and_high (x k : Nat) (hx : x < 2 ^ 32) (hk : k ≤ 32) : x &&& (2 ^ 32 - 2 ^ k) = 2 ^ k * (x / 2 ^ k) := by
  apply Nat.eq_of_testBit_eq
  intro i
  have hpos : 0 < 2 ^ k := Nat.two_pow_pos k
  have hle : 2 ^ k ≤ 2 ^ 32 := Nat.pow_le_pow_right (by decide) hk
  have e : 2 ^ 32 - 2 ^ k = 2 ^ 32 - ((2 ^ k - 1) + 1) := by omega
  rw [Nat.testBit_and, e, Nat.testBit_two_pow_sub_succ (by omega), Nat.testBit_two_pow_sub_one, Nat.testBit_two_pow_mul, Nat.testBit_div_two_pow]
  by_cases h1 : i < 32
  · by_cases h2 : i < k
    · simp [h1, h2, Nat.not_le.2 h2]
    · have h3 : k ≤ i := Nat.le_of_not_lt h2
      simp [h1, h2, h3]
  · have h3 : k ≤ i := by omega
    have : x.testBit i = false := Nat.testBit_lt_two_pow (Nat.lt_of_lt_of_le hx (Nat.pow_le_pow_right (by decide) (by omega)))
    simp [h1, h3, this]
theorem and_mask (a m : Int) (k : Nat) (h0 : 0 ≤ a) (h1 : a < 4294967296) (hk : k ≤ 32) (hm : m = (2 ^ 32 - 2 ^ k : Nat)) (hp : 0 < 2 ^ k) (hl : 2 ^ k ≤ 2 ^ 32) : bits BinOp.and IntKind.u32 a m = 2 ^ k * (a / 2 ^ k) := by
  obtain ⟨x, rfl⟩ := Int.eq_ofNat_of_zero_le h0
  rw [u32_and x m (by omega) (by omega) (by rw [hm]; omega) (by rw [hm]; omega), hm, Int.toNat_natCast, Int.toNat_natCast, and_high x k (by omega) hk]
  simp
theorem hit_iff (a : Int) (h0 : 0 ≤ a) (h1 : a < 4294967296) (k : Nat) (hk : k < 6) : hit a k = decide (mfirst k ≤ a ∧ a ≤ mlast k) := by
  have : k = 0 ∨ k = 1 ∨ k = 2 ∨ k = 3 ∨ k = 4 ∨ k = 5 := by omega
  rcases this with rfl | rfl | rfl | rfl | rfl | rfl
  · simp only [hit, wmask, wmatch, mfirst, mlast, and_mask a _ 12 h0 h1 (by decide) (show (4294963200 : Int) = _ by decide) (by decide) (by decide)]
    rw [Bool.eq_iff_iff]; simp; omega
  · simp only [hit, wmask, wmatch, mfirst, mlast, and_mask a _ 8 h0 h1 (by decide) (show (4294967040 : Int) = _ by decide) (by decide) (by decide)]
    rw [Bool.eq_iff_iff]; simp; omega
  · simp only [hit, wmask, wmatch, mfirst, mlast, and_mask a _ 8 h0 h1 (by decide) (show (4294967040 : Int) = _ by decide) (by decide) (by decide)]
    rw [Bool.eq_iff_iff]; simp; omega
  · simp only [hit, wmask, wmatch, mfirst, mlast, and_mask a _ 6 h0 h1 (by decide) (show (4294967232 : Int) = _ by decide) (by decide) (by decide)]
    rw [Bool.eq_iff_iff]; simp; omega
  · simp only [hit, wmask, wmatch, mfirst, mlast, and_mask a _ 5 h0 h1 (by decide) (show (4294967264 : Int) = _ by decide) (by decide) (by decide)]
    rw [Bool.eq_iff_iff]; simp; omega
  · simp only [hit, wmask, wmatch, mfirst, mlast, and_mask a _ 8 h0 h1 (by decide) (show (4294967040 : Int) = _ by decide) (by decide) (by decide)]
    rw [Bool.eq_iff_iff]; simp; omega
/-- What the six rounds make of the six comparators' words. -/
def fold6 (h : Nat → Bool) : Nat → Int
  | 0 => 0
  | k + 1 => if h k then bits BinOp.or IntKind.u8 (fold6 h k) (2 ^ k % 256) else fold6 h k
theorem selTo_fold (a : Int) (k : Nat) : selTo a k = fold6 (hit a) k := by
  induction k with
  | zero => rfl
  | succ k ih => simp only [selTo, fold6, ih]
theorem fold_congr (h g : Nat → Bool) (k : Nat) (he : ∀ j, j < k → h j = g j) : fold6 h k = fold6 g k := by
  induction k with
  | zero => rfl
  | succ k ih => simp only [fold6]; rw [he k (by omega), ih (fun j hj => he j (by omega))]
theorem dec_le (a : Int) : dec a ≤ 6 := by unfold dec; repeat (first | omega | split)
theorem dec_spec (a : Int) (k : Nat) (hk : k < 6) : decide (mfirst k ≤ a ∧ a ≤ mlast k) = decide (dec a = k) := by
  have : k = 0 ∨ k = 1 ∨ k = 2 ∨ k = 3 ∨ k = 4 ∨ k = 5 := by omega
  rw [decide_eq_decide]
  unfold dec
  simp only [mfirst, mlast]
  rcases this with rfl | rfl | rfl | rfl | rfl | rfl <;> simp only [] <;> constructor <;> intro h <;> (repeat (first | omega | split | (split at h)))
theorem sel_dec (a : Int) (h0 : 0 ≤ a) (h1 : a < 4294967296) : sel a = (2 ^ dec a : Nat) := by
  have hd := dec_le a
  have e : selTo a 6 = fold6 (fun j => decide (dec a = j)) 6 := by
    rw [selTo_fold]
    exact fold_congr _ _ 6 fun j hj => by rw [hit_iff a h0 h1 j hj, dec_spec a j hj]
  unfold sel
  rw [e]
  generalize dec a = d at hd
  have : d = 0 ∨ d = 1 ∨ d = 2 ∨ d = 3 ∨ d = 4 ∨ d = 5 ∨ d = 6 := by omega
  rcases this with rfl | rfl | rfl | rfl | rfl | rfl | rfl <;> decide +kernel

set_option maxHeartbeats 400000 in
theorem xdecode_any (a : Int) (h0 : 0 ≤ a) (h1 : a < 4294967296) (w : World) (hw : Wins w) :
    Calls Tryd.prog 24 #[.int .u32 a] w fun e w' => e = .returned (.int .i64 (dec a)) ∧ Below w.heap.size w w' := by
  have hd : dec a < 7 := by have := dec_le a; omega
  have HS : Hid (sel a = (2 ^ dec a : Nat)) := sel_dec a h0 h1
  go_enter Tryd.func24, Tryd.ntmps24
  go_wp2_with fail
  refine (select_any a _ hw).mono ?_
  rintro e w1 ⟨rfl, hb⟩
  rw [HS.out]
  go_wp2_with fail
  refine (tz8_any _ hd _).mono ?_
  rintro e w2 ⟨rfl, rfl⟩
  go_wp2_with fail
  go_ret
  exact ⟨rfl, hb⟩
end Go.Proofs.Qxb6500750aDoor
