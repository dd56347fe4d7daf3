import Derived.Test.Qxb6500750aDoorSend
import Derived.Test.Qxb6500750aDoorDec
namespace Go.Proofs.Qxb6500750aDoor
open Go.RowKit
/-! ### Trailing zeros of a small word, and choose -/
def DeB (w : World) : Prop := ∀ j, j < 6 → w.cell? ⟨3, 2 ^ j - 1, none⟩ = some (.int .u8 (j : Nat))
def dbi (x : Int) : Int := IntKind.u64.wrap (bits BinOp.and IntKind.u64 x (IntKind.u64.wrap (-x)) * 285870213051353865) / 288230376151711744
def tz (x : Nat) : Nat := if x % 2 = 1 then 0 else if x % 4 = 2 then 1 else if x % 8 = 4 then 2 else if x % 16 = 8 then 3 else if x % 32 = 16 then 4 else 5
theorem tz_lt (x : Nat) : tz x < 6 := by unfold tz; repeat (first | omega | split)
theorem dbi_tz : ∀ x : Fin 64, x.val ≠ 0 → dbi (x.val : Nat) = ((2 ^ tz x.val - 1 : Nat) : Int) := by decide
theorem tz64_any (x : Nat) (h0 : 0 < x) (h1 : x < 64) (w : World) (hd : DeB w) :
    Calls Tryd.prog 73 #[.int .u64 x] w fun e w' => e = .returned (.int .i64 (tz x)) ∧ w' = w := by
  have hx : (((x : Nat) : Int) == 0) = false := by simp; omega
  have hi := dbi_tz ⟨x, h1⟩ (by simp; omega)
  have hc := hd (tz x) (tz_lt x)
  have ht := tz_lt x
  have hm : 2 ^ tz x - 1 < 64 := by
    have : 2 ^ tz x ≤ 2 ^ 5 := Nat.pow_le_pow_right (by omega) (by omega)
    omega
  generalize 2 ^ tz x - 1 = m at *
  unfold dbi at hi
  clear hd
  go_enter Tryd.func73, Tryd.ntmps73
  go_wp2
  go_ret
  exact ⟨rfl, rfl⟩
theorem tz_any (x : Nat) (h0 : 0 < x) (h1 : x < 64) (w : World) (hd : DeB w) :
    Calls Tryd.prog 71 #[.int .u64 x] w fun e w' => e = .returned (.int .i64 (tz x)) ∧ w' = w := by
  go_enter Tryd.func71, Tryd.ntmps71
  go_wp2_with fail
  refine (tz64_any x h0 h1 w hd).mono ?_
  rintro e w' ⟨rfl, rfl⟩
  go_wp2_with fail
  go_ret
  exact ⟨rfl, rfl⟩
def wv (f : Nat → Bool) : Nat := (f 0).toNat + 2 * (f 1).toNat + 4 * (f 2).toNat
def cho (f : Nat → Bool) (pick turn : Nat) : Nat :=
  if pick < 3 ∧ f pick = true then pick else if f turn = true then turn else if f ((turn + 1) % 3) = true then (turn + 1) % 3 else (turn + 2) % 3
def bitOf (W k : Nat) : Bool := bits BinOp.and IntKind.u8 ((W : Nat) / 2 ^ k) 1 == 1
def tw (W turn : Nat) : Nat := (9 * W) / 2 ^ turn
theorem tw_eq : ∀ (W : Fin 8) (turn : Fin 3), bits BinOp.or IntKind.u64 (W.val : Nat) ((W.val : Nat) * 8) / 2 ^ turn.val = ((tw W.val turn.val : Nat) : Int) := by decide
theorem tw_pos : ∀ (W : Fin 8) (turn : Fin 3), W.val ≠ 0 → 0 < tw W.val turn.val ∧ tw W.val turn.val < 64 := by decide
def chW (W pick turn : Nat) : Nat := if pick < 3 ∧ bitOf W pick = true then pick else (turn + tz (tw W turn)) % 3
theorem chW_any (W pick turn : Nat) (hp : pick < 4) (ht : turn < 3) (hf : W < 8) (h0 : W ≠ 0) (w : World) (hd : DeB w) :
    Calls Tryd.prog 65 #[.int .u8 (W : Nat), .int .u32 (pick : Nat), .int .u8 (turn : Nat)] w fun e w' => e = .returned (.int .u8 (chW W pick turn : Nat)) ∧ w' = w := by
  have e1 := tw_eq ⟨W, hf⟩ ⟨turn, ht⟩
  obtain ⟨e2, e3⟩ := tw_pos ⟨W, hf⟩ ⟨turn, ht⟩ h0
  simp only [] at e1 e2 e3
  have e4 := tz_lt (tw W turn)
  unfold chW
  generalize tw W turn = T at *
  obtain ⟨z, hz⟩ : ∃ z, tz T = z := ⟨_, rfl⟩
  have H2 := hid_of e2
  have H3 := hid_of e3
  have HD := hid_of hd
  clear e2 e3 hd
  rw [hz] at e4 ⊢
  have HZ := hid_of hz
  clear hz
  have hsum : ((turn : Int) + (z : Int)) % 256 = (turn : Int) + (z : Int) := by omega
  by_cases h3 : pick < 3
  · cases hb : bitOf W pick
    · rw [if_neg (by simp)]
      unfold bitOf at hb
      go_enter Tryd.func65, Tryd.ntmps65
      go_wp2_with fail
      refine (tz_any T H2.out H3.out _ HD.out).mono ?_
      rintro e w' ⟨rfl, rfl⟩
      rw [HZ.out]
      go_wp2_with fail
      go_ret
      exact ⟨by go_num, rfl⟩
    · rw [if_pos ⟨h3, rfl⟩]
      unfold bitOf at hb
      go_enter Tryd.func65, Tryd.ntmps65
      go_wp2_with fail
      go_ret
      exact ⟨rfl, rfl⟩
  · rw [if_neg (by omega)]
    go_enter Tryd.func65, Tryd.ntmps65
    go_wp2_with fail
    refine (tz_any T H2.out H3.out _ HD.out).mono ?_
    rintro e w' ⟨rfl, rfl⟩
    rw [HZ.out]
    go_wp2_with fail
    go_ret
    exact ⟨by go_num, rfl⟩
theorem cho_eq (f : Nat → Bool) (pick turn : Nat) (hp : pick < 4) (ht : turn < 3) (hf : wv f ≠ 0) : chW (wv f) pick turn = cho f pick turn := by
  have h2 : turn = 0 ∨ turn = 1 ∨ turn = 2 := by omega
  have h3 : pick = 0 ∨ pick = 1 ∨ pick = 2 ∨ pick = 3 := by omega
  unfold wv at *
  unfold cho
  rcases h2 with rfl | rfl | rfl <;> rcases h3 with rfl | rfl | rfl | rfl <;> simp only [Nat.reduceAdd, Nat.reduceMod] <;> revert hf <;>
    generalize f 0 = a <;> generalize f 1 = b <;> generalize f 2 = c <;> cases a <;> cases b <;> cases c <;> simp <;> decide
theorem wv_lt (f : Nat → Bool) : wv f < 8 := by
  unfold wv; cases f 0 <;> cases f 1 <;> cases f 2 <;> decide
theorem cho_lt (f : Nat → Bool) (pick turn : Nat) (ht : turn < 3) : cho f pick turn < 3 := by
  unfold cho; repeat (first | omega | split)
theorem cho_wants (f : Nat → Bool) (pick turn : Nat) (ht : turn < 3) (hf : wv f ≠ 0) : f (cho f pick turn) = true := by
  have h2 : turn = 0 ∨ turn = 1 ∨ turn = 2 := by omega
  unfold cho
  by_cases hp : pick < 3 ∧ f pick = true
  · rw [if_pos hp]; exact hp.2
  · rw [if_neg hp]
    unfold wv at hf
    rcases h2 with rfl | rfl | rfl <;> simp only [Nat.reduceAdd, Nat.reduceMod] <;> cases f0 : f 0 <;> cases f1 : f 1 <;> cases f2 : f 2 <;> simp_all
theorem choose_any (f : Nat → Bool) (pick turn : Nat) (hp : pick < 4) (ht : turn < 3) (hf : wv f ≠ 0) (w : World) (hd : DeB w) :
    Calls Tryd.prog 65 #[.int .u8 (wv f : Nat), .int .u32 (pick : Nat), .int .u8 (turn : Nat)] w fun e w' => e = .returned (.int .u8 (cho f pick turn : Nat)) ∧ w' = w := by
  rw [← cho_eq f pick turn hp ht hf]
  exact chW_any _ _ _ hp ht (wv_lt f) hf w hd
end Go.Proofs.Qxb6500750aDoor
