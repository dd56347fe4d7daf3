import Derived.Test.Qxb6500749aCor
namespace Go.Proofs.Qxb6500749a
open Go.RowKit
attribute [local go_sem] put_size put_cell_same put_cell_ne put_frozen_same put_frozen_ne put_setCell_same put_setCell_ne put_drew
attribute [local go_sem] drewN_setCell drewN_alloc drewN_put
/-! ### Instructions taken apart -/
theorem and_fifteen (a : Int) (h0 : 0 ≤ a) (h1 : a < 4294967296) : bits BinOp.and IntKind.u32 a 15 = a % 16 := by
  obtain ⟨x, rfl⟩ := Int.eq_ofNat_of_zero_le h0
  rw [u32_and x 15 (by omega) (by omega) (by omega) (by omega), Int.toNat_natCast]
  have : (15 : Int).toNat = 2 ^ 4 - 1 := rfl
  rw [this, Nat.and_two_pow_sub_one_eq_mod]
  omega
structure IN where
  op : Int
  rd : Nat
  ra : Nat
  rb : Nat
  i12 : Int
  i16 : Int
def decF (x : Int) : IN := ⟨x / 16777216, (x / 1048576 % 16).toNat, (x / 65536 % 16).toNat, (x / 4096 % 16).toNat, wrap32 (x * 1048576 % 4294967296) / 1048576 % 4294967296, wrap32 (x * 65536 % 4294967296) / 65536 % 4294967296⟩
def inV (i : IN) : Array Value := #[.int .u8 i.op, .int .i64 (i.rd : Nat), .int .i64 (i.ra : Nat), .int .i64 (i.rb : Nat), .int .u32 i.i12, .int .u32 i.i16]
theorem size132 : (Try.prog.info? 132).map (·.size) = some 6 := by kernel_rfl
set_option maxRecDepth 100000 in
theorem decode_any (x : Int) (hx : 0 ≤ x ∧ x < 4294967296) (w : World) :
    Calls Try.prog 85 #[.int .u32 x] w fun e w' => e = .returned (.agg (inV (decF x))) ∧ Below w.heap.size w w' := by
  have a1 := and_fifteen (x / 1048576) (by omega) (by omega)
  have a2 := and_fifteen (x / 65536) (by omega) (by omega)
  have a3 := and_fifteen (x / 4096) (by omega) (by omega)
  have hV : Hid (#[.int .u8 (x / 16777216), .int .i64 (x / 1048576 % 16), .int .i64 (x / 65536 % 16), .int .i64 (x / 4096 % 16), .int .u32 (wrap32 (x * 1048576 % 4294967296) / 1048576 % 4294967296), .int .u32 (wrap32 (x * 65536 % 4294967296) / 65536 % 4294967296)] = inV (decF x)) := by
    unfold Hid inV decF
    simp only []
    rw [Int.toNat_of_nonneg (by omega), Int.toNat_of_nonneg (by omega), Int.toNat_of_nonneg (by omega)]
  go_enter Try.func85, Try.ntmps85
  go_wp2_with fail
  rw [hV.out]
  exact bodyPost_ret (v := .agg (inV (decF x))) (results_cell_row (by rfl) _ _ w.heap.size 132 _ (0, 0) _ (by rfl) (Blk.new w _ _) Try.underlying132 rfl (by rw [size132]; rfl)) rfl ⟨rfl, (Below.refl _ _).alloc (Nat.le_refl _) _⟩
theorem flag_any (b : Bool) (w : World) : Calls Try.prog 68 #[.bool b] w fun e w' => e = .returned (.int .u32 (if b = true then 1 else 0)) ∧ w' = w := by
  cases b
  · go_enter Try.func68, Try.ntmps68
    go_wp2_with fail
    go_ret
    exact ⟨rfl, rfl⟩
  · go_enter Try.func68, Try.ntmps68
    go_wp2_with fail
    go_ret
    exact ⟨rfl, rfl⟩
/-! ### The program store -/
def fetF (prog : List Int) (pc : Int) : Int := if pc < (prog.length : Nat) then prog.getD pc.toNat 0 else 4294967295
def prow (prog : List Int) : List Value := prog.map fun x => .int .u32 x
set_option maxRecDepth 100000 in
theorem fetch_any (pb o : Nat) (a : Option Addr) (n cap : Nat) (prog : List Int) (hn : prog.length = n) (hn6 : n ≤ 64) (pc : Int) (hp : 0 ≤ pc ∧ pc < 4294967296) (w : World) (c2 : w.cell? ⟨pb, o + 2, none⟩ = some (.slice a n cap)) (hS : Sl w (.slice a n cap) 30 1 n (prow prog)) :
    Calls Try.prog 86 #[.pointer (some ⟨pb, o, none⟩), .int .u32 pc] w fun e w' => e = .returned (.int .u32 (fetF prog pc)) ∧ w' = w := by
  have hnw : ((n : Nat) : Int) % 4294967296 = (n : Nat) := by omega
  by_cases h : pc < (n : Nat)
  · obtain ⟨p, rfl⟩ : ∃ p : Nat, pc = (p : Nat) := Int.eq_ofNat_of_zero_le hp.1
    have hpn : p < n := by omega
    obtain ⟨b, off, cap', e1, _, _⟩ := hS.form (by omega)
    injection e1 with e1 _ e3
    subst e1; subst e3
    have hc := hS.cell rfl p (by unfold prow; rw [List.length_map, hn]; exact hpn)
    have hx : (prow prog)[p]? = some (.int .u32 (fetF prog ((p : Nat) : Int))) := by
      unfold prow fetF
      rw [hn, if_pos h, List.getElem?_map, Int.toNat_natCast, List.getD_eq_getElem?_getD, List.getElem?_eq_getElem (by omega)]
      rfl
    rw [hx] at hc
    obtain ⟨y, hy⟩ : ∃ y, fetF prog ((p : Nat) : Int) = y := ⟨_, rfl⟩
    rw [hy] at hc ⊢
    have hd : ¬ ((n : Nat) : Int) ≤ ((p : Nat) : Int) := by omega
    clear hS hx hy hn
    go_enter Try.func86, Try.ntmps86
    go_wp2_with fail
    go_ret
    exact ⟨rfl, rfl⟩
  · have hf : fetF prog pc = 4294967295 := by unfold fetF; rw [hn, if_neg h]
    rw [hf]
    have hd : ((n : Nat) : Int) ≤ pc := by omega
    clear hS hf hn
    go_enter Try.func86, Try.ntmps86
    go_wp2_with fail
    go_ret
    exact ⟨rfl, rfl⟩
end Go.Proofs.Qxb6500749a
