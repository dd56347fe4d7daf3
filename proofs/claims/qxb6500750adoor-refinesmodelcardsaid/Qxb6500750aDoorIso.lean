import Derived.Test.Qxb6500750aDoorArb
import Derived.BigQuiet
namespace Go.Proofs.Qxb6500750aDoor
open Go.RowKit
attribute [local go_sem] put_size put_cell_same put_cell_ne put_frozen_same put_frozen_ne put_setCell_same put_setCell_ne put_drew
attribute [local go_sem] drewN_setCell drewN_alloc drewN_put
attribute [local go_sem] xg_s0 xg_s1 xg_s2 xg_s3 xg_s4 xg_s5 xg_s6 xg_s7 xg_s8 xg_s9 xg_m0 xg_m1 xg_m2 xg_m3 xg_m4 xg_t0 xg_t1 xg_t2 xg_t3 xg_t4 xg_t5 xg_t6
attribute [local go_sem] mod4_lt mod4_nn mod4_lt'
attribute [local go_sem] xs_s0 xs_s1 xs_s2 xs_s3 xs_s4 xs_s5 xs_s6 xs_s7 xs_s8 xs_s9 xs_m0 xs_m1 xs_m2 xs_m3 xs_m4 xs_t1 xs_t2 xs_t3 xs_t4 xs_t5 xs_t6
attribute [local go_sem] setM_mp setM_setM upd_same upd_upd setS_mpm setS_setM setS_sl setS_setS
/-! ### Isolate -/
def cancelS (s : Slot) : Slot := { s with ph := 2, ret := { s.ret with st := 4 } }
def cancelT (x : XS) (m : Nat) : XS := x.setM m { x.mp m with sl := upd (x.mp m).sl ((x.mp m).gr % 4).toNat (cancelS ((x.mp m).sl ((x.mp m).gr % 4).toNat)), gr := (x.mp m).gr + 1 }
def cancelN (m : Nat) : Nat → XS → XS
  | 0, x => x
  | n + 1, x => cancelT (cancelN m n x) m
theorem cancelN_mp (m n : Nat) (x : XS) : ((cancelN m n x).mp m).gr = (x.mp m).gr + (n : Nat) ∧ ((cancelN m n x).mp m).iss = (x.mp m).iss := by
  induction n with
  | zero => exact ⟨by show (x.mp m).gr = (x.mp m).gr + ((0 : Nat) : Int); omega, rfl⟩
  | succ n ih =>
    obtain ⟨a, b⟩ := ih
    unfold cancelN cancelT
    rw [setM_mp]
    exact ⟨by show ((cancelN m n x).mp m).gr + 1 = _; rw [a]; omega, b⟩
def isoM (x : XS) (m : Nat) (on : Bool) : XS :=
  let x1 := x.setM m { x.mp m with iso := on }
  if on then cancelN m ((x.mp m).iss - (x.mp m).gr).toNat x1 else x1
def isoX (x : XS) (i : Int) (on : Bool) : XS := if i < 0 ∨ 9 ≤ i then x else if 3 ≤ i then x.setT (i - 3).toNat { x.tp (i - 3).toNat with iso := on } else isoM x i.toNat on
def isoR (i : Int) : Bool := !(decide (i < 0) || decide (9 ≤ i))
theorem isolate_none (xb : Nat) (i : Int) (on : Bool) (hi : i < 0 ∨ 9 ≤ i) (w : World) :
    Calls Tryd.prog 34 #[.pointer (some ⟨xb, 0, none⟩), .int .i64 i, .bool on] w fun e w' => e = .returned (.bool false) ∧ w' = w := by
  by_cases h : i < 0
  · clear hi
    go_enter Tryd.func34, Tryd.ntmps34
    go_wp2_with fail
    go_ret
    exact ⟨rfl, rfl⟩
  · have h3 : 9 ≤ i := by omega
    clear hi
    go_enter Tryd.func34, Tryd.ntmps34
    go_wp2_with fail
    go_ret
    exact ⟨rfl, rfl⟩
theorem isolate_slave (L : Nat → Value) (xb : Nat) (x : XS) (t : Nat) (on : Bool) (ht : t < 6) (w : World) (hl : xb < w.heap.size) :
    Calls Tryd.prog 34 #[.pointer (some ⟨xb, 0, none⟩), .int .i64 ((t + 3 : Nat) : Int), .bool on] (put w xb (encX L x) 132) fun e w' => e = .returned (.bool true) ∧ w' = put w xb (encX L (x.setT t { x.tp t with iso := on })) 132 := by
  have ht7 : t < 7 := by omega
  have e1 : ((t + 3 : Nat) : Int) - 3 = (t : Nat) := by omega
  have e2 : IntKind.i64.wrap (((t + 3 : Nat) : Int) - 3) = (t : Nat) := by rw [e1]; simp [IntKind.wrap, IntKind.bits, IntKind.signed]; omega
  obtain ⟨i, hi⟩ : ∃ i, ((t + 3 : Nat) : Int) = i := ⟨_, rfl⟩
  have h0 : ¬ i < 0 := by omega
  have h1 : ¬ 9 ≤ i := by omega
  have h2 : 3 ≤ i := by omega
  rw [hi] at e2 ⊢
  clear hi e1
  go_enter Tryd.func34, Tryd.ntmps34
  go_wp2_with fail
  go_ret
  exact ⟨rfl, rfl⟩
set_option maxRecDepth 100000 in
set_option maxHeartbeats 2000000 in
theorem isolate_master (L : Nat → Value) (xb : Nat) (x : XS) (m : Nat) (on : Bool) (hm : m < 3) (h0 : 0 ≤ (x.mp m).gr) (h1 : (x.mp m).gr ≤ (x.mp m).iss) (h2 : (x.mp m).iss < 4294967296) (w : World) (hl : xb < w.heap.size) :
    Calls Tryd.prog 34 #[.pointer (some ⟨xb, 0, none⟩), .int .i64 (m : Nat), .bool on] (put w xb (encX L x) 132) fun e w' => e = .returned (.bool true) ∧ ∃ n, w' = (put w xb (encX L (isoM x m on)) 132).drewN n := by
  have hm9 : ¬ (9 : Int) ≤ (m : Nat) := by omega
  have hm3 : ¬ (3 : Int) ≤ (m : Nat) := by omega
  have hm0 : ¬ ((m : Nat) : Int) < 0 := by omega
  cases on
  · go_enter Tryd.func34, Tryd.ntmps34
    go_wp2_with fail
    go_ret
    exact ⟨rfl, 0, rfl⟩
  · obtain ⟨y, hy⟩ : ∃ y, x.setM m { x.mp m with iso := true } = y := ⟨_, rfl⟩
    have hyg : (y.mp m).gr = (x.mp m).gr := by rw [← hy, setM_mp]
    have hyi : (y.mp m).iss = (x.mp m).iss := by rw [← hy, setM_mp]
    have HI : Hid (isoM x m true = cancelN m ((y.mp m).iss - (y.mp m).gr).toNat y) := by unfold Hid isoM; rw [hyg, hyi]; simp only [if_true]; rw [hy]
    rw [← hyg] at h0 h1
    rw [← hyi] at h1 h2
    have HY := hid_of hy
    have HYS := hid_of (And.intro hyg hyi)
    clear hy hyg hyi
    go_enter Tryd.func34, Tryd.ntmps34
    go_wp2_with fail
    rw [HY.out]
    go_loopw [] (fun w' => ∃ (k : Nat) (n : Nat), k ≤ ((y.mp m).iss - (y.mp m).gr).toNat ∧ w' = (put w xb (encX L (cancelN m k y)) 132).drewN n) (fun w' => ((y.mp m).iss - intOf ((w'.cell? ⟨xb, m * 45 + 41, none⟩).getD undef)).toNat)
    case atStart => exact ⟨0, 0, by omega, rfl⟩
    case round =>
      obtain ⟨k, n, hk, rfl⟩ := hrel
      obtain ⟨c1, c2⟩ := cancelN_mp m k y
      obtain ⟨z, hz⟩ : ∃ z, cancelN m k y = z := ⟨_, rfl⟩
      rw [hz] at c1 c2 ⊢
      have hnext : Hid (cancelN m (k + 1) y = cancelT z m) := by unfold Hid; rw [← hz]; rfl
      by_cases hlast : k = ((y.mp m).iss - (y.mp m).gr).toNat
      · have hq : ((z.mp m).gr == (z.mp m).iss) = true := by simp; omega
        have HZ : Hid (isoM x m true = z) := by unfold Hid; rw [HI.out, ← hlast, hz]
        clear c1 c2
        go_wp2_with fail
        go_quiet (fail)
        go_wp2_with fail
        go_ret
        exact ⟨rfl, _, by rw [HZ.out]; exact World.drewN_drewN ..⟩
      · have hq : ((z.mp m).gr == (z.mp m).iss) = false := by simp; omega
        have g0 : 0 ≤ (z.mp m).gr := by omega
        have hadd : ((z.mp m).gr + 1) % 4294967296 = (z.mp m).gr + 1 := by omega
        have hmes : Hid ((z.mp m).gr < (y.mp m).iss) := by unfold Hid; omega
        clear c1 c2
        go_wp2_with fail
        go_quiet (fail)
        go_wp2_with fail
        refine (slot_any xb _ _ g0 _).mono ?_
        rintro e w2 ⟨rfl, hw2⟩
        obtain rfl := hw2.symm
        go_wp2_with fail
        go_roundw
        case rel => exact ⟨k + 1, _, by omega, by rw [hnext.out]; rfl⟩
        case measure =>
          have e : ∀ (q : XS) (j : Nat), ((put w xb (encX L q) 132).drewN j).cell? ⟨xb, m * 45 + 41, none⟩ = some (.int .u32 (q.mp m).gr) := fun q j => (put_cell_same w xb (m * 45 + 41) (encX L q) 132 hl).trans (xg_m1 L q m hm)
          rw [e, e, setM_mp]
          have hmm := hmes.out
          simp [intOf]
          omega
end Go.Proofs.Qxb6500750aDoor
