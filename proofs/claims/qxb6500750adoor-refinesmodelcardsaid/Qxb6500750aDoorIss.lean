import Derived.Test.Qxb6500750aDoorArb
import Derived.BigQuiet
namespace Go.Proofs.Qxb6500750aDoor
open Go.RowKit
attribute [local go_sem] put_size put_cell_same put_cell_ne put_frozen_same put_frozen_ne put_setCell_same put_setCell_ne put_drew
attribute [local go_sem] drewN_setCell drewN_alloc drewN_put
attribute [local go_sem] xg_s0 xg_s1 xg_s2 xg_s3 xg_s4 xg_s5 xg_s6 xg_s7 xg_s8 xg_s9 xg_m0 xg_m1 xg_m2 xg_m3 xg_m4 xg_t0 xg_t1 xg_t2 xg_t3 xg_t4 xg_t5 xg_t6
attribute [local go_sem] mod4_lt mod4_nn mod4_lt'
attribute [local go_sem] xs_s0 xs_s1 xs_s2 xs_s3 xs_s4 xs_s5 xs_s6 xs_s7 xs_s8 xs_s9 xs_m0 xs_m1 xs_m2 xs_m3 xs_m4 xs_t1 xs_t2 xs_t3 xs_t4 xs_t5 xs_t6
attribute [local go_sem] setM_mp setM_setM upd_same upd_upd setS_mpm setS_setM setS_sl setS_setS
/-! ### Outstanding, index, Issue -/
def idx (a : Int) : Int := if a > 1048576 then -1 else a
theorem index_any (a : Int) (h0 : 0 ≤ a) (h1 : a < 4294967296) (w : World) :
    Calls Tryd.prog 35 #[.int .u32 a] w fun e w' => e = .returned (.int .i64 (idx a)) ∧ w' = w := by
  unfold idx
  by_cases h : a > 1048576
  · rw [if_pos h]
    go_enter Tryd.func35, Tryd.ntmps35
    go_wp2
    go_ret
    exact ⟨rfl, rfl⟩
  · rw [if_neg h]
    go_enter Tryd.func35, Tryd.ntmps35
    go_wp2
    go_ret
    exact ⟨rfl, rfl⟩
theorem outstanding_any (L : Nat → Value) (xb : Nat) (x : XS) (m : Nat) (hm : m < 3) (h0 : 0 ≤ (x.mp m).iss - (x.mp m).rt) (h1 : (x.mp m).iss - (x.mp m).rt < 4294967296) (w : World) (hB : Blk w xb (encX L x) 132) :
    Calls Tryd.prog 42 #[.pointer (some ⟨xb, 0, none⟩), .int .i64 (m : Nat)] w fun e w' => e = .returned (.int .i64 ((x.mp m).iss - (x.mp m).rt)) ∧ ∃ n, w' = w.drewN n := by
  have hw : ((x.mp m).iss - (x.mp m).rt) % 4294967296 = (x.mp m).iss - (x.mp m).rt := Int.emod_eq_of_lt h0 h1
  obtain ⟨w0, rfl, hl⟩ := hB.out
  clear hB
  go_enter Tryd.func42, Tryd.ntmps42
  go_wp2_with fail
  go_quiet (fail)
  go_wp2_with fail
  go_ret
  exact ⟨rfl, _, rfl⟩
theorem below_drewN' {B n : Nat} {w w' : World} (h : Below B w w') : Below B w (w'.drewN n) := ⟨h.os, h.tape, h.output, h.size, h.block⟩
/-- An offer at master m. -/
def offS (x : XS) (m : Nat) : Int := if (x.mp m).iso = true then 2 else if (x.mp m).tk = true ∨ 4 ≤ (x.mp m).iss - (x.mp m).rt then 1 else 0
def offX (x : XS) (m : Nat) (r : Req) : XS :=
  x.setM m { x.mp m with sl := upd (x.mp m).sl ((x.mp m).iss % 4).toNat ⟨r, 0, ⟨true, (x.mp m).iss, 0, 0, 0, 0⟩⟩, iss := (x.mp m).iss + 1, tk := true }
theorem issue_none (xb : Nat) (i : Int) (r : Req) (hi : i < 0 ∨ 3 ≤ i) (w : World) :
    Calls Tryd.prog 47 #[.pointer (some ⟨xb, 0, none⟩), .int .i64 i, .agg #[.bool r.w, .int .u32 r.ad, .int .u32 r.da]] w fun e w' => e = .returned (.tuple #[.int .u32 0, .int .u8 2]) ∧ Below w.heap.size w w' := by
  by_cases h : i < 0
  · clear hi
    go_enter Tryd.func47, Tryd.ntmps47
    go_wp2_with fail
    refine bodyPost_ret (results_tmp2 rfl _ _ _) rfl ?_
    exact ⟨rfl, (Below.refl _ _).alloc (Nat.le_refl _) _⟩
  · have h3 : 3 ≤ i := by omega
    clear hi
    go_enter Tryd.func47, Tryd.ntmps47
    go_wp2_with fail
    refine bodyPost_ret (results_tmp2 rfl _ _ _) rfl ?_
    exact ⟨rfl, (Below.refl _ _).alloc (Nat.le_refl _) _⟩
set_option maxRecDepth 100000 in
set_option maxHeartbeats 2000000 in
theorem issue_any (L : Nat → Value) (xb : Nat) (x : XS) (m : Nat) (r : Req) (hm : m < 3) (h0 : 0 ≤ (x.mp m).iss - (x.mp m).rt) (h1 : (x.mp m).iss < 4294967295) (h2 : 0 ≤ (x.mp m).rt) (w : World) (hl : xb < w.heap.size) :
    Calls Tryd.prog 47 #[.pointer (some ⟨xb, 0, none⟩), .int .i64 (m : Nat), .agg #[.bool r.w, .int .u32 r.ad, .int .u32 r.da]] (put w xb (encX L x) 132) fun e w' => e = .returned (.tuple #[.int .u32 (if offS x m = 0 then (x.mp m).iss else 0), .int .u8 (offS x m)]) ∧ Below w.heap.size (put w xb (encX L (if offS x m = 0 then offX x m r else x)) 132) w' := by
  have hw : ((x.mp m).iss - (x.mp m).rt) % 4294967296 = (x.mp m).iss - (x.mp m).rt := Int.emod_eq_of_lt h0 (by omega)
  cases hi : (x.mp m).iso
  · cases ht : (x.mp m).tk
    · by_cases h4 : 4 ≤ (x.mp m).iss - (x.mp m).rt
      · have e : offS x m = 1 := by simp [offS, hi, ht, h4]
        have hge : (decide ((x.mp m).iss - (x.mp m).rt ≥ 4)) = true := by simp; omega
        rw [e]
        go_enter Tryd.func47, Tryd.ntmps47
        go_wp2_with fail
        go_quiet (fail)
        go_wp2_with fail
        refine bodyPost_ret (results_tmp2 rfl _ _ _) rfl ?_
        exact ⟨rfl, below_drewN' ((Below.refl _ _).alloc (by simp [put_size]) _)⟩
      · have e : offS x m = 0 := by simp [offS, hi, ht, h4]
        have hge : (decide ((x.mp m).iss - (x.mp m).rt ≥ 4)) = false := by simp; omega
        have hi0 : 0 ≤ (x.mp m).iss := by omega
        have hadd : ((x.mp m).iss + 1) % 4294967296 = (x.mp m).iss + 1 := by omega
        have ho : offX x m r = x.setM m { x.mp m with sl := upd (x.mp m).sl ((x.mp m).iss % 4).toNat ⟨⟨r.w, r.ad, r.da⟩, 0, ⟨true, (x.mp m).iss, 0, 0, 0, 0⟩⟩, iss := (x.mp m).iss + 1, tk := true, iso := false } := by
          unfold offX; simp only [hi]
        rw [e, ho]
        clear ho
        go_enter Tryd.func47, Tryd.ntmps47
        go_wp2_with fail
        go_quiet (fail)
        go_wp2_with fail
        refine wp_region_float [0, 1, 2, 3, 4, 5, 6, 7] [8] [0, 1, 4, 5, 6, 7] mixed (fun ω => Blk ω w.heap.size #[.bool r.w, .int .u32 r.ad, .int .u32 r.da] 91) (by kernel_rfl) rfl (by kernel_rfl) ?hJ ?_
        case hJ => have := Blk.new (put w xb (encX L x) 132) #[.bool r.w, .int .u32 r.ad, .int .u32 r.da] 91; rw [put_size] at this; exact this
        iterate 2 refine wpFl_op _ _ _ _ rfl rfl (fun ω hj => by first | (obtain ⟨ω0, rfl, hl0⟩ := (hj rfl).out; go_simp; rfl) | (go_simp; rfl)) ?_
        refine wpFl_call _ _ _ _ 51 _ rfl rfl (fun ω => by go_simp; rfl) (fun ω hj => slot_any xb _ _ hi0 ω) ?_
        iterate 5 refine wpFl_op _ _ _ _ rfl rfl (fun ω hj => by first | (obtain ⟨ω0, rfl, hl0⟩ := (hj rfl).out; go_simp; rfl) | (go_simp; rfl)) ?_
        refine wpFl_nil _ _ ?_
        simp only [Act.put, List.setIfInBounds_toArray]
        refine wpCh_rest _ _ _ _ [_] _ _ rfl (by kernel_rfl) ?_
        simp only [List.getElem_toArray, List.getElem_cons_succ, List.getElem_cons_zero]
        go_wp2_with fail
        refine bodyPost_ret (results_tmp2 rfl _ _ _) rfl ?_
        exact ⟨rfl, below_drewN' ((Below.refl _ _).alloc (by simp [put_size]) _)⟩
    · have e : offS x m = 1 := by simp [offS, hi, ht]
      rw [e]
      go_enter Tryd.func47, Tryd.ntmps47
      go_wp2_with fail
      go_quiet (fail)
      go_wp2_with fail
      refine bodyPost_ret (results_tmp2 rfl _ _ _) rfl ?_
      exact ⟨rfl, below_drewN' ((Below.refl _ _).alloc (by simp [put_size]) _)⟩
  · have e : offS x m = 2 := by simp [offS, hi]
    rw [e]
    go_enter Tryd.func47, Tryd.ntmps47
    go_wp2_with fail
    refine bodyPost_ret (results_tmp2 rfl _ _ _) rfl ?_
    exact ⟨rfl, (Below.refl _ _).alloc (by simp [put_size]) _⟩
end Go.Proofs.Qxb6500750aDoor
