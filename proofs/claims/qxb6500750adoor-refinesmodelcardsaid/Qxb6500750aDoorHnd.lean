import Derived.Test.Qxb6500750aDoorXrep
import Derived.BigQuiet
namespace Go.Proofs.Qxb6500750aDoor
open Go.RowKit
attribute [local go_sem] put_size put_cell_same put_cell_ne put_frozen_same put_frozen_ne put_setCell_same put_setCell_ne put_drew
attribute [local go_sem] drewN_setCell drewN_alloc drewN_put
attribute [local go_sem] xg_s0 xg_s1 xg_s2 xg_s3 xg_s4 xg_s5 xg_s6 xg_s7 xg_s8 xg_s9 xg_m0 xg_m1 xg_m2 xg_m3 xg_m4 xg_t0 xg_t1 xg_t2 xg_t3 xg_t4 xg_t5 xg_t6
attribute [local go_sem] mod4_lt mod4_nn mod4_lt'
attribute [local go_sem] xs_s0 xs_s1 xs_s2 xs_s3 xs_s4 xs_s5 xs_s6 xs_s7 xs_s8 xs_s9 xs_m0 xs_m1 xs_m2 xs_m3 xs_m4 xs_t1 xs_t2 xs_t3 xs_t4 xs_t5 xs_t6 xs_sg xs_sr xs_sp rg_rs rg_rp rs_rs rs_rp
/-! ### handBack -/
theorem upd_upd {α : Type} (f : Nat → α) (i : Nat) (a b : α) : upd (upd f i a) i b = upd f i b := by
  funext j; unfold upd; split <;> rfl
def untake (x : XS) (k : Nat) : XS := x.setM k { x.mp k with tk := false }
def hands (x : XS) (k : Nat) : Bool := !((x.mp k).rt == (x.mp k).iss) && (((x.mp k).sl ((x.mp k).rt % 4).toNat).ph == 2)
def handT (k : Nat) (c : XS × RepD) : XS × RepD :=
  if hands c.1 k = true then (c.1.setM k { c.1.mp k with tk := false, rt := (c.1.mp k).rt + 1 }, { c.2 with r := upd c.2.r k ((c.1.mp k).sl ((c.1.mp k).rt % 4).toNat).ret }) else (untake c.1 k, c.2)
def handN : Nat → XS × RepD → XS × RepD
  | 0, c => c
  | n + 1, c => handT n (handN n c)
theorem hand_mp (k : Nat) (j : Nat) (c : XS × RepD) (h : k ≤ j) : (handN k c).1.mp j = c.1.mp j := by
  induction k with
  | zero => rfl
  | succ n ih =>
    unfold handN handT
    have e : j ≠ n := by omega
    split
    · simp only [XS.setM, upd, if_neg e]; exact ih (by omega)
    · simp only [untake, XS.setM, upd, if_neg e]; exact ih (by omega)
theorem rs_all (ρ : RepD) (k : Nat) (hk : k < 3) (v : Bool) (a b c d e : Int) : ((((((encR ρ).setIfInBounds (7 + k * 6) (.bool v)).setIfInBounds (7 + k * 6 + 1) (.int .u32 a)).setIfInBounds (7 + k * 6 + 2) (.int .u8 b)).setIfInBounds (7 + k * 6 + 3) (.int .u32 c)).setIfInBounds (7 + k * 6 + 4) (.int .u8 d)).setIfInBounds (7 + k * 6 + 5) (.int .u8 e) = encR { ρ with r := upd ρ.r k ⟨v, a, b, c, d, e⟩ } := by
  simp only [rs_r0 _ k hk, rs_r1 _ k hk, rs_r2 _ k hk, rs_r3 _ k hk, rs_r4 _ k hk, rs_r5 _ k hk, upd_same, upd_upd]
theorem rg_r0 (ρ : RepD) (m : Nat) (hm : m < 3) : (encR ρ)[7 + m * 6]? = some (.bool (ρ.r m).va) := rg_r ρ m 0 hm (by decide)
theorem rg_r1 (ρ : RepD) (m : Nat) (hm : m < 3) : (encR ρ)[7 + m * 6 + 1]? = some (.int .u32 (ρ.r m).sq) := rg_r ρ m 1 hm (by decide)
theorem rg_r2 (ρ : RepD) (m : Nat) (hm : m < 3) : (encR ρ)[7 + m * 6 + 2]? = some (.int .u8 (ρ.r m).st) := rg_r ρ m 2 hm (by decide)
theorem rg_r3 (ρ : RepD) (m : Nat) (hm : m < 3) : (encR ρ)[7 + m * 6 + 3]? = some (.int .u32 (ρ.r m).da) := rg_r ρ m 3 hm (by decide)
theorem rg_r4 (ρ : RepD) (m : Nat) (hm : m < 3) : (encR ρ)[7 + m * 6 + 4]? = some (.int .u8 (ρ.r m).re) := rg_r ρ m 4 hm (by decide)
theorem rg_r5 (ρ : RepD) (m : Nat) (hm : m < 3) : (encR ρ)[7 + m * 6 + 5]? = some (.int .u8 (ρ.r m).ca) := rg_r ρ m 5 hm (by decide)
attribute [local go_sem] setM_mp setM_setM upd_same upd_upd rg_r0 rg_r1 rg_r2 rg_r3 rg_r4 rg_r5 rs_r0 rs_r1 rs_r2 rs_r3 rs_r4 rs_r5 rs_g rg_g
set_option maxRecDepth 100000 in
set_option maxHeartbeats 4000000 in
theorem handBack_any (L : Nat → Value) (xb rb : Nat) (x : XS) (ρ : RepD) (w : World) (hne : rb ≠ xb) (hlx : xb < w.heap.size) (hlr : rb < w.heap.size)
    (hok : ∀ m, m < 3 → 0 ≤ (x.mp m).rt ∧ (x.mp m).rt < 4294967295) :
    Calls Tryd.prog 50 #[.pointer (some ⟨xb, 0, none⟩), .pointer (some ⟨rb, 0, none⟩)] (put (put w rb (encR ρ) 41) xb (encX L x) 132) fun e w' => e = .returned (.tuple #[]) ∧ ∃ n, w' = (put (put w rb (encR (handN 3 (x, ρ)).2) 41) xb (encX L (handN 3 (x, ρ)).1) 132).drewN n := by
  have hne2 : xb ≠ rb := Ne.symm hne
  have HOK := hid_of hok
  clear hok
  go_enter Tryd.func50, Tryd.ntmps50
  go_wp2_with fail
  go_loopw [7] (fun i w' => ∃ (k : Nat), k ≤ 3 ∧ i = .int .i64 k ∧ ∃ n, w' = (put (put w rb (encR (handN k (x, ρ)).2) 41) xb (encX L (handN k (x, ρ)).1) 132).drewN n) (fun i _ => 3 - (intOf i).toNat)
  case atStart => exact ⟨0, by omega, rfl, 0, rfl⟩
  case round =>
    obtain ⟨k, hk, rfl, n, rfl⟩ := hrel
    by_cases hk3 : k < 3
    · have hq := HOK.out k hk3
      have hmp : (handN k (x, ρ)).1.mp k = x.mp k := hand_mp k k (x, ρ) (Nat.le_refl _)
      rw [← hmp] at hq
      clear hmp
      obtain ⟨c, hc⟩ : ∃ c, handN k (x, ρ) = c := ⟨_, rfl⟩
      rw [hc] at hq
      have hnext : Hid (handN (k + 1) (x, ρ) = handT k c) := by unfold Hid; rw [← hc]; rfl
      rw [hc]
      clear hc
      obtain ⟨q0, q1⟩ := hq
      have hadd : ((c.1.mp k).rt + 1) % 4294967296 = (c.1.mp k).rt + 1 := by omega
      cases h1 : (c.1.mp k).rt == (c.1.mp k).iss
      · cases h2 : ((c.1.mp k).sl ((c.1.mp k).rt % 4).toNat).ph == 2
        · have HT : Hid (handT k c = (untake c.1 k, c.2)) := by unfold Hid handT hands; rw [h1, h2]; rfl
          go_wp2_with fail
          go_quiet (fail)
          go_wp2_with fail
          refine (slot_any xb _ _ q0 _).mono ?_
          rintro e w2 ⟨rfl, hw2⟩
          obtain rfl := hw2.symm
          go_wp2_with fail
          go_roundw
          case rel => exact ⟨k + 1, by omega, by go_num, _, by rw [hnext.out, HT.out]; rfl⟩
          case measure => simp [intOf]; omega
        · have HT : Hid (handT k c = (c.1.setM k { c.1.mp k with tk := false, rt := (c.1.mp k).rt + 1 }, { c.2 with r := upd c.2.r k ((c.1.mp k).sl ((c.1.mp k).rt % 4).toNat).ret })) := by unfold Hid handT hands; rw [h1, h2]; rfl
          go_wp2_with fail
          go_quiet (fail)
          go_wp2_with fail
          refine (slot_any xb _ _ q0 _).mono ?_
          rintro e w2 ⟨rfl, hw2⟩
          obtain rfl := hw2.symm
          go_wp2_with fail
          refine wp_region_float [0, 1, 2, 3, 4, 5, 6, 7, 8] [9] [0, 1, 2, 3, 4, 6, 7, 8] mixed (fun ω => Blk ω xb (encX L (c.1.setM k { c.1.mp k with tk := false })) 132) (by kernel_rfl) rfl (by kernel_rfl) ?hJ ?_
          case hJ => exact Blk.put_same (by rw [put_size]; exact hlx)
          iterate 9 refine wpFl_op _ _ _ _ rfl rfl (fun ω hj => by first | (obtain ⟨ω0, rfl, hl0⟩ := (hj rfl).out; go_simp; rfl) | (go_simp; rfl)) ?_
          refine wpFl_nil _ _ ?_
          simp only [Act.put, List.setIfInBounds_toArray]
          refine wpCh_rest _ _ _ _ [_] _ _ rfl (by kernel_rfl) ?_
          simp only [List.getElem_toArray, List.getElem_cons_succ, List.getElem_cons_zero]
          go_wp2_with fail
          go_roundw
          case rel => exact ⟨k + 1, by omega, by go_num, _, by rw [hnext.out, HT.out]⟩
          case measure => simp [intOf]; omega
      · have HT : Hid (handT k c = (untake c.1 k, c.2)) := by unfold Hid handT hands; rw [h1]; rfl
        go_wp2_with fail
        go_quiet (fail)
        go_wp2_with fail
        go_roundw
        case rel => exact ⟨k + 1, by omega, by go_num, _, by rw [hnext.out, HT.out]; rfl⟩
        case measure => simp [intOf]; omega
    · obtain rfl : k = 3 := by omega
      go_wp2_with fail
      go_end0
      exact ⟨rfl, n, rfl⟩
end Go.Proofs.Qxb6500750aDoor
