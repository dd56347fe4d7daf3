import Derived.Test.Qxb6500750aDoorIss
import Derived.Test.Qxb6500750aDoorTic
import Derived.Test.Qxb6500750aDoorWhole
namespace Go.Proofs.Qxb6500750aDoor
open Go.RowKit
attribute [local go_sem] put_size put_cell_same put_cell_ne put_frozen_same put_frozen_ne put_setCell_same put_setCell_ne put_drew
attribute [local go_sem] drewN_setCell drewN_alloc drewN_put
attribute [local go_sem] xg_s0 xg_s1 xg_s2 xg_s3 xg_s4 xg_s5 xg_s6 xg_s7 xg_s8 xg_s9 xg_m0 xg_m1 xg_m2 xg_m3 xg_m4 xg_t0 xg_t1 xg_t2 xg_t3 xg_t4 xg_t5 xg_t6
attribute [local go_sem] xs_m0 xs_m1 xs_m2 xs_m3 xs_m4 xs_t1 xs_t2 xs_t3 xs_t4 xs_t5 xs_t6
attribute [local go_sem] setM_mp setM_setM setT_setT setT_tp
/-! ### Reset -/
theorem encX_size (L : Nat → Value) (x : XS) : (encX L x).size = 205 := by simp [encX, row]
def slot0 : Slot := ⟨⟨false, 0, 0⟩, 0, ret0⟩
def mp0 (iso : Bool) : MP := ⟨fun _ => slot0, 0, 0, 0, false, iso⟩
def rstM : Nat → XS → XS
  | 0, x => x
  | n + 1, x => (rstM n x).setM n (mp0 (x.mp n).iso)
def rstT : Nat → XS → XS
  | 0, x => x
  | n + 1, x => (rstT n x).setT n { x.tp n with orph := (x.tp n).busy, turn := 0 }
def rstU (x : XS) : XS := { x with sg := fun _ => 0, sr := fun _ => 0, sp := fun _ => 0 }
def rstX (x : XS) : XS := rstU (rstT 7 (rstM 3 x))
theorem rstM_mp (n j : Nat) (x : XS) (h : n ≤ j) : (rstM n x).mp j = x.mp j := by
  induction n with
  | zero => rfl
  | succ n ih => unfold rstM; simp only [XS.setM, upd]; rw [if_neg (by omega)]; exact ih (by omega)
theorem rstT_tp (n j : Nat) (x : XS) (h : n ≤ j) : (rstT n x).tp j = x.tp j := by
  induction n with
  | zero => rfl
  | succ n ih => unfold rstT; simp only [XS.setT, upd]; rw [if_neg (by omega)]; exact ih (by omega)
def mrow (m : MP) : Array Value := row 45 (mcell m)
theorem mrow0 (b : Bool) : mrow (mp0 b) = #[.bool false, .int .u32 0, .int .u32 0, .int .u8 0, .bool false, .int .u32 0, .int .u8 0, .int .u32 0, .int .u8 0, .int .u8 0,
  .bool false, .int .u32 0, .int .u32 0, .int .u8 0, .bool false, .int .u32 0, .int .u8 0, .int .u32 0, .int .u8 0, .int .u8 0,
  .bool false, .int .u32 0, .int .u32 0, .int .u8 0, .bool false, .int .u32 0, .int .u8 0, .int .u32 0, .int .u8 0, .int .u8 0,
  .bool false, .int .u32 0, .int .u32 0, .int .u8 0, .bool false, .int .u32 0, .int .u8 0, .int .u32 0, .int .u8 0, .int .u8 0,
  .int .u32 0, .int .u32 0, .int .u32 0, .bool false, .bool b] := by kernel_rfl
theorem setM_cells (L : Nat → Value) (x : XS) (k : Nat) (a : MP) (hk : k < 3) (j : Nat) (hj : j < 205) :
    (encX L (x.setM k a))[j]? = if k * 45 ≤ j ∧ j < k * 45 + 45 then (mrow a)[j - k * 45]? else (encX L x)[j]? := by
  unfold encX mrow
  rw [row_get _ _ _ hj, row_get _ _ _ hj]
  have hc : ∀ y : XS, xcell L y j = if j < 135 then mcell (y.mp (j / 45)) (j % 45) else if j < 184 then tcell (L ((j - 135) / 7)) (y.tp ((j - 135) / 7)) ((j - 135) % 7) else ucell y (j - 184) := fun y => rfl
  by_cases h : k * 45 ≤ j ∧ j < k * 45 + 45
  · have e1 : j / 45 = k := by omega
    have e2 : j % 45 = j - k * 45 := by omega
    rw [if_pos h, row_get _ _ _ (by omega), hc, if_pos (by omega), e1, e2]
    simp [XS.setM, upd]
  · rw [if_neg h, hc, hc]
    by_cases h1 : j < 135
    · rw [if_pos h1, if_pos h1]
      have e1 : j / 45 ≠ k := by omega
      simp only [XS.setM, upd, if_neg e1]
    · rw [if_neg h1, if_neg h1]; rfl
theorem rstU_cells (L : Nat → Value) (x : XS) (j : Nat) (hj : j < 205) :
    (encX L (rstU x))[j]? = if 184 ≤ j ∧ j < 184 + 21 then some (.int .u32 0) else (encX L x)[j]? := by
  unfold encX
  rw [row_get _ _ _ hj, row_get _ _ _ hj]
  have hc : ∀ y : XS, xcell L y j = if j < 135 then mcell (y.mp (j / 45)) (j % 45) else if j < 184 then tcell (L ((j - 135) / 7)) (y.tp ((j - 135) / 7)) ((j - 135) % 7) else ucell y (j - 184) := fun y => rfl
  by_cases h : 184 ≤ j
  · rw [if_pos ⟨h, by omega⟩, hc, if_neg (by omega), if_neg (by omega)]
    unfold ucell rstU
    split
    · rfl
    · split <;> rfl
  · rw [if_neg (by omega), hc, hc]
    by_cases h1 : j < 135
    · rw [if_pos h1, if_pos h1]; rfl
    · rw [if_neg h1, if_neg h1, if_pos (by omega), if_pos (by omega)]; rfl
def urow : Array Value := row 21 fun _ => .int .u32 0
theorem Tryd.size122 : (Tryd.prog.info? 122).map (·.size) = some 45 := by kernel_rfl
theorem Tryd.size130 : (Tryd.prog.info? 130).map (·.size) = some 21 := by kernel_rfl
set_option maxRecDepth 100000 in
set_option maxHeartbeats 4000000 in
theorem reset_any (L : Nat → Value) (xb : Nat) (x : XS) (w : World) (hl : xb < w.heap.size) :
    Calls Tryd.prog 36 #[.pointer (some ⟨xb, 0, none⟩)] (put w xb (encX L x) 132) fun e w' => e = .returned (.tuple #[]) ∧ ∃ n, w' = (put w xb (encX L (rstX x)) 132).drewN n := by
  go_enter Tryd.func36, Tryd.ntmps36
  go_wp2_with fail
  go_loopw [5] (fun i w' => ∃ (k n : Nat), k ≤ 3 ∧ i = .int .i64 k ∧ w' = (put w xb (encX L (rstM k x)) 132).drewN n) (fun i _ => 3 - (intOf i).toNat)
  case atStart => exact ⟨0, 0, by omega, rfl, rfl⟩
  case round =>
    obtain ⟨k, n, hk, rfl, rfl⟩ := hrel
    by_cases hk3 : k < 3
    · have hkm := rstM_mp k k x (Nat.le_refl _)
      have hnext : Hid (rstM (k + 1) x = (rstM k x).setM k (mp0 ((rstM k x).mp k).iso)) := by unfold Hid; rw [hkm]; rfl
      obtain ⟨y, hy⟩ : ∃ y, rstM k x = y := ⟨_, rfl⟩
      rw [hy] at hnext ⊢
      clear hy hkm
      go_wp2_with fail
      refine wp_region_float [0, 1, 2, 3, 4, 5, 6, 7, 8, 9, 10, 11, 12] [13] [0, 1, 2, 3, 4, 5, 6, 7, 9, 10, 11, 12] mixed (fun ω => Blk ω xb (encX L y) 132) (by kernel_rfl) rfl (by kernel_rfl) ?hJ ?_
      case hJ => exact Blk.put_same hl
      iterate 13 refine wpFl_op _ _ _ _ rfl rfl (fun ω hj => by first | (obtain ⟨ω0, rfl, hl0⟩ := (hj rfl).out; go_simp; rfl) | (go_simp; rfl)) ?_
      refine wpFl_nil _ _ ?_
      simp only [Act.put, List.setIfInBounds_toArray]
      refine wpCh_rest _ _ _ _ [_] _ _ rfl (by kernel_rfl) ?_
      simp only [List.getElem_toArray, List.getElem_cons_succ, List.getElem_cons_zero]
      simp only [List.setIfInBounds_toArray, List.set_cons_succ, List.set_cons_zero]
      rw [← mrow0]
      have hsz : (mrow (mp0 (y.mp k).iso)).size = 45 := by rw [mrow0]; rfl
      have hone : (mrow (mp0 (y.mp k).iso)).all (·.oneCell') = true := by rw [mrow0]; simp [Value.oneCell']
      refine wpList_store_mid (by rfl) 122 (.tmp 20) (.tmp 17) (by rfl) xb (k * 45) (encX L y) (encX L (y.setM k (mp0 (y.mp k).iso))) (mrow (mp0 (y.mp k).iso)) 132 (by rfl) (by rfl) (Blk.put_same hl) (by rw [Tryd.size122, hsz]) (by rw [encX_size, hsz]; omega) hone (by rw [encX_size, encX_size]) (fun j hj => ?_) ?_
      · rw [encX_size] at hj
        rw [hsz]; exact setM_cells L y k _ hk3 j hj
      rw [put_drew, drewN_put, put_put]
      clear hsz hone
      go_wp2_with fail
      go_roundw
      case rel => exact ⟨k + 1, n + 1, by omega, by go_num, by rw [hnext.out]⟩
      case measure => simp [intOf]; omega
    · obtain rfl : k = 3 := by omega
      obtain ⟨y, hy⟩ : ∃ y, rstM 3 x = y := ⟨_, rfl⟩
      rw [hy]
      have HY := hid_of hy
      clear hy
      go_wp2_with fail
      go_loopw [22] (fun i w' => ∃ (k n : Nat), k ≤ 7 ∧ i = .int .i64 k ∧ w' = (put w xb (encX L (rstT k y)) 132).drewN n) (fun i _ => 7 - (intOf i).toNat)
      case atStart => exact ⟨0, n, by omega, rfl, rfl⟩
      case round =>
        obtain ⟨k, n, hk, rfl, rfl⟩ := hrel
        by_cases hk7 : k < 7
        · have hkt := rstT_tp k k y (Nat.le_refl _)
          have hnext : Hid (rstT (k + 1) y = (rstT k y).setT k { (rstT k y).tp k with orph := ((rstT k y).tp k).busy, turn := 0 }) := by unfold Hid; rw [hkt]; rfl
          obtain ⟨z, hz⟩ : ∃ z, rstT k y = z := ⟨_, rfl⟩
          rw [hz] at hnext ⊢
          clear hz hkt
          go_wp2_with fail
          go_roundw
          case rel => exact ⟨k + 1, n, by omega, by go_num, by rw [hnext.out]⟩
          case measure => simp [intOf]; omega
        · obtain rfl : k = 7 := by omega
          obtain ⟨z, hz⟩ : ∃ z, rstT 7 y = z := ⟨_, rfl⟩
          rw [hz]
          have HZ : Hid (rstX x = rstU z) := by unfold Hid rstX; rw [HY.out, hz]
          clear hz
          have hz21 : urow = #[.int .u32 0, .int .u32 0, .int .u32 0, .int .u32 0, .int .u32 0, .int .u32 0, .int .u32 0, .int .u32 0, .int .u32 0, .int .u32 0, .int .u32 0, .int .u32 0, .int .u32 0, .int .u32 0, .int .u32 0, .int .u32 0, .int .u32 0, .int .u32 0, .int .u32 0, .int .u32 0, .int .u32 0] := rfl
          have hsz : urow.size = 21 := rfl
          have hone : urow.all (·.oneCell') = true := by rw [hz21]; simp [Value.oneCell']
          have HQ : Hid (∀ j, j < (encX L z).size → (encX L (rstU z))[j]? = if 184 ≤ j ∧ j < 184 + urow.size then urow[j - 184]? else (encX L z)[j]?) := fun j hj => by
            rw [encX_size] at hj
            rw [rstU_cells L z j hj, hsz]
            by_cases h : 184 ≤ j ∧ j < 184 + 21
            · rw [if_pos h, if_pos h, urow, row_get _ _ _ (by omega)]
            · rw [if_neg h, if_neg h]
          have HS := hid_of (And.intro hz21 (And.intro hsz hone))
          clear hz21 hsz hone
          go_wp2_with ((with_reducible show wpList _ _ _ ({ dst := none, op := Op.store 130 _ _, type := _, pos := _, after := _, guard := _ } :: _) _ _); rw [← HS.out.1]; refine wpList_store_mid (by rfl) 130 (.tmp 44) (.tmp 42) (by rfl) xb 184 (encX L z) (encX L (rstU z)) urow 132 (by rfl) (by rfl) (Blk.put_same hl) (by rw [Tryd.size130, HS.out.2.1]) (by rw [encX_size, HS.out.2.1]; omega) HS.out.2.2 (by rw [encX_size, encX_size]) HQ.out ?_; rw [drewN_put, put_put])
          go_end0
          exact ⟨rfl, n, by rw [HZ.out]⟩
/-! ### Idle -/
def idleX (x : XS) : Bool := ((List.range 3).all fun m => (x.mp m).iss == (x.mp m).rt) && ((List.range 7).all fun t => !(x.tp t).busy)
theorem idleX_iff (x : XS) : idleX x = true ↔ (∀ m, m < 3 → (x.mp m).iss = (x.mp m).rt) ∧ (∀ t, t < 7 → (x.tp t).busy = false) := by
  simp [idleX]
set_option maxRecDepth 100000 in
set_option maxHeartbeats 2000000 in
theorem idle_any (L : Nat → Value) (xb : Nat) (x : XS) (hok : ∀ m, m < 3 → 0 ≤ (x.mp m).iss - (x.mp m).rt ∧ (x.mp m).iss - (x.mp m).rt < 4294967296) (w : World) (hl : xb < w.heap.size) :
    Calls Tryd.prog 26 #[.pointer (some ⟨xb, 0, none⟩)] (put w xb (encX L x) 132) fun e w' => e = .returned (.bool (idleX x)) ∧ ∃ n, w' = (put w xb (encX L x) 132).drewN n := by
  have HOK := hid_of hok
  clear hok
  go_enter Tryd.func26, Tryd.ntmps26
  go_wp2_with fail
  go_loopw [5] (fun i w' => ∃ (k n : Nat), k ≤ 3 ∧ i = .int .i64 k ∧ Hid (∀ j, j < k → (x.mp j).iss = (x.mp j).rt) ∧ w' = (put w xb (encX L x) 132).drewN n) (fun i _ => 3 - (intOf i).toNat)
  case atStart => exact ⟨0, 0, by omega, rfl, fun j hj => absurd hj (by omega), rfl⟩
  case round =>
    obtain ⟨k, n, hk, rfl, hall, rfl⟩ := hrel
    by_cases hk3 : k < 3
    · obtain ⟨q0, q1⟩ := HOK.out k hk3
      go_wp2_with fail
      refine (outstanding_any L xb x k hk3 q0 q1 _ (by exact Blk.put_same hl)).mono ?_
      rintro e w2 ⟨rfl, n2, rfl⟩
      rw [World.drewN_drewN]
      cases hz : (x.mp k).iss - (x.mp k).rt == 0
      · have hf : Hid (idleX x = false) := by
          unfold Hid
          cases hI : idleX x
          · rfl
          · have := ((idleX_iff x).1 hI).1 k hk3
            simp at hz; omega
        go_wp2_with fail
        go_ret
        exact ⟨by rw [hf.out]; rfl, _, rfl⟩
      · have hz' : (x.mp k).iss = (x.mp k).rt := by simp at hz; omega
        have hall' : Hid (∀ j, j < k + 1 → (x.mp j).iss = (x.mp j).rt) := fun j hj => by
          by_cases e : j = k
          · rw [e]; exact hz'
          · exact hall.out j (by omega)
        have hz0 : (x.mp k).iss - (x.mp k).rt = 0 := by omega
        clear hz' hz
        go_wp2_with fail
        go_roundw
        case rel => exact ⟨k + 1, _, by omega, by go_num, hall', rfl⟩
        case measure => simp [intOf]; omega
    · obtain rfl : k = 3 := by omega
      go_wp2_with fail
      go_loopw [13] (fun i w' => ∃ (k n : Nat), k ≤ 7 ∧ i = .int .i64 k ∧ Hid (∀ j, j < k → (x.tp j).busy = false) ∧ w' = (put w xb (encX L x) 132).drewN n) (fun i _ => 7 - (intOf i).toNat)
      case atStart => exact ⟨0, n, by omega, rfl, fun j hj => absurd hj (by omega), rfl⟩
      case round =>
        obtain ⟨k, n, hk, rfl, hall2, rfl⟩ := hrel
        by_cases hk7 : k < 7
        · cases hz : (x.tp k).busy
          · have hall' : Hid (∀ j, j < k + 1 → (x.tp j).busy = false) := fun j hj => by
              by_cases e : j = k
              · rw [e]; exact hz
              · exact hall2.out j (by omega)
            go_wp2_with fail
            go_roundw
            case rel => exact ⟨k + 1, n, by omega, by go_num, hall', rfl⟩
            case measure => simp [intOf]; omega
          · have hf : Hid (idleX x = false) := by
              unfold Hid
              cases hI : idleX x
              · rfl
              · have := ((idleX_iff x).1 hI).2 k hk7
                rw [hz] at this; cases this
            go_wp2_with fail
            go_ret
            exact ⟨by rw [hf.out]; rfl, _, rfl⟩
        · obtain rfl : k = 7 := by omega
          have hf : Hid (idleX x = true) := (idleX_iff x).2 ⟨hall.out, hall2.out⟩
          go_wp2_with fail
          go_ret
          exact ⟨by rw [hf.out]; rfl, _, rfl⟩
end Go.Proofs.Qxb6500750aDoor
