import Derived.Test.Qxb6500750aDoorXrep
import Derived.Test.Qxb6500750aDoorCho
import Derived.BigQuiet
namespace Go.Proofs.Qxb6500750aDoor
open Go.RowKit
attribute [local go_sem] put_size put_cell_same put_cell_ne put_frozen_same put_frozen_ne put_setCell_same put_setCell_ne put_drew
attribute [local go_sem] drewN_setCell drewN_alloc drewN_put
attribute [local go_sem] xg_s0 xg_s1 xg_s2 xg_s3 xg_s4 xg_s5 xg_s6 xg_s7 xg_s8 xg_s9 xg_m0 xg_m1 xg_m2 xg_m3 xg_m4 xg_t0 xg_t1 xg_t2 xg_t3 xg_t4 xg_t5 xg_t6
attribute [local go_sem] mod4_lt mod4_nn mod4_lt'
/-! ### Aligned, route, Wants -/
theorem and_three (a : Int) (h0 : 0 ≤ a) (h1 : a < 4294967296) : bits BinOp.and IntKind.u32 a 3 = a % 4 := by
  obtain ⟨x, rfl⟩ := Int.eq_ofNat_of_zero_le h0
  rw [u32_and x 3 (by omega) (by omega) (by omega) (by omega), Int.toNat_natCast]
  have : (3 : Int).toNat = 2 ^ 2 - 1 := rfl
  rw [this, Nat.and_two_pow_sub_one_eq_mod]
  omega
theorem aligned_any (a : Int) (h0 : 0 ≤ a) (h1 : a < 4294967296) (w : World) :
    Calls Tryd.prog 66 #[.int .u32 a] w fun e w' => e = .returned (.bool (a % 4 == 0)) ∧ w' = w := by
  have h := and_three a h0 h1
  go_enter Tryd.func66, Tryd.ntmps66
  go_wp2
  go_ret
  exact ⟨rfl, rfl⟩
def rtAt (x : XS) (a : Int) : Nat := if a % 4 ≠ 0 ∨ (x.tp (dec a)).iso = true then 6 else dec a
theorem rtAt_lt (x : XS) (a : Int) : rtAt x a < 7 := by unfold rtAt; have := dec_le a; split <;> omega
theorem Wins.ext {w w' : World} (h : Wins w) (hb : w'.heap[1]? = w.heap[1]?) : Wins w' := fun k hk => by
  obtain ⟨h1, h2⟩ := h k hk
  simp only [World.cell?, hb] at h1 h2 ⊢
  exact ⟨h1, h2⟩
theorem route_any (L : Nat → Value) (xb : Nat) (x : XS) (wr : Bool) (a d : Int) (h0 : 0 ≤ a) (h1 : a < 4294967296) (w : World) (hB : Blk w xb (encX L x) 132) (hw : Wins w) (hl : 1 < w.heap.size) :
    Calls Tryd.prog 55 #[.pointer (some ⟨xb, 0, none⟩), .agg #[.bool wr, .int .u32 a, .int .u32 d]] w fun e w' => e = .returned (.int .i64 (rtAt x a : Nat)) ∧ Below w.heap.size w w' := by
  have hd : dec a < 7 := by have := dec_le a; omega
  have hw2 : Wins (w.alloc (.cells #[.bool wr, .int .u32 a, .int .u32 d] 91)) := hw.ext (Below.heap_alloc w _ 1 hl)
  have hlt := hB.lt
  have HB := hid_of hB
  go_enter Tryd.func55, Tryd.ntmps55
  go_wp2_with fail
  refine (xdecode_any a h0 h1 _ hw2).mono ?_
  rintro e w1 ⟨rfl, hb1⟩
  have hc : Blk w1 w.heap.size #[.bool wr, .int .u32 a, .int .u32 d] 91 := (hb1.block _ (by simp)).trans (Blk.new w _ 91)
  have hx : Blk w1 xb (encX L x) 132 := (hb1.block _ (by simp; omega)).trans (HB.out.alloc _)
  have hne : xb ≠ w.heap.size := by omega
  have HL : Hid (Below w.heap.size w w1) := ⟨hb1.os, hb1.tape, hb1.output, by have := hb1.size; simp at this; omega, fun k hk => (hb1.block k (by simp; omega)).trans (Below.heap_alloc w _ k hk)⟩
  generalize hgB : w.heap.size = B at *
  have HG := hid_of hgB
  clear hgB
  obtain ⟨w2, rfl, hl2⟩ := hc.out
  have hx2 : Blk w2 xb (encX L x) 132 := (put_heap_ne w2 B xb _ _ hne).symm.trans hx
  obtain ⟨w3, rfl, hl3⟩ := hx2.out
  have hl2' : B < w3.heap.size := by simpa [put_size] using hl2
  clear hc hx hx2 hb1 hw2 hw hB HB
  go_wp2_with fail
  refine (aligned_any a h0 h1 _).mono ?_
  rintro e w4 ⟨rfl, hw4⟩
  obtain rfl := hw4.symm
  cases h4 : a % 4 == 0
  · have hr : Hid (rtAt x a = 6) := by unfold Hid rtAt; rw [if_pos (.inl (by simpa using h4))]
    go_wp2_with fail
    go_ret
    exact ⟨by rw [hr.out]; rfl, by rw [HG.out]; exact HL.out⟩
  · have h4' : a % 4 = 0 := by simpa using h4
    cases hi : (x.tp (dec a)).iso
    · have hr : Hid (rtAt x a = dec a) := by unfold Hid rtAt; rw [if_neg (by simp [h4', hi])]
      go_wp2_with fail
      go_ret
      exact ⟨by rw [hr.out]; rfl, by rw [HG.out]; exact HL.out⟩
    · have hr : Hid (rtAt x a = 6) := by unfold Hid rtAt; rw [if_pos (.inr hi)]
      go_wp2_with fail
      go_ret
      exact ⟨by rw [hr.out]; rfl, by rw [HG.out]; exact HL.out⟩
def reqG (x : XS) (m : Nat) : Req := ((x.mp m).sl ((x.mp m).gr % 4).toNat).req
def wantsF (x : XS) (t m : Nat) : Bool := !((x.mp m).gr == (x.mp m).iss) && (rtAt x (reqG x m).ad == t)
def encW (g : Nat → Nat → Bool) : Array Value := row 7 fun t => .int .u8 (wv (g t) : Nat)
theorem wg_get (g : Nat → Nat → Bool) (t : Nat) (ht : t < 7) : (encW g)[t]? = some (.int .u8 (wv (g t) : Nat)) := row_get 7 _ t ht
theorem wg_set (g : Nat → Nat → Bool) (t : Nat) (f : Nat → Bool) : (encW g).setIfInBounds t (.int .u8 (wv f : Nat)) = encW (upd g t f) := by
  refine row_set _ _ _ _ _ fun j hj => ?_
  by_cases e : j = t
  · subst e; simp [upd]
  · simp [upd, e]
theorem encW_none : encW (fun _ _ => false) = #[.int .u8 0, .int .u8 0, .int .u8 0, .int .u8 0, .int .u8 0, .int .u8 0, .int .u8 0] := rfl
theorem wv_or (f : Nat → Bool) (m : Nat) (hm : m < 3) : bits BinOp.or IntKind.u8 (wv f : Nat) (2 ^ m % 256) = (wv (upd f m true) : Nat) := by
  have h : m = 0 ∨ m = 1 ∨ m = 2 := by omega
  rcases h with rfl | rfl | rfl <;> simp only [wv, upd] <;> cases f 0 <;> cases f 1 <;> cases f 2 <;> decide
theorem encW_congr {f g : Nat → Nat → Bool} (h : ∀ t m, t < 7 → m < 3 → f t m = g t m) : encW f = encW g := row_congr _ _ _ fun t ht => by
  unfold wv; rw [h t 0 ht (by omega), h t 1 ht (by omega), h t 2 ht (by omega)]
def wantsTo (x : XS) (k t m : Nat) : Bool := decide (m < k) && wantsF x t m
theorem wantsTo_no (x : XS) (k : Nat) (h : ((x.mp k).gr == (x.mp k).iss) = true) : wantsTo x (k + 1) = wantsTo x k := by
  funext t m
  unfold wantsTo
  by_cases e : m = k
  · subst e; simp [wantsF, h]
  · rw [show decide (m < k + 1) = decide (m < k) by simp; omega]
theorem wantsTo_yes (x : XS) (k : Nat) (h : ((x.mp k).gr == (x.mp k).iss) = false) : upd (wantsTo x k) (rtAt x (reqG x k).ad) (upd (wantsTo x k (rtAt x (reqG x k).ad)) k true) = wantsTo x (k + 1) := by
  funext t m
  by_cases e1 : t = rtAt x (reqG x k).ad
  · subst e1
    by_cases e : m = k
    · subst e; simp [upd, wantsTo, wantsF, h]
    · simp only [upd, if_true, if_neg e, wantsTo]; rw [show decide (m < k + 1) = decide (m < k) by simp; omega]
  · simp only [upd, if_neg e1, wantsTo]
    by_cases e : m = k
    · subst e; simp [wantsF, Ne.symm e1]
    · rw [show decide (m < k + 1) = decide (m < k) by simp; omega]
theorem upd_id {α : Type} (f : Nat → α) (i : Nat) : upd f i (f i) = f := by
  funext j; unfold upd; split
  · rename_i h; rw [h]
  · rfl
theorem below_drewN {B n : Nat} {w w' : World} (h : Below B w w') : Below B w (w'.drewN n) := ⟨h.os, h.tape, h.output, h.size, h.block⟩
attribute [local go_sem] wg_get wg_set wv_or upd_id
set_option maxRecDepth 100000 in
set_option maxHeartbeats 2000000 in
theorem wants_any (L : Nat → Value) (xb : Nat) (x : XS) (w : World) (hB : Blk w xb (encX L x) 132) (hw : Wins w) (hl : 1 < w.heap.size)
    (hok : ∀ m, m < 3 → 0 ≤ (x.mp m).gr ∧ (∀ s, s < 4 → 0 ≤ ((x.mp m).sl s).req.ad ∧ ((x.mp m).sl s).req.ad < 4294967296)) :
    Calls Tryd.prog 44 #[.pointer (some ⟨xb, 0, none⟩)] w fun e w' => e = .returned (.agg (encW (wantsF x))) ∧ Below w.heap.size w w' := by
  have hlt := hB.lt
  have HB := hid_of hB
  have HW := hid_of hw
  have HOK := hid_of hok
  clear hB hw hok
  go_enter Tryd.func44, Tryd.ntmps44
  go_wp2_with fail
  rw [← encW_none]
  go_loopw [5] (fun i w' => ∃ (k : Nat), k ≤ 3 ∧ i = .int .i64 k ∧ Below w.heap.size w w' ∧ Blk w' w.heap.size (encW (wantsTo x k)) 134) (fun i _ => 3 - (intOf i).toNat)
  case atStart => exact ⟨0, by omega, rfl, (Below.refl _ _).alloc (Nat.le_refl _) _, by have := Blk.new w (encW fun _ _ => false) 134; rw [show wantsTo x 0 = fun _ _ => false from funext fun t => funext fun m => by simp [wantsTo]]; exact this⟩
  case round =>
    obtain ⟨k, hk, rfl, hb, hwb⟩ := hrel
    by_cases hk3 : k < 3
    · have hx : Blk _ xb (encX L x) 132 := (hb.block _ hlt).trans HB.out
      have HBl := hid_of hb
      have hne : xb ≠ w.heap.size := by omega
      clear hb
      obtain ⟨hg0, hsl⟩ := HOK.out k hk3
      have HA := hid_of (hsl _ (mod4_lt (x.mp k).gr))
      clear hsl
      generalize hgB : w.heap.size = B at *
      have HG := hid_of hgB
      clear hgB
      obtain ⟨w2, rfl, hl2⟩ := hwb.out
      have hx2 : Blk w2 xb (encX L x) 132 := (put_heap_ne w2 B xb _ _ hne).symm.trans hx
      obtain ⟨w3, rfl, hl3⟩ := hx2.out
      have hl2' : B < w3.heap.size := by simpa [put_size] using hl2
      clear hx hx2 hwb hl2
      cases hgi : (x.mp k).gr == (x.mp k).iss
      · go_wp2_with fail
        go_quiet (fail)
        go_wp2_with fail
        refine wp_region_float [0, 1, 2, 3, 4, 5, 6, 7, 8, 9, 13, 14] [10, 11, 12, 15, 16, 17] [0, 1, 2, 3, 4, 7, 8, 13, 14] mixed (fun ω => Blk ω xb (encX L x) 132) (by kernel_rfl) rfl (by kernel_rfl) ?hJ ?_
        case hJ => exact (Blk.put_same hl3).put_ne hne
        iterate 6 refine wpFl_op _ _ _ _ rfl rfl (fun ω hj => by first | (obtain ⟨ω0, rfl, hl0⟩ := (hj rfl).out; go_simp; rfl) | (go_simp; rfl)) ?_
        refine wpFl_call _ _ _ _ 51 _ rfl rfl (fun ω => by go_simp; rfl) (fun ω hj => slot_any xb _ _ hg0 ω) ?_
        iterate 5 refine wpFl_op _ _ _ _ rfl rfl (fun ω hj => by first | (obtain ⟨ω0, rfl, hl0⟩ := (hj rfl).out; go_simp; rfl) | (go_simp; rfl)) ?_
        refine wpFl_nil _ _ ?_
        simp only [Act.put, List.setIfInBounds_toArray]
        refine wpCh_rest _ _ _ _ [_, _, _, _, _, _] _ _ rfl (by kernel_rfl) ?_
        simp only [List.getElem_toArray, List.getElem_cons_succ, List.getElem_cons_zero]
        go_wp2_with fail
        refine (route_any L xb x _ _ _ HA.out.1 HA.out.2 _ ?hb ?hw ?hl).mono ?_
        case hb => exact (Blk.put_same hl3).put_ne hne
        case hw => exact HW.out.ext (HBl.out.block 1 (by have := HG.out; omega))
        case hl => show 1 < (put (put w3 xb (encX L x) 132) B (encW (wantsTo x k)) 134).heap.size; have := HG.out; rw [put_size, put_size]; omega
        rintro e w5 ⟨rfl, hb5⟩
        have hrt : rtAt x ((x.mp k).sl ((x.mp k).gr % 4).toNat).req.ad < 7 := rtAt_lt _ _
        have hq := wantsTo_yes x k hgi
        unfold reqG at hq
        have HQ := hid_of hq
        clear hq
        have hw5 : Blk w5 B (encW (wantsTo x k)) 134 := (hb5.block B (by show B < (put (put w3 xb (encX L x) 132) B (encW (wantsTo x k)) 134).heap.size; rw [put_size, put_size]; exact hl2')).trans (Blk.put_same (by rw [put_size]; exact hl2'))
        have H5 : Hid (Below B w w5) := by
          refine ⟨hb5.os.trans HBl.out.os, hb5.tape.trans HBl.out.tape, hb5.output.trans HBl.out.output, Nat.le_trans HBl.out.size hb5.size, fun j hj => (hb5.block j ?_).trans (HBl.out.block j hj)⟩
          have hq1 := HBl.out.size
          have hq2 := HG.out
          exact Nat.lt_of_lt_of_le (by omega) hq1
        generalize rtAt x ((x.mp k).sl ((x.mp k).gr % 4).toNat).req.ad = R at *
        obtain ⟨w6, rfl, hl6⟩ := hw5.out
        clear hb5 hw5
        go_wp2_with fail
        go_roundw
        case rel =>
          refine ⟨k + 1, by omega, by go_num, by rw [← put_put w6 B (encW (wantsTo x k)) _ 134 134]; exact Below.put H5.out (Nat.le_refl _) _ _, ?_⟩
          rw [← HQ.out]
          exact Blk.put_same hl6
        case measure => simp [intOf]; omega
      · go_wp2_with fail
        go_quiet (fail)
        go_wp2_with fail
        go_roundw
        case rel => exact ⟨k + 1, by omega, by go_num, below_drewN HBl.out, by rw [wantsTo_no x k hgi]; exact Blk.put_same (by rw [put_size]; exact hl2')⟩
        case measure => simp [intOf]; omega
    · obtain rfl : k = 3 := by omega
      obtain ⟨w2, rfl, hl2⟩ := hwb.out
      have HBl := hid_of hb
      have e : encW (wantsTo x 3) = encW (wantsF x) := encW_congr fun t m ht hm => by simp [wantsTo, hm]
      rw [e] at *
      clear hb hwb
      go_wp2_with fail
      exact bodyPost_ret (v := .agg (encW (wantsF x))) (by simp [results, Tryd.results44, go_sem, hl2]; rfl) rfl ⟨rfl, HBl.out⟩
end Go.Proofs.Qxb6500750aDoor
