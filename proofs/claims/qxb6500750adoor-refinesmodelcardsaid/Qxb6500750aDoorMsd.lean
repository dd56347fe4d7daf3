import Derived.Test.Qxb6500750aDoorMrep
import Derived.Test.Qxb6500750aDoorSend
import Derived.Test.Qxb6500750aDoorQt
import Derived.Test.Qxb6500750aDoorReg2
namespace Go.Proofs.Qxb6500750aDoor
open Go.RowKit
attribute [local go_sem] put_size put_cell_same put_cell_ne put_frozen_same put_frozen_ne put_setCell_same put_setCell_ne put_drew
attribute [local go_sem] drewN_setCell drewN_alloc drewN_put upd_same upd_upd
attribute [local go_sem] mg_q mg_ac mg_tk mg_ba mg_wm mg_pv mg_av mg_sv mg_lf mg_en mg_rd mg_tu mg_is ms_q ms_ac ms_tk ms_ba ms_wm ms_pv ms_av ms_sv ms_lf ms_en ms_rd ms_tu ms_is
attribute [local go_sem] tg_0 tg_1 tg_2 tg_3 tg_4 tg_5 tg_6 tg_7 tg_8 tg_9 tg_10 tg_11 tg_12 tg_13 ts_5 ts_6 ts_7 ts_10 ts_11 ts_12 ts_13
/-! ### The machine's goal -/
def goalM (M : MA) (a : Int) : Nat := if a % 4 ≠ 0 ∨ (M.tg (dec a)).is = true then 6 else dec a
theorem goal_any (mb b : Nat) (M : MA) (x : TX) (w : World) (hB : Blk w mb (encM M) 104) (hx : Blk w b (encT x) 148) (ha : 0 ≤ x.rq.ad ∧ x.rq.ad < 4294967296) (hm : Maps w) :
    Calls Tryd.prog 53 #[.pointer (some ⟨mb, 0, none⟩), .pointer (some ⟨b, 0, none⟩)] w fun e w' => e = .returned (.int .i64 (goalM M x.rq.ad)) ∧ Below w.heap.size w w' := by
  have c3 : w.cell? ⟨b, 3, none⟩ = some (.int .u32 x.rq.ad) := by rw [hx.cell, tg_3]
  have HD := hid_of (mdecode_any x.rq.ad w hm)
  have HX := hid_of hx
  have HB := hid_of hB
  have htm : x.rq.ad.tmod 4 = x.rq.ad % 4 := Int.tmod_eq_emod_of_nonneg ha.1
  have hd7 := dec_le x.rq.ad
  obtain ⟨D, hD⟩ : ∃ D, dec x.rq.ad = D := ⟨_, rfl⟩
  rw [hD] at HD hd7
  have HDE := hid_of hD
  clear hD hB hx
  go_enter Tryd.func53, Tryd.ntmps53
  go_wp2_with fail
  refine HD.out.mono ?_
  rintro e w1 ⟨rfl, hb⟩
  have c3' : w1.cell? ⟨b, 3, none⟩ = some (.int .u32 x.rq.ad) := by
    have : Blk w1 b (encT x) 148 := (hb.block _ HX.out.lt).trans HX.out
    rw [this.cell, tg_3]
  have ci : w1.cell? ⟨mb, 12 + D * 9 + 8, none⟩ = some (.bool (M.tg D).is) := by
    have : Blk w1 mb (encM M) 104 := (hb.block _ HB.out.lt).trans HB.out
    rw [this.cell, mg_is _ _ (by omega)]
  have hDi : ((D : Nat) : Int) < 7 := by omega
  have HBL := hid_of hb
  clear hb c3 HD
  cases h4 : x.rq.ad % 4 == 0
  · have h4' : x.rq.ad % 4 ≠ 0 := by simpa using h4
    have h4n : (x.rq.ad % 4 != 0) = true := by simpa using h4
    have hg : Hid (goalM M x.rq.ad = 6) := by unfold Hid goalM; rw [if_pos (.inl h4')]
    go_wp2_with fail
    go_ret
    exact ⟨by rw [hg.out]; rfl, HBL.out⟩
  · have h4' : x.rq.ad % 4 = 0 := by simpa using h4
    have h4n : (x.rq.ad % 4 != 0) = false := by simpa using h4
    cases hi : (M.tg D).is
    · have hg : Hid (goalM M x.rq.ad = D) := by unfold Hid goalM; rw [HDE.out, hi, if_neg (by simp [h4'])]
      rw [hi] at ci
      go_wp2_with fail
      go_ret
      exact ⟨by rw [hg.out]; rfl, HBL.out⟩
    · have hg : Hid (goalM M x.rq.ad = 6) := by unfold Hid goalM; rw [HDE.out, hi, if_pos (.inr rfl)]
      rw [hi] at ci
      go_wp2_with fail
      go_ret
      exact ⟨by rw [hg.out]; rfl, HBL.out⟩
/-! ### The machine's send -/
theorem cutM {P : Program} {c : Code} {K Km : Act → World → Prop} {Q : Exit → Act → World → Prop} {a : Act} {w : World} (hrest : ∀ a w, Km a w → K a w) (hfirst : c.wp P (Exit.then Km Q) a w) : c.wp P (Exit.then K Q) a w :=
  Code.wp_mono (fun e a' w' h => by cases e <;> first | exact hrest _ _ h | exact h) hfirst
def fr54a (mb t pb : Nat) (u : Nat → Value) : Act :=
  { tmps := #[.pointer (some ⟨mb, 0, none⟩), .int .i64 (t : Nat), u 2, u 3, .pointer (some ⟨mb, 12 + t * 9, none⟩), .pointer (some ⟨pb, 0, none⟩), u 6, u 7, u 8, u 9, u 10, u 11, u 12, u 13, u 14, u 15, u 16, u 17, u 18, u 19, u 20, u 21, u 22, u 23, u 24, u 25, u 26, u 27, u 28, u 29, u 30, u 31, u 32, u 33, u 34, u 35, u 36, u 37, u 38, u 39, u 40, u 41, u 42, u 43, u 44, u 45, u 46, u 47, u 48, u 49, u 50, u 51, u 52, u 53, u 54, u 55, u 56, u 57, u 58, u 59, u 60, u 61, u 62, u 63, u 64, u 65, u 66, u 67, u 68, u 69, u 70, u 71, u 72, u 73, u 74, u 75, u 76, u 77, u 78, u 79, u 80, u 81, u 82, u 83, u 84, u 85, u 86, u 87, u 88, u 89, u 90, u 91, u 92, u 93, u 94, u 95, u 96, u 97, u 98, u 99, u 100, u 101, u 102, u 103, u 104, u 105, u 106, u 107, u 108, u 109, u 110, u 111, u 112, u 113, u 114, u 115, u 116, u 117, u 118, u 119, u 120, u 121, u 122, u 123, u 124, u 125, u 126, u 127, u 128, u 129, u 130, u 131, u 132, u 133, u 134, u 135, u 136, u 137, u 138, u 139, u 140, u 141, u 142, u 143, u 144, u 145, u 146, u 147, u 148, u 149, u 150, u 151, u 152, u 153, u 154, u 155, u 156, u 157, u 158, u 159, u 160, u 161, u 162, u 163, u 164, u 165, u 166, u 167, u 168, u 169, u 170, u 171, u 172, u 173, u 174, u 175, u 176, u 177, u 178, u 179], defers := [] }
def fr54b (mb t pb b : Nat) (u : Nat → Value) : Act :=
  { tmps := #[.pointer (some ⟨mb, 0, none⟩), .int .i64 (t : Nat), u 2, u 3, .pointer (some ⟨mb, 12 + t * 9, none⟩), .pointer (some ⟨pb, 0, none⟩), .pointer (some ⟨b, 0, none⟩), u 7, u 8, u 9, u 10, u 11, u 12, u 13, u 14, u 15, u 16, u 17, u 18, u 19, u 20, u 21, u 22, u 23, u 24, u 25, u 26, u 27, u 28, u 29, u 30, u 31, u 32, u 33, u 34, u 35, u 36, u 37, u 38, u 39, u 40, u 41, u 42, u 43, u 44, u 45, u 46, u 47, u 48, u 49, u 50, u 51, u 52, u 53, u 54, u 55, u 56, u 57, u 58, u 59, u 60, u 61, u 62, u 63, u 64, u 65, u 66, u 67, u 68, u 69, u 70, u 71, u 72, u 73, u 74, u 75, u 76, u 77, u 78, u 79, u 80, u 81, u 82, u 83, u 84, u 85, u 86, u 87, u 88, u 89, u 90, u 91, u 92, u 93, u 94, u 95, u 96, u 97, u 98, u 99, u 100, u 101, u 102, u 103, u 104, u 105, u 106, u 107, u 108, u 109, u 110, u 111, u 112, u 113, u 114, u 115, u 116, u 117, u 118, u 119, u 120, u 121, u 122, u 123, u 124, u 125, u 126, u 127, u 128, u 129, u 130, u 131, u 132, u 133, u 134, u 135, u 136, u 137, u 138, u 139, u 140, u 141, u 142, u 143, u 144, u 145, u 146, u 147, u 148, u 149, u 150, u 151, u 152, u 153, u 154, u 155, u 156, u 157, u 158, u 159, u 160, u 161, u 162, u 163, u 164, u 165, u 166, u 167, u 168, u 169, u 170, u 171, u 172, u 173, u 174, u 175, u 176, u 177, u 178, u 179], defers := [] }
set_option maxRecDepth 100000 in
theorem msend_six (mb t : Nat) (h6 : t = 6) (M : MA) (w : World) (hB : Blk w mb (encM M) 104) :
    Calls Tryd.prog 54 #[.pointer (some ⟨mb, 0, none⟩), .int .i64 (t : Nat)] w fun e w' => e = .returned (.tuple #[]) ∧ w' = put w mb (encM { M with tg := upd M.tg t { M.tg t with lf := 1, en := 0, rd := 0 } }) 104 := by
  obtain ⟨w0, rfl, hl0⟩ := hB.out
  have ht : t < 7 := by omega
  have hti : ((t : Nat) : Int) < 7 := by omega
  have ht6 : (((t : Nat) : Int) == 6) = true := by simp; omega
  clear hB h6
  go_enter Tryd.func54, Tryd.ntmps54
  go_wp2_with fail
  refine bodyPost_ret (v := .tuple #[]) (results_none rfl _ _ _) rfl ?_
  rw [put_put]
  exact ⟨rfl, rfl⟩
end Go.Proofs.Qxb6500750aDoor
