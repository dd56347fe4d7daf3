import Derived.Test.Qxb6500750aDoorAud
import Derived.BigQuiet
namespace Go.Proofs.Qxb6500750aDoor
open Go.RowKit
attribute [local go_sem] put_size put_cell_same put_cell_ne put_frozen_same put_frozen_ne put_setCell_same put_setCell_ne put_drew
attribute [local go_sem] drewN_setCell drewN_alloc drewN_put
attribute [local go_sem] ag_rg ag_av ag_gr ag_rt ag_tk ag_ba ag_cut ag_turn ag_pt ag_fm ag_f0 ag_f1 ag_f2 ag_f3
attribute [local go_sem] wg_get wg_set wv_or upd_id
/-! ### The auditor's wants -/
def reqRow (r : Req) : List Value := [.bool r.w, .int .u32 r.ad, .int .u32 r.da]
theorem reqs_len (xs : List Req) : (xs.flatMap reqRow).length = xs.length * 3 := by
  induction xs with
  | nil => rfl
  | cons x xs ih => simp only [List.flatMap_cons, List.length_append, ih, List.length_cons]; simp [reqRow]; omega
theorem reqs_get (xs : List Req) (i j : Nat) (r : Req) (hi : xs[i]? = some r) (hj : j < 3) : (xs.flatMap reqRow)[i * 3 + j]? = (reqRow r)[j]? := by
  induction xs generalizing i with
  | nil => simp at hi
  | cons x xs ih =>
    rw [List.flatMap_cons]
    cases i with
    | zero =>
      have : x = r := by simpa using hi
      subst this
      rw [Nat.zero_mul, Nat.zero_add, List.getElem?_append_left (by simp [reqRow]; omega)]
    | succ i =>
      rw [List.getElem?_append_right (by simp [reqRow]; omega)]
      have : (i + 1) * 3 + j - (reqRow x).length = i * 3 + j := by simp [reqRow]; omega
      rw [this]
      exact ih i (by simpa using hi)
/-- Where the books send the oldest waiting request of master m. -/
def bTo (cut : Nat → Bool) (a : Int) : Nat := if a % 4 ≠ 0 ∨ cut (dec a) = true then 6 else dec a
theorem bTo_lt (cut : Nat → Bool) (a : Int) : bTo cut a < 7 := by unfold bTo; have := dec_le a; split <;> omega
def wantsB (gr : Nat → Int) (acc : Nat → List Req) (cut : Nat → Bool) (t m : Nat) : Bool := decide ((gr m).toNat < (acc m).length) && (bTo cut ((acc m)[(gr m).toNat]?.getD ⟨false, 0, 0⟩).ad == t)
def wantsBTo (gr : Nat → Int) (acc : Nat → List Req) (cut : Nat → Bool) (k t m : Nat) : Bool := decide (m < k) && wantsB gr acc cut t m
theorem wantsBTo_no (gr : Nat → Int) (acc : Nat → List Req) (cut : Nat → Bool) (k : Nat) (h : ¬ (gr k).toNat < (acc k).length) : wantsBTo gr acc cut (k + 1) = wantsBTo gr acc cut k := by
  funext t m
  unfold wantsBTo
  by_cases e : m = k
  · subst e; simp [wantsB, h]
  · rw [show decide (m < k + 1) = decide (m < k) by simp; omega]
theorem wantsBTo_yes (gr : Nat → Int) (acc : Nat → List Req) (cut : Nat → Bool) (k : Nat) (h : (gr k).toNat < (acc k).length) {R : Nat} (hR : bTo cut ((acc k)[(gr k).toNat]?.getD ⟨false, 0, 0⟩).ad = R) :
    upd (wantsBTo gr acc cut k) R (upd (wantsBTo gr acc cut k R) k true) = wantsBTo gr acc cut (k + 1) := by
  funext t m
  subst hR
  by_cases e1 : t = bTo cut ((acc k)[(gr k).toNat]?.getD ⟨false, 0, 0⟩).ad
  · subst e1
    by_cases e : m = k
    · subst e; simp [upd, wantsBTo, wantsB, h]
    · simp only [upd, if_true, if_neg e, wantsBTo]; rw [show decide (m < k + 1) = decide (m < k) by simp; omega]
  · simp only [upd, if_neg e1, wantsBTo]
    by_cases e : m = k
    · subst e; simp [wantsB, Ne.symm e1]
    · rw [show decide (m < k + 1) = decide (m < k) by simp; omega]
theorem below_drew {B : Nat} {w w' : World} (h : Below B w w') : Below B w w'.drew := ⟨h.os, h.tape, h.output, h.size, h.block⟩
set_option maxRecDepth 100000 in
set_option maxHeartbeats 4000000 in
theorem awants_any (ab : Nat) (a : AU) (acc : Nat → List Req) (w : World) (hA : Blk w ab (encA a) 82) (hM : Maps w) (hl : 3 < w.heap.size) (hV : ∀ m, m < 3 → Sl w (a.av m) 91 3 (acc m).length ((acc m).flatMap reqRow))
    (hg : ∀ m, m < 3 → 0 ≤ a.gr m) (had : ∀ m, m < 3 → ∀ r ∈ acc m, 0 ≤ r.ad ∧ r.ad < 4294967296) :
    Calls Tryd.prog 43 #[.pointer (some ⟨ab, 0, none⟩)] w fun e w' => e = .returned (.agg (encW (wantsB a.gr acc a.cut))) ∧ Below w.heap.size w w' := by
  have hlt := hA.lt
  have HA := hid_of hA
  have HM := hid_of hM
  have HV := hid_of hV
  have HG := hid_of hg
  have HD := hid_of had
  clear hA hM hV hg had
  go_enter Tryd.func43, Tryd.ntmps43
  go_wp2_with fail
  rw [← encW_none]
  go_loopw [6] (fun i w' => ∃ (k : Nat), k ≤ 3 ∧ i = .int .i64 k ∧ Below w.heap.size w w' ∧ Blk w' w.heap.size (encW (wantsBTo a.gr acc a.cut k)) 134) (fun i _ => 3 - (intOf i).toNat)
  case atStart => exact ⟨0, by omega, rfl, (Below.refl _ _).alloc (Nat.le_refl _) _, by have := Blk.new w (encW fun _ _ => false) 134; rw [show wantsBTo a.gr acc a.cut 0 = fun _ _ => false from funext fun t => funext fun m => by simp [wantsBTo]]; exact this⟩
  case round =>
    obtain ⟨k, hk, rfl, hb, hwb⟩ := hrel
    by_cases hk3 : k < 3
    · have hx : Blk _ ab (encA a) 82 := (hb.block _ hlt).trans HA.out
      have hv1 := (HV.out k hk3).same (fun j hj => hb.block j ((HV.out k hk3).lt j hj))
      have hvl := (HV.out k hk3).lt
      have HBl := hid_of hb
      have hne : ab ≠ w.heap.size := by omega
      have hg0 := HG.out k hk3
      clear hb
      generalize hgB : w.heap.size = B at *
      have HGB := hid_of hgB
      clear hgB
      obtain ⟨w2, rfl, hl2⟩ := hwb.out
      have hx2 : Blk w2 ab (encA a) 82 := (put_heap_ne w2 B ab _ _ hne).symm.trans hx
      obtain ⟨w3, rfl, hl3⟩ := hx2.out
      have hl2' : B < w3.heap.size := by simpa [put_size] using hl2
      have HV1 := hid_of hv1
      have HVL := hid_of hvl
      clear hx hx2 hwb hl2 hv1 hvl
      by_cases hlt2 : a.gr k < ((acc k).length : Int)
      · obtain ⟨g, hgn⟩ := Int.eq_ofNat_of_zero_le hg0
        have hgl : g < (acc k).length := by omega
        obtain ⟨r, hr⟩ : ∃ r, (acc k)[g]? = some r := ⟨(acc k)[g], List.getElem?_eq_getElem hgl⟩
        have hrm : r ∈ acc k := List.mem_of_getElem? hr
        have HRD := hid_of (HD.out k hk3 r hrm)
        obtain ⟨b, off, cap, hav, hcap, hbl⟩ := HV1.out.form (by omega)
        have hbB : b < B := HVL.out b (by rw [hav]; rfl)
        have hba : b ≠ ab := HA.out.sl_ne (by decide) (HV.out k hk3) b (by rw [hav]; rfl)
        have hbB' : b ≠ B := by omega
        have hcl := HV1.out.cell hav (g * 3 + 1) (by rw [reqs_len]; omega)
        rw [reqs_get _ _ _ r hr (by decide), put_cell_ne _ _ _ _ _ _ _ hbB', put_cell_ne _ _ _ _ _ _ _ hba, ← Nat.add_assoc] at hcl
        have hcl' : w3.cell? ⟨b, off + g * 3 + 1, none⟩ = some (.int .u32 r.ad) := hcl
        have HR : Hid (bTo a.cut ((acc k)[(a.gr k).toNat]?.getD ⟨false, 0, 0⟩).ad = bTo a.cut r.ad) := by unfold Hid; rw [hgn, Int.toNat_natCast, hr]; rfl
        have HNY := hid_of (wantsBTo_yes a.gr acc a.cut k (by omega) HR.out)
        have hdl : decide (((g : Nat) : Int) < ((acc k).length : Int)) = true := decide_eq_true (by omega)
        obtain ⟨n, hn⟩ : ∃ n, (acc k).length = n := ⟨_, rfl⟩
        rw [hn] at hav hdl hgl hcap
        have hgn' : ((g : Nat) : Int) < ((n : Nat) : Int) := by omega
        clear hcl hlt2 hr hrm hn hbl hg0
        go_wp2_with fail
        go_quiet (fail)
        go_wp2_with fail
        go_quiet (fail)
        go_wp2_with fail
        refine (mdecode_any r.ad _ ?hm).mono ?_
        case hm =>
          intro j hj
          obtain ⟨m1, m2⟩ := HM.out j hj
          have hb0 : ((put (put w3 ab (encA a) 82) B (encW (wantsBTo a.gr acc a.cut k)) 134)).heap[0]? = w.heap[0]? := HBl.out.block 0 (by have := HGB.out; omega)
          constructor
          · have : (put (put w3 ab (encA a) 82) B (encW (wantsBTo a.gr acc a.cut k)) 134).cell? ⟨0, 2 * j, none⟩ = w.cell? ⟨0, 2 * j, none⟩ := by simp only [World.cell?, hb0]
            exact this.trans m1
          · have : (put (put w3 ab (encA a) 82) B (encW (wantsBTo a.gr acc a.cut k)) 134).cell? ⟨0, 2 * j + 1, none⟩ = w.cell? ⟨0, 2 * j + 1, none⟩ := by simp only [World.cell?, hb0]
            exact this.trans m2
        rintro e w5 ⟨rfl, hb5⟩
        have hsz5 : (put (put w3 ab (encA a) 82) B (encW (wantsBTo a.gr acc a.cut k)) 134).heap.size = w3.heap.size := by rw [put_size, put_size]
        have hw5 : Blk w5 B (encW (wantsBTo a.gr acc a.cut k)) 134 := (hb5.block B (by show B < (put (put w3 ab (encA a) 82) B (encW (wantsBTo a.gr acc a.cut k)) 134).heap.size; omega)).trans (Blk.put_same (by rw [put_size]; exact hl2'))
        have hx5 : Blk w5 ab (encA a) 82 := (hb5.block ab (by show ab < (put (put w3 ab (encA a) 82) B (encW (wantsBTo a.gr acc a.cut k)) 134).heap.size; omega)).trans ((Blk.put_same hl3).put_ne hne)
        have H5 : Hid (Below B w w5) := by
          refine ⟨hb5.os.trans HBl.out.os, hb5.tape.trans HBl.out.tape, hb5.output.trans HBl.out.output, Nat.le_trans HBl.out.size hb5.size, fun j hj => (hb5.block j ?_).trans (HBl.out.block j hj)⟩
          show j < (put (put w3 ab (encA a) 82) B (encW (wantsBTo a.gr acc a.cut k)) 134).heap.size
          omega
        have hD : dec r.ad < 7 := by have := dec_le r.ad; omega
        obtain ⟨w6, rfl, hl6⟩ := hw5.out
        have hx6 : Blk w6 ab (encA a) 82 := (put_heap_ne w6 B ab _ _ hne).symm.trans hx5
        obtain ⟨w7, rfl, hl7x⟩ := hx6.out
        rw [put_size] at hl6
        have hl7 := hl6
        obtain ⟨D, hDe⟩ : ∃ D, dec r.ad = D := ⟨_, rfl⟩
        rw [hDe] at hD ⊢
        have HDE := hid_of hDe
        clear hb5 hw5 hx5 hx6 hsz5 hDe hcl' hav hl6
        have htm : r.ad.tmod 4 = r.ad % 4 := Int.tmod_eq_emod_of_nonneg HRD.out.1
        have hDi : ((D : Nat) : Int) < 7 := by omega
        have hDi0 : (0 : Int) ≤ ((D : Nat) : Int) := by omega
        cases h4 : r.ad % 4 == 0
        · have h4' : r.ad % 4 ≠ 0 := by simpa using h4
          have HB : Hid (bTo a.cut r.ad = 6) := by unfold Hid bTo; rw [if_pos (.inl h4')]
          rw [HB.out] at HNY
          go_wp2_with fail
          refine wp_region_float [0, 1, 2, 3, 4, 5, 6] [7] [0, 1, 3, 4, 5, 6] mixed (fun ω => Blk ω B (encW (wantsBTo a.gr acc a.cut k)) 134) (by kernel_rfl) rfl (by kernel_rfl) ?hJ ?_
          case hJ => exact Blk.put_same (by rw [put_size]; exact hl7)
          iterate 7 refine wpFl_op _ _ _ _ rfl rfl (fun ω hj => by first | (obtain ⟨ω0, rfl, hl0⟩ := (hj rfl).out; go_simp; rfl) | (go_simp; rfl)) ?_
          refine wpFl_nil _ _ ?_
          simp only [Act.put, List.setIfInBounds_toArray]
          refine wpCh_rest _ _ _ _ [_] _ _ rfl (by kernel_rfl) ?_
          simp only [List.getElem_toArray, List.getElem_cons_succ, List.getElem_cons_zero]
          go_wp2_with fail
          go_roundw
          case rel =>
            refine ⟨k + 1, by omega, by go_num, ?_, ?_⟩
            · refine below_drew (?_ : Below B w (put (put w7 ab (encA a) 82) B _ 134))
              rw [← put_put (put w7 ab (encA a) 82) B (encW (wantsBTo a.gr acc a.cut k)) _ 134 134]; exact Below.put H5.out (Nat.le_refl _) _ _
            · rw [← HNY.out]; exact Blk.put_same (by rw [put_size]; exact hl7)
          case measure => simp [intOf]; omega
        · have h4' : r.ad % 4 = 0 := by simpa using h4
          cases hcu : a.cut D
          · have HB : Hid (bTo a.cut r.ad = D) := by unfold Hid bTo; rw [HDE.out, hcu, if_neg (by simp [h4'])]
            rw [HB.out] at HNY
            go_wp2_with fail
            refine wp_region_float [0, 1, 2, 3, 4, 5, 6] [7] [0, 1, 3, 4, 5, 6] mixed (fun ω => Blk ω B (encW (wantsBTo a.gr acc a.cut k)) 134) (by kernel_rfl) rfl (by kernel_rfl) ?hJ ?_
            case hJ => exact Blk.put_same (by rw [put_size]; exact hl7)
            iterate 7 refine wpFl_op _ _ _ _ rfl rfl (fun ω hj => by first | (obtain ⟨ω0, rfl, hl0⟩ := (hj rfl).out; go_simp; rfl) | (go_simp; rfl)) ?_
            refine wpFl_nil _ _ ?_
            simp only [Act.put, List.setIfInBounds_toArray]
            refine wpCh_rest _ _ _ _ [_] _ _ rfl (by kernel_rfl) ?_
            simp only [List.getElem_toArray, List.getElem_cons_succ, List.getElem_cons_zero]
            go_wp2_with fail
            go_roundw
            case rel =>
              refine ⟨k + 1, by omega, by go_num, ?_, ?_⟩
              · refine below_drew (?_ : Below B w (put (put w7 ab (encA a) 82) B _ 134))
                rw [← put_put (put w7 ab (encA a) 82) B (encW (wantsBTo a.gr acc a.cut k)) _ 134 134]; exact Below.put H5.out (Nat.le_refl _) _ _
              · rw [← HNY.out]; exact Blk.put_same (by rw [put_size]; exact hl7)
            case measure => simp [intOf]; omega
          · have HB : Hid (bTo a.cut r.ad = 6) := by unfold Hid bTo; rw [HDE.out, hcu, if_pos (.inr rfl)]
            rw [HB.out] at HNY
            go_wp2_with fail
            refine wp_region_float [0, 1, 2, 3, 4, 5, 6] [7] [0, 1, 3, 4, 5, 6] mixed (fun ω => Blk ω B (encW (wantsBTo a.gr acc a.cut k)) 134) (by kernel_rfl) rfl (by kernel_rfl) ?hJ ?_
            case hJ => exact Blk.put_same (by rw [put_size]; exact hl7)
            iterate 7 refine wpFl_op _ _ _ _ rfl rfl (fun ω hj => by first | (obtain ⟨ω0, rfl, hl0⟩ := (hj rfl).out; go_simp; rfl) | (go_simp; rfl)) ?_
            refine wpFl_nil _ _ ?_
            simp only [Act.put, List.setIfInBounds_toArray]
            refine wpCh_rest _ _ _ _ [_] _ _ rfl (by kernel_rfl) ?_
            simp only [List.getElem_toArray, List.getElem_cons_succ, List.getElem_cons_zero]
            go_wp2_with fail
            go_roundw
            case rel =>
              refine ⟨k + 1, by omega, by go_num, ?_, ?_⟩
              · refine below_drew (?_ : Below B w (put (put w7 ab (encA a) 82) B _ 134))
                rw [← put_put (put w7 ab (encA a) 82) B (encW (wantsBTo a.gr acc a.cut k)) _ 134 134]; exact Below.put H5.out (Nat.le_refl _) _ _
              · rw [← HNY.out]; exact Blk.put_same (by rw [put_size]; exact hl7)
            case measure => simp [intOf]; omega
      · obtain ⟨ad, cap, hav⟩ := HV1.out.form'
        have hdl : decide (a.gr k < ((acc k).length : Int)) = false := decide_eq_false hlt2
        have HN := hid_of (wantsBTo_no a.gr acc a.cut k (by omega))
        go_wp2_with fail
        go_quiet (fail)
        go_wp2_with fail
        go_roundw
        case rel => exact ⟨k + 1, by omega, by go_num, below_drewN HBl.out, by rw [HN.out]; exact Blk.put_same (by rw [put_size]; exact hl2')⟩
        case measure => simp [intOf]; omega
    · obtain rfl : k = 3 := by omega
      obtain ⟨w2, rfl, hl2⟩ := hwb.out
      have HBl := hid_of hb
      have e : encW (wantsBTo a.gr acc a.cut 3) = encW (wantsB a.gr acc a.cut) := encW_congr fun t m ht hm => by simp [wantsBTo, hm]
      rw [e] at *
      clear hb hwb
      go_wp2_with fail
      exact bodyPost_ret (v := .agg (encW (wantsB a.gr acc a.cut))) (by simp [results, Tryd.results43, go_sem, hl2]; rfl) rfl ⟨rfl, HBl.out⟩
end Go.Proofs.Qxb6500750aDoor
