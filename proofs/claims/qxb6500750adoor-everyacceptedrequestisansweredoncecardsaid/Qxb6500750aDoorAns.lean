import Derived.Test.Qxb6500750aDoorLaw4
import Derived.Test.Qxb6500750aDoorDrn3
namespace Go.Proofs.Qxb6500750aDoor
open Go.RowKit
/-! ### The drain: EveryAcceptedRequestIsAnsweredOnce -/
theorem idle_call {own : Nat → Nat} {w : World} {ab xb : Nat} {pbs : Nat → Nat} {σ : SS} {B : BK} {acc : Nat → List Req} {N : Int} {A : Nat} (h : AI own w ab xb pbs σ B acc) (hi : XInv N A σ) :
    Calls Tryd.prog 26 #[.pointer (some ⟨xb, 0, none⟩)] w fun e w' => e = .returned (.bool (idleX σ.x)) ∧ Below w.heap.size w w' := by
  have hb := h.rr.x.blk
  have h1 := idle_any (lk pbs) xb σ.x (fun m hm => by have := hi.cnt m hm; omega) w hb.lt
  rw [put_self _ _ _ _ hb] at h1
  refine h1.mono ?_
  rintro e w' ⟨rfl, n, rfl⟩
  exact ⟨rfl, ⟨rfl, rfl, rfl, Nat.le_refl _, fun _ _ => rfl⟩⟩
theorem FMap.none {w : World} {b : Nat} {g : Int → Int → Option Nat} (h : FMap w b g) (hg : ∀ m s, g m s = none) : ∃ c, w.heap[b]? = some (.map #[] c) := by
  obtain ⟨es, c, hb, h1, _, _⟩ := h.out
  refine ⟨c, ?_⟩
  have hl : es.toList = [] := by
    cases hl : es.toList with
    | nil => rfl
    | cons e l =>
      obtain ⟨m, s, fb, _, _, _, _, hgm, _⟩ := h1 e (by rw [hl]; simp)
      rw [hg] at hgm; cases hgm
  have he : es = #[] := Array.toList_eq_nil_iff.1 hl
  rw [hb, he]
def opT : OpD := ⟨3, 16383, 0, 0⟩
theorem opT_ok : OpOK opT := ⟨by decide, by decide, by decide, by decide⟩
theorem stepS_opT (σ : SS) : stepS σ opT = (tickF 16383 σ).1 := rfl
/-- What is left when the crossbar is idle. -/
theorem idle_end {σ : SS} {N : Int} {A : Nat} {B : BK} {acc : Nat → List Req} {own : Nat → Nat} {w : World} {ab xb : Nat} {pbs : Nat → Nat} (h : AI own w ab xb pbs σ B acc) (J : JI σ B acc) (hi : XInv N A σ) (hid : idleX σ.x = true) :
    (∀ k, k < 3 → ∃ ad cap, w.cell? ⟨ab, 1 + k, none⟩ = some (.slice ad (acc k).length cap) ∧ w.cell? ⟨ab, 7 + k, none⟩ = some (.int .i64 ((acc k).length : Nat))) ∧
    (∃ c, w.heap[B.a.fm]? = some (.map #[] c)) ∧ w.cell? ⟨ab, 37, none⟩ = some (.map (some B.a.fm)) ∧ w.cell? ⟨ab, 38, none⟩ = some (.bool true) := by
  obtain ⟨i1, i2⟩ := (idleX_iff _).1 hid
  refine ⟨fun k hk => ?_, h.bk.map.none fun m s => ?_, ?_, ?_⟩
  · obtain ⟨ad, cap, hv⟩ := (h.av k hk).form'
    refine ⟨ad, cap, ?_, ?_⟩
    · rw [h.bk.blk.cell, ag_av _ k hk, hv]
    · rw [h.bk.blk.cell, ag_rt _ k hk, J.rt k hk, ← i1 k hk, J.iss k hk]
  · cases hg : B.γ m s with
    | none => rfl
    | some b =>
      obtain ⟨mn, h3, _, h4, h5⟩ := J.dom m s b hg
      have := i1 mn h3
      have := hi.cnt mn h3
      omega
  · rw [h.bk.blk.cell, ag_fm]
  · rw [h.bk.blk.cell, ag_f0, J.on.f0]
set_option maxRecDepth 100000 in
set_option maxHeartbeats 4000000 in
theorem law9_any (a : Option Addr) (n c : Nat) (s : Nat → OpD) (w : World) (hs : Scr w a n s) (hG : Glb own0 w) :
    Calls Tryd.prog 9 #[.slice a n c] w fun e w' => e = .returned (.bool true) ∧ Below w.heap.size w w' := by
  by_cases hn : n ≤ 65536
  · have HRA := hid_of (runAudit_any a n c s hn w hs hG)
    clear hs hG
    go_enter Tryd.func9, Tryd.ntmps9
    go_wp2_with (go_at_call 11; refine (small_yes _ _ _ hn _).mono ?_; rintro e w' ⟨rfl, hw'⟩; obtain rfl := hw'.symm)
    refine HRA.out.mono ?_
    rintro e w1 ⟨ab, own', xb, pbs, σ1, B1, acc1, rfl, hAI, hJ, hi, hx⟩
    have HST : Hid (AI own' w1 ab xb pbs σ1 B1 acc1 ∧ JI σ1 B1 acc1 ∧ XInv (n : Nat) (14 * n) σ1 ∧ Ext own0 own' SA w w1) := ⟨hAI, hJ, hi, hx⟩
    clear hAI hJ hx hi HRA
    go_wp2_with fail
    go_loopw [4] (fun i wr => ∃ k : Nat, k ≤ 3141 ∧ i = .int .i64 k ∧ ∃ own' σ B acc, Hid (AI own' wr ab xb pbs σ B acc ∧ JI σ B acc ∧ XInv ((n + k : Nat) : Int) (14 * (n + k)) σ ∧ Ext own0 own' SA w wr ∧ Meas σ (3141 - (k : Nat)))) (fun i _ => 3142 - (intOf i).toNat)
    case atStart =>
      obtain ⟨h1, h2, h3, h4⟩ := HST.out
      exact ⟨0, by omega, rfl, own', σ1, B1, acc1, h1, h2, h3, h4, meas_start h3 h2⟩
    case round =>
      obtain ⟨k, hk, rfl, own3, σ, B, acc, hJ⟩ := hrel
      have hc0 : wr.cell? ⟨ab, 0, none⟩ = some (.pointer (some ⟨B.a.rg, 0, none⟩)) := by rw [hJ.out.1.bk.blk.cell, ag_rg]
      have hc1 : wr.cell? ⟨B.a.rg, 0, none⟩ = some (.pointer (some ⟨xb, 0, none⟩)) := by rw [hJ.out.1.rr.blk.cell, gg_0]
      have HID := hid_of (idle_call hJ.out.1 hJ.out.2.2.1)
      cases hid : idleX σ.x
      · have HI := hid_of hid
        rw [hid] at HID
        have hk1 : k ≤ 3140 := by
          have := meas_zero hJ.out.2.2.1 hJ.out.2.1 hJ.out.2.2.2.2 hid
          omega
        have hne : ((k : Nat) : Int) ≠ 3144 := by omega
        clear hid
        go_wp2_with fail
        refine HID.out.mono ?_
        rintro e w4 ⟨rfl, hb4⟩
        obtain ⟨h1, h2, h3, h4, h5⟩ := hJ.out
        have hai := h1.below hb4
        have HE : Hid (Ext own0 own3 SA w w4) := h4.shut (hb4.mono h4.size)
        have hXI := h3.step opT_ok (by omega)
        have HX : Hid (XInv ((n + (k + 1) : Nat) : Int) (14 * (n + (k + 1))) (stepS σ opT)) := hXI
        have HM : Hid (Meas (stepS σ opT) (3141 - ((k + 1 : Nat) : Int))) := by
          have h6 := meas_tick h3 h2 16383 (by rw [← stepS_opT]; exact hXI) h5 HI.out
          have e : (3141 : Int) - ((k + 1 : Nat) : Int) = 3141 - (k : Nat) - 1 := by omega
          rw [e]; exact h6
        have HSTP : Hid (Calls Tryd.prog 27 #[.pointer (some ⟨ab, 0, none⟩), .agg #[.int .u8 3, .int .u32 16383, .int .u32 0, .int .u32 0]] w4 _) := astep_any own3 ab xb pbs σ B acc opT _ _ _ hai h2 h3 ⟨by omega, by omega⟩ (by omega) opT_ok
        have hmeas : Hid (3142 - (intOf (.int .i64 ((k : Nat) + 1))).toNat < 3142 - (intOf (.int .i64 (k : Nat))).toNat) := by simp [intOf, Hid]; omega
        clear hJ h1 h2 h3 h4 h5 hai hXI hc0 hc1 HID hb4
        go_wp2_with fail
        refine HSTP.out.mono ?_
        rintro e w5 ⟨rfl, own4, B4, acc4, k1, k2, k3⟩
        have HN : Hid (AI own4 w5 ab xb pbs (stepS σ opT) B4 acc4 ∧ JI (stepS σ opT) B4 acc4 ∧ XInv ((n + (k + 1) : Nat) : Int) (14 * (n + (k + 1))) (stepS σ opT) ∧ Ext own0 own4 SA w w5 ∧ Meas (stepS σ opT) (3141 - ((k + 1 : Nat) : Int))) := ⟨k1, k2, HX.out, HE.out.trans k3, HM.out⟩
        clear k1 k2 k3 HSTP HX HE HM HI
        go_wp2_with fail
        go_roundw
        case rel => exact ⟨k + 1, by omega, by go_num, own4, _, B4, acc4, HN⟩
        case measure => exact hmeas.out
      · rw [hid] at HID
        have HI := hid_of hid
        clear hid
        go_wp2_with fail
        refine HID.out.mono ?_
        rintro e w4 ⟨rfl, hb4⟩
        obtain ⟨h1, h2, h3, h4, h5⟩ := hJ.out
        obtain ⟨e1, ⟨cl, e2⟩, e3, e4⟩ := idle_end (h1.below hb4) h2 h3 HI.out
        have HB : Hid (Below w.heap.size w w4) := below_of_ext (h4.shut (hb4.mono h4.size))
        have HE1 := hid_of e1
        clear hJ h1 h2 h3 h4 h5 hc0 hc1 HID hb4 HI e1
        go_wp2_with fail
        go_loopw [27] (fun i wr => ∃ k m : Nat, k ≤ 3 ∧ i = .int .i64 k ∧ wr = w4.drewN m) (fun i _ => 3 - (intOf i).toNat)
        case atStart => exact ⟨0, 0, by omega, rfl, rfl⟩
        case round =>
          obtain ⟨j, m, hj, rfl, rfl⟩ := hrel
          by_cases hj3 : j < 3
          · obtain ⟨ad, cap, f1, f2⟩ := HE1.out j hj3
            generalize (acc j).length = L at *
            go_wp2_with fail
            go_quiet (fail)
            go_wp2_with fail
            go_roundw
            case rel => exact ⟨j + 1, _, by omega, by go_num, rfl⟩
            case measure => simp [intOf]; omega
          · have hj' : ¬ ((j : Nat) : Int) < 3 := by omega
            have hlen : (Builtin.len_ #[80] 3 #[.map (some B.a.fm)]).run Tryd.prog (w4.drewN m) = .ok (.int .i64 0) (w4.drewN m) := run_len_map (w4.drewN m) 80 3 B.a.fm #[] cl (by kernel_rfl) e2
            go_wp2_with fail
            go_ret
            exact ⟨rfl, below_drewN HB.out⟩
  · clear hs hG
    go_enter Tryd.func9, Tryd.ntmps9
    go_wp2_with (go_at_call 11; refine (small_no _ _ _ (by omega) _).mono ?_; rintro e w' ⟨rfl, hw'⟩; obtain rfl := hw'.symm)
    go_ret
    exact ⟨rfl, Below.refl _ _⟩
end Go.Proofs.Qxb6500750aDoor
