import Derived.Test.Qxb6500750aDoorAu
import Derived.Test.Qxb6500750aDoorLai
namespace Go.Proofs.Qxb6500750aDoor
open Go.RowKit
def own0 (k : Nat) : Nat := if k = 0 ∨ k = 1 ∨ k = 3 then 9 else 8
theorem own0_SA (k : Nat) : ¬ SA (own0 k) := by
  unfold own0 SA
  split <;> omega
theorem below_of_ext {own' : Nat → Nat} {w w' : World} (h : Ext own0 own' SA w w') : Below w.heap.size w w' := ⟨h.os, h.tape, h.output, h.size, fun k hk => h.block k hk (own0_SA k)⟩
/-- The books of a new audit. -/
def au0 (rg fm : Nat) : AU := ⟨rg, fun _ => .slice none 0 0, fun _ => 0, fun _ => 0, fun _ => false, fun _ => false, fun _ => false, fun _ => 0, fun _ => .pointer none, fm, true, true, true, true⟩
theorem au0_lit (rg fm : Nat) : encA (au0 rg fm) = #[.pointer (some ⟨rg, 0, none⟩), .slice none 0 0, .slice none 0 0, .slice none 0 0, .int .i64 0, .int .i64 0, .int .i64 0, .int .i64 0, .int .i64 0, .int .i64 0, .bool false, .bool false, .bool false, .bool false, .bool false, .bool false, .bool false, .bool false, .bool false, .bool false, .bool false, .bool false, .bool false, .int .i64 0, .int .i64 0, .int .i64 0, .int .i64 0, .int .i64 0, .int .i64 0, .int .i64 0, .pointer none, .pointer none, .pointer none, .pointer none, .pointer none, .pointer none, .pointer none, .map (some fm), .bool true, .bool true, .bool true, .bool true] := by kernel_rfl
theorem start_ai {w w1 : World} {own1 : Nat → Nat} {rg xb : Nat} {pbs : Nat → Nat} (hG : Glb own0 w) (hr : RRep own1 w1 rg xb pbs ss0) (hx : Ext own0 own1 (fun _ => False) w w1) :
    ∃ own2, AI own2 ((w1.alloc (.map #[] 0)).alloc (.cells (encA (au0 rg w1.heap.size)) 82)) (w1.heap.size + 1) xb pbs ss0 ⟨au0 rg w1.heap.size, fun _ _ => none, fun _ => none⟩ (fun _ => []) ∧ Ext own0 own2 SA w ((w1.alloc (.map #[] 0)).alloc (.cells (encA (au0 rg w1.heap.size)) 82)) := by
  have hs1 : (w1.alloc (.map #[] 0)).heap.size = w1.heap.size + 1 := by simp
  have hx1 : Ext own1 (mark own1 w1.heap.size 14) (fun _ => False) w1 (w1.alloc (.map #[] 0)) := Ext.alloc own1 _ w1 _ 14
  have hx2 : Ext (mark own1 w1.heap.size 14) (mark (mark own1 w1.heap.size 14) (w1.heap.size + 1) 10) (fun _ => False) (w1.alloc (.map #[] 0)) ((w1.alloc (.map #[] 0)).alloc (.cells (encA (au0 rg w1.heap.size)) 82)) := by
    have := Ext.alloc (mark own1 w1.heap.size 14) (fun _ => False) (w1.alloc (.map #[] 0)) (.cells (encA (au0 rg w1.heap.size)) 82) 10
    rw [hs1] at this; exact this
  have hx3 := hx.trans (hx1.trans hx2)
  refine ⟨_, ⟨hr.ext (hx1.trans hx2) (fun _ _ h => h), hG.ext hx3 (fun h => h), ⟨?_, ?_, fun b f hf => (by cases hf)⟩, fun m _ => Sl.nil _ _ _, fun m _ r hr => (by cases hr), mark_ge (Nat.le_refl _), fun m _ k hk => ?_, ?_, fun b f hf => (by cases hf)⟩, hx3.mono (fun _ h => h.elim)⟩
  · have := Blk.new (w1.alloc (.map #[] 0)) (encA (au0 rg w1.heap.size)) 82
    rw [hs1] at this; exact this
  · exact (FMap.new w1).same (Below.heap_alloc _ _ _ (by rw [hs1]; exact Nat.lt_succ_self _))
  · have hk : (Value.slice none 0 0).ownBlock = some k := hk
    simp [Value.ownBlock] at hk
  · show mark (mark own1 w1.heap.size 14) (w1.heap.size + 1) 10 w1.heap.size = 14
    rw [mark_lt (Nat.lt_succ_self _)]
    exact mark_ge (Nat.le_refl _)
theorem start_ji (rg fm : Nat) : JI ss0 ⟨au0 rg fm, fun _ _ => none, fun _ => none⟩ (fun _ => []) :=
  JI.zero (au0 rg fm) ⟨rfl, rfl, rfl, rfl⟩ ⟨fun _ => ⟨rfl, rfl, rfl, rfl⟩, fun _ => ⟨rfl, rfl⟩⟩ _
set_option maxRecDepth 100000 in
set_option maxHeartbeats 4000000 in
theorem runAudit_any (a : Option Addr) (n c : Nat) (s : Nat → OpD) (hn : n ≤ 65536) (w : World) (hs : Scr w a n s) (hG : Glb own0 w) :
    Calls Tryd.prog 25 #[.slice a n c] w fun e w' => ∃ ab own' xb pbs σ B acc, e = .returned (.pointer (some ⟨ab, 0, none⟩)) ∧ AI own' w' ab xb pbs σ B acc ∧ JI σ B acc ∧ XInv (n : Nat) (14 * n) σ ∧ Ext own0 own' SA w w' := by
  have HS := hid_of hs
  have HG := hid_of hG
  clear hs hG
  go_enter Tryd.func25, Tryd.ntmps25
  go_wp2_with fail
  refine (newRig_any own0 w).mono ?_
  rintro e w1 ⟨rfl, own1, xb, pbs, hr, hx⟩
  obtain ⟨own2, hAI, hEx⟩ := start_ai HG.out hr hx
  have HAI := hid_of hAI
  have HEX := hid_of hEx
  clear hr hx hAI hEx
  rw [au0_lit] at HAI HEX
  go_wp2_with ((with_reducible show wpList _ _ _ ({ dst := _, op := Op.makeMap 80 none, type := _, pos := _, after := _, guard := _ } :: _) _ _); refine wpList_makeMapV (by rfl) 80 (by rfl) ?_; intro V n1 hV hn1; subst hV; subst hn1)
  have hsz : (w1.alloc (.map #[] 0)).heap.size = w1.heap.size + 1 := by simp
  go_loopw [12] (fun i wr => ∃ k : Nat, k ≤ n ∧ i = .int .i64 k ∧ ∃ own' σ B acc, Hid (AI own' wr (w1.heap.size + 1) xb pbs σ B acc ∧ JI σ B acc ∧ XInv (k : Nat) (14 * k) σ ∧ Ext own0 own' SA w wr)) (fun i _ => n - (intOf i).toNat)
  case atStart => exact ⟨0, by omega, rfl, own2, ss0, _, _, HAI.out, start_ji _ _, ss0_inv, HEX.out⟩
  case round =>
    obtain ⟨k, hk, rfl, own3, σ, B, acc, hJ⟩ := hrel
    by_cases hkn : k < n
    · obtain ⟨h1, h2, h3, h4⟩ := hJ.out
      obtain ⟨hok, hcs⟩ := HS.out
      obtain ⟨b, off, rfl, hb, hcc⟩ := hcs (by omega)
      have hq := hcc k hkn
      have hbel := below_of_ext h4
      have q0 := (hbel.cell (p := ⟨b, off + k * 4, none⟩) hb).trans hq.1
      have q1 := (hbel.cell (p := ⟨b, off + k * 4 + 1, none⟩) hb).trans hq.2.1
      have q2 := (hbel.cell (p := ⟨b, off + k * 4 + 2, none⟩) hb).trans hq.2.2.1
      have q3 := (hbel.cell (p := ⟨b, off + k * 4 + 3, none⟩) hb).trans hq.2.2.2
      have hkk := hok k hkn
      generalize s k = o at *
      have hop : OpOK o := ⟨hkk.1.1, hkk.2.1, hkk.2.2.1, hkk.2.2.2⟩
      have hai : AI own3 (wr.alloc (.cells #[.int .u8 o.k, .int .u32 o.a, .int .u32 o.b, .int .u32 o.c] 31)) (w1.heap.size + 1) xb pbs σ B acc := h1.below ((Below.refl _ _).alloc (Nat.le_refl _) _)
      have hstep := astep_any own3 (w1.heap.size + 1) xb pbs σ B acc o (k : Nat) (14 * k) _ hai h2 h3 ⟨by omega, by omega⟩ (by omega) hop
      have HX := hid_of (h3.step hop (by omega))
      have HE : Hid (Ext own0 own3 SA w (wr.alloc (.cells #[.int .u8 o.k, .int .u32 o.a, .int .u32 o.b, .int .u32 o.c] 31))) := h4.shut ((Below.refl _ _).alloc h4.size _)
      have HST := hid_of hstep
      have hmeas : Hid (n - (intOf (.int .i64 ((k : Nat) + 1))).toNat < n - (intOf (.int .i64 (k : Nat))).toNat) := by simp [intOf, Hid]; omega
      unfold opC at HST
      clear hJ h1 h2 h3 h4 hok hcs hcc hq hbel hai hstep hkk hop
      go_wp2_with fail
      refine HST.out.mono ?_
      rintro e w5 ⟨rfl, own4, B4, acc4, k1, k2, k3⟩
      have HN : Hid (AI own4 w5 (w1.heap.size + 1) xb pbs (stepS σ o) B4 acc4 ∧ JI (stepS σ o) B4 acc4 ∧ XInv ((k + 1 : Nat) : Int) (14 * (k + 1)) (stepS σ o) ∧ Ext own0 own4 SA w w5) := ⟨k1, k2, HX.out, HE.out.trans k3⟩
      clear k1 k2 k3 HST HX HE
      go_wp2_with fail
      go_roundw
      case rel => exact ⟨k + 1, hkn, by go_num, own4, _, B4, acc4, HN⟩
      case measure => exact hmeas.out
    · obtain rfl : k = n := by omega
      have HFIN : Hid (∃ ab own' xb pbs σ B acc, (Ending.returned (.pointer (some ⟨w1.heap.size + 1, 0, none⟩)) : Ending) = .returned (.pointer (some ⟨ab, 0, none⟩)) ∧ AI own' wr ab xb pbs σ B acc ∧ JI σ B acc ∧ XInv (k : Nat) (14 * k) σ ∧ Ext own0 own' SA w wr) := ⟨_, own3, xb, pbs, σ, B, acc, rfl, hJ.out⟩
      clear hJ
      go_wp2_with fail
      go_ret
      exact HFIN.out
end Go.Proofs.Qxb6500750aDoor
