import Derived.Test.Qxb6500749aMs1
import Derived.Test.Qxb6500749aMs2
import Derived.Test.Qxb6500749aMs3
import Derived.Test.Qxb6500749aMs4
import Derived.Test.Qxb6500749aMs5
import Derived.Test.Qxb6500749aMs7
import Derived.Test.Qxb6500749aMs8
namespace Go.Proofs.Qxb6500749a
open Go.RowKit
attribute [local go_sem] put_size put_cell_same put_cell_ne put_frozen_same put_frozen_ne put_setCell_same put_setCell_ne put_drew
attribute [local go_sem] drewN_setCell drewN_alloc drewN_put
/-! ### The interpreter's step, whole -/
set_option maxRecDepth 100000 in
set_option maxHeartbeats 4000000 in
theorem mst_stop (b mm : Nat) (pv gv : Value) (prog : List Int) (M : IM) (hs : (M.hal || M.tra) = true) (w : World) (h : MR w b mm pv gv prog M) :
    Calls Try.prog 15 #[.pointer (some ⟨b, 0, none⟩)] w fun e w' => e = .returned (.tuple #[]) ∧ MPost w b mm pv gv prog M w' := by
  have c19 : w.cell? ⟨b, 19, none⟩ = some (.bool M.hal) := h.blk.cell 19
  have c20 : w.cell? ⟨b, 20, none⟩ = some (.bool M.tra) := h.blk.cell 20
  have HF : Hid (MPost w b mm pv gv prog M w) := ⟨gv, h, Fr.refl _ _, fun _ q => .inl q⟩
  clear h
  cases hh : M.hal
  · rw [hh] at c19 hs
    have ht : M.tra = true := by simpa using hs
    rw [ht] at c20
    clear hs hh ht
    go_enter Try.func15, Try.ntmps15
    go_wp2_with fail
    exact bodyPost_ret (v := .tuple #[]) (results_none rfl _ _ _) rfl ⟨rfl, HF.out⟩
  · rw [hh] at c19
    clear hs hh c20
    go_enter Try.func15, Try.ntmps15
    go_wp2_with fail
    exact bodyPost_ret (v := .tuple #[]) (results_none rfl _ _ _) rfl ⟨rfl, HF.out⟩
theorem fet_w32 (prog : List Int) (hpw : ∀ x ∈ prog, W32 x) (pc : Int) (h0 : 0 ≤ pc) : W32 (fetF prog pc) := by
  by_cases q : pc < (prog.length : Nat)
  · obtain ⟨p, rfl⟩ : ∃ p : Nat, pc = (p : Nat) := Int.eq_ofNat_of_zero_le h0
    exact (fet_at (by omega) hpw).2
  · unfold fetF
    rw [if_neg q]
    constructor <;> decide
theorem mstep_any (b mm : Nat) (pv gv : Value) (prog : List Int) (M : IM) (hM : M.Ok) (hpn : prog.length ≤ 64) (hpw : ∀ x ∈ prog, W32 x) (hgn : M.log.length < 1000000000) (w : World) (h : MR w b mm pv gv prog M) :
    Calls Try.prog 15 #[.pointer (some ⟨b, 0, none⟩)] w fun e w' => e = .returned (.tuple #[]) ∧ MPost w b mm pv gv prog (itF prog M) w' := by
  unfold itF
  by_cases hs : (M.hal || M.tra) = true
  · rw [if_pos hs]
    exact mst_stop b mm pv gv prog M hs w h
  · rw [if_neg hs]
    have hh : M.hal = false := by cases q : M.hal; rfl; rw [q] at hs; simp at hs
    have ht : M.tra = false := by cases q : M.tra; rfl; rw [q] at hs; simp at hs
    obtain ⟨pa, pcap, e1⟩ := h.prog.form'
    obtain ⟨ga, gc, e2⟩ := h.log.form'
    subst e1
    subst e2
    by_cases hlt : M.pc < (prog.length : Nat)
    · have hx := fet_w32 prog hpw M.pc hM.pc.1
      have hop : 0 ≤ (decF (fetF prog M.pc)).op ∧ (decF (fetF prog M.pc)).op < 256 := by
        have h1 := hx.1
        have h2 := hx.2
        unfold decF
        constructor <;> simp only [] <;> omega
      generalize hO : (decF (fetF prog M.pc)).op = op at hop
      by_cases g4 : 24 ≤ op
      · exact mst4 b mm pa _ pcap ga _ gc prog M hM rfl hpn hpw rfl hgn hh ht ⟨by rw [hO]; exact g4, hlt⟩ w h
      have hc : (op = 0 ∨ op = 1 ∨ op = 2 ∨ op = 3 ∨ op = 4 ∨ op = 13 ∨ op = 14) ∨ (op = 5 ∨ op = 6 ∨ op = 7 ∨ op = 8 ∨ op = 9 ∨ op = 10 ∨ op = 11 ∨ op = 12) ∨ (op = 19 ∨ op = 20 ∨ op = 21 ∨ op = 22 ∨ op = 23) ∨ (op = 15 ∨ op = 16) ∨ op = 17 ∨ op = 18 := by omega
      rw [← hO] at hc
      rcases hc with q | q | q | q | q | q
      · exact mst1 b mm pa _ pcap ga _ gc prog M hM rfl hpn hpw rfl hgn hh ht q w h
      · exact mst2 b mm pa _ pcap ga _ gc prog M hM rfl hpn hpw rfl hgn hh ht q w h
      · exact mst3 b mm pa _ pcap ga _ gc prog M hM rfl hpn hpw rfl hgn hh ht q w h
      · exact mst5 b mm pa _ pcap ga _ gc prog M hM rfl hpn hpw rfl hgn hh ht q w h
      · exact mst6 b mm pa _ pcap ga _ gc prog M hM rfl hpn hpw rfl hgn hh ht q w h
      · exact mst7 b mm pa _ pcap ga _ gc prog M hM rfl hpn hpw rfl hgn hh ht q w h
    · exact mst8 b mm pa _ pcap ga _ gc prog M hM rfl hpn hh ht hlt w h
end Go.Proofs.Qxb6500749a
