import Derived.Test.Qxb6500749aExt
namespace Go.Proofs.Qxb6500749a
open Go.RowKit
attribute [local go_sem] put_size put_cell_same put_cell_ne put_frozen_same put_frozen_ne put_setCell_same put_setCell_ne put_drew
attribute [local go_sem] drewN_setCell drewN_alloc drewN_put
/-! ### A bank of cells with its faults, as data -/
structure FD where
  site : Int
  bit : Nat
  cyc : Int
  dur : Int
  kind : Int
def fV (f : FD) : Array Value := #[.int .u32 f.site, .int .u32 (f.bit : Nat), .int .u32 f.cyc, .int .u32 f.dur, .int .u8 f.kind]
def frow (f : FD) : List Value := [.int .u32 f.site, .int .u32 (f.bit : Nat), .int .u32 f.cyc, .int .u32 f.dur, .int .u8 f.kind]
structure FD.Ok (f : FD) : Prop where
  site : 0 ≤ f.site ∧ f.site < 4294967296
  bit : f.bit < 4294967296
  cyc : 0 ≤ f.cyc ∧ f.cyc < 4294967296
  dur : 0 ≤ f.dur ∧ f.dur < 4294967296
  kind : 0 ≤ f.kind ∧ f.kind < 4
def actF (now : Int) (site : Nat) (f : FD) : Bool := f.site == (site : Nat) && decide (f.bit < 32) && decide (f.cyc ≤ now) && decide (now - f.cyc < f.dur)
set_option maxRecDepth 100000 in
set_option maxHeartbeats 4000000 in
theorem active_any (bb site : Nat) (hs : site < 55) (now : Int) (f : FD) (hf : f.Ok) (hn : 0 ≤ now ∧ now < 4294967296) (w : World) (hc : w.cell? ⟨bb, 2, none⟩ = some (.int .u32 now)) :
    Calls Try.prog 81 #[.pointer (some ⟨bb, 0, none⟩), .agg (fV f), .int .i64 (site : Nat)] w fun e w' => e = .returned (.bool (actF now site f)) ∧ Below w.heap.size w w' := by
  have hb := ca1 w (.cells (fV f) 33) _ _ hc
  have hbl : Blk (w.alloc (.cells (fV f) 33)) w.heap.size (fV f) 33 := Blk.new w _ _
  have hbel : Below w.heap.size w (w.alloc (.cells (fV f) 33)) := (Below.refl _ _).alloc (Nat.le_refl _) _
  obtain ⟨W, hW⟩ : ∃ W, w.alloc (.cells (fV f) 33) = W := ⟨_, rfl⟩
  rw [hW] at hb hbl hbel
  have c0 : W.cell? ⟨w.heap.size, 0, none⟩ = some (.int .u32 f.site) := hbl.cell 0
  have c1 : W.cell? ⟨w.heap.size, 1, none⟩ = some (.int .u32 (f.bit : Nat)) := hbl.cell 1
  have c2 : W.cell? ⟨w.heap.size, 2, none⟩ = some (.int .u32 f.cyc) := hbl.cell 2
  have c3 : W.cell? ⟨w.heap.size, 3, none⟩ = some (.int .u32 f.dur) := hbl.cell 3
  have hsw : ((site : Nat) : Int) % 4294967296 = (site : Nat) := by omega
  have HB := hid_of hbel
  have HF := hid_of hf
  have HFIN : Hid (∀ q, Below w.heap.size w (W.drewN q)) := fun q => ⟨hbel.os, hbel.tape, hbel.output, hbel.size, hbel.block⟩
  have hWl : w.alloc (.cells #[.int .u32 f.site, .int .u32 (f.bit : Nat), .int .u32 f.cyc, .int .u32 f.dur, .int .u8 f.kind] 33) = W := hW
  have hsub : f.cyc ≤ now → (now - f.cyc) % 4294967296 = now - f.cyc := fun h => by have := hf.cyc; omega
  unfold fV
  clear hc hbl hbel hW hf hn
  cases e0 : (f.site == ((site : Nat) : Int))
  · have hr : Hid (actF now site f = false) := by unfold Hid actF; rw [e0]; rfl
    rw [hr.out]
    clear hsub
    go_enter Try.func81, Try.ntmps81
    go_upto_region 1 with fail
    clear hWl
    go_quiet (fail)
    go_wp2_with fail
    go_ret
    exact ⟨rfl, HFIN.out _⟩
  by_cases e1 : f.bit < 32
  · have e1i : ((f.bit : Nat) : Int) < 32 := by omega
    have d1 : decide (((f.bit : Nat) : Int) < 32) = true := decide_eq_true e1i
    by_cases e2 : f.cyc ≤ now
    · have d2 : decide (f.cyc ≤ now) = true := decide_eq_true e2
      have hs2 := hsub e2
      obtain ⟨b3, hb3⟩ : ∃ b3, decide (now - f.cyc < f.dur) = b3 := ⟨_, rfl⟩
      have hr : Hid (actF now site f = b3) := by unfold Hid actF; rw [e0, decide_eq_true e1, d2, hb3]; rfl
      rw [hr.out]
      clear hsub hr
      go_enter Try.func81, Try.ntmps81
      go_upto_region 1 with fail
      clear hWl
      go_quiet (fail)
      go_wp2_with fail
      go_ret
      exact ⟨rfl, HFIN.out _⟩
    · have d2 : decide (f.cyc ≤ now) = false := decide_eq_false e2
      have hr : Hid (actF now site f = false) := by unfold Hid actF; rw [e0, d2]; simp
      rw [hr.out]
      clear hsub
      go_enter Try.func81, Try.ntmps81
      go_upto_region 1 with fail
      clear hWl
      go_quiet (fail)
      go_wp2_with fail
      go_ret
      exact ⟨rfl, HFIN.out _⟩
  · have e1i : ¬ ((f.bit : Nat) : Int) < 32 := by omega
    have d1 : decide (((f.bit : Nat) : Int) < 32) = false := decide_eq_false e1i
    have hr : Hid (actF now site f = false) := by unfold Hid actF; rw [decide_eq_false e1]; simp
    rw [hr.out]
    clear hsub
    go_enter Try.func81, Try.ntmps81
    go_upto_region 1 with fail
    clear hWl
    go_quiet (fail)
    go_wp2_with fail
    go_ret
    exact ⟨rfl, HFIN.out _⟩
end Go.Proofs.Qxb6500749a
