import Derived.Test.Qxb6500749aSeq
import Derived.Test.Qxb6500749aVod
namespace Go.Proofs.Qxb6500749a
open Go.RowKit
attribute [local go_sem] put_size put_cell_same put_cell_ne put_frozen_same put_frozen_ne put_setCell_same put_setCell_ne put_drew
attribute [local go_sem] drewN_setCell drewN_alloc drewN_put
/-! ### slices.Clone over steps -/
def oprow (o : OpD) : List Value := (opV o).toList
theorem info73 : (Try.prog.info? 73).map (fun i => (i.zero, i.size, i.bytes)) = some (some (.agg #[.int .u8 0, .int .u32 0, .int .u32 0, .int .u32 0, .int .u32 0, .int .u32 0]), 6, 24) := by kernel_rfl
def opsL (s : Nat → OpD) (n : Nat) : List OpD := (List.range n).map s
theorem opsL_len (s : Nat → OpD) (n : Nat) : (opsL s n).length = n := by simp [opsL]
theorem opsL_get (s : Nat → OpD) (n j : Nat) (h : j < n) : (opsL s n)[j]? = some (s j) := by simp [opsL, h]
theorem scr_cells {w : World} {b off n : Nat} {s : Nat → OpD} (hc : ∀ k, k < n → ∀ j, j < 6 → w.cell? ⟨b, off + k * 6 + j, none⟩ = (opV (s k))[j]?) : ∀ j u, ((opsL s n).flatMap oprow)[j]? = some u → w.cell? ((⟨b, off, none⟩ : Addr).add j) = some u := fun j u hu => by
  have hl : ((opsL s n).flatMap oprow).length = n * 6 := by rw [flat_len oprow 6 (fun _ => rfl), opsL_len]
  have hj : j < n * 6 := by rw [← hl]; exact (List.getElem?_eq_some_iff.1 hu).1
  have hk : j / 6 < n := by omega
  have e := flat_get oprow 6 (fun _ => rfl) (opsL s n) (j / 6) (s (j / 6)) (opsL_get s n _ hk) (j % 6) (by omega)
  rw [show j / 6 * 6 + j % 6 = j by omega] at e
  rw [e] at hu
  have h2 := hc (j / 6) hk (j % 6) (by omega)
  rw [addr_add, show off + j = off + j / 6 * 6 + j % 6 by omega, h2, ← hu]
  unfold oprow
  rw [Array.getElem?_toList]
theorem oprow_one (s : Nat → OpD) (n : Nat) : ∀ u ∈ (opsL s n).flatMap oprow, u.oneCell' = true := fun u hu => by
  obtain ⟨o, _, ho⟩ := List.mem_flatMap.1 hu
  simp [oprow, opV] at ho
  rcases ho with rfl | rfl | rfl | rfl | rfl | rfl <;> rfl
theorem sl_empty (w : World) : Sl (w.alloc (.cells #[] 73)) (.slice (some ⟨w.heap.size, 0, none⟩) 0 0) 73 6 0 [] :=
  ⟨rfl, .inr ⟨w.heap.size, 0, 0, #[], rfl, Blk.new w #[] 73, Nat.le_refl _, Nat.zero_le _, by simp, rfl⟩⟩
set_option maxRecDepth 100000 in
set_option maxHeartbeats 4000000 in
theorem clone_any (a : Option Addr) (n c : Nat) (s : Nat → OpD) (w : World) (hn : n ≤ 65536) (hs : Scr w a n s) :
    Calls Try.prog 30 #[.slice a n c] w fun e w' => ∃ v, e = .returned v ∧ Sl w' v 73 6 n ((opsL s n).flatMap oprow) ∧ Below w.heap.size w w' ∧ (∀ k, v.ownBlock = some k → w.heap.size ≤ k) := by
  have q22 : ∀ (w : World) (a : Option Addr) (n c : Nat), (binOp .eql 22 (.slice a n c) (.slice none 0 0)).run Try.prog w = .ok (.bool a.isNone) w := fun w a n c => Lib.run_eql_slice_nil w 22 _ a n c 0 0 Try.underlying22
  cases a with
  | none =>
    have hn0 : n = 0 := by
      rcases Nat.eq_zero_or_pos n with q | q
      · exact q
      · obtain ⟨b, off, e, _⟩ := hs.2 q; cases e
    subst hn0
    go_enter Try.func30, Try.ntmps30
    go_wp2_with fail
    go_ret
    exact ⟨_, rfl, Sl.nil _ _ _, Below.refl _ _, fun k e => by cases e⟩
  | some ad =>
    obtain ⟨i0, hinf, hz0, hz1, hz2⟩ := info_parts info73
    have HSW := hid_of (sl_empty w)
    have HL : Hid (((opsL s n).flatMap oprow).length = n * 6) := by unfold Hid; rw [flat_len oprow 6 (fun _ => rfl), opsL_len]
    have HC : Hid (∀ j u, ((opsL s n).flatMap oprow)[j]? = some u → (w.alloc (.cells #[] 73)).cell? (ad.add j) = some u) := fun j u hu => by
      rcases Nat.eq_zero_or_pos n with q | q
      · subst q; simp [opsL] at hu
      · obtain ⟨b, off, e, hb, hc⟩ := hs.2 q
        cases e
        refine scr_cells (w := w.alloc (.cells #[] 73)) (fun k hk i hi => ?_) j u hu
        exact (((Below.refl w.heap.size w).alloc (Nat.le_refl _) (.cells #[] 73)).cell hb).trans (hc k hk i hi)
    have HN := hid_of hn
    clear hs hn
    go_enter Try.func30, Try.ntmps30
    go_wp2_with (at_builtin; (refine wpList_append_sl _ rfl (.tmp 5) (.tmp 6) 22 rfl 73 i0 (.agg #[.int .u8 0, .int .u32 0, .int .u32 0, .int .u32 0, .int .u32 0, .int .u32 0]) 6 24 Try.underlying22 hinf hz0 hz1 hz2 rfl (by decide) _ _ _ rfl HSW.out ad n c ((opsL s n).flatMap oprow) rfl HL.out HC.out ?d2 ?d3 ?d4 ?_))
    case d2 => exact oprow_one s n
    case d3 => unfold maxLen; have := HN.out; omega
    case d4 => have := HN.out; omega
    intro v' w3 hsl hgr hnew
    have HS3 : Hid (Sl w3 v' 73 6 n ((opsL s n).flatMap oprow)) := hsl
    have HB : Hid (Below w.heap.size w w3) := by
      have b1 := (Below.refl w.heap.size w).alloc (Nat.le_refl _) (.cells #[] 73)
      refine ⟨hgr.os.trans b1.os, hgr.tape.trans b1.tape, hgr.output.trans b1.output, Nat.le_trans b1.size hgr.size, fun k hk => (hgr.block k (Nat.lt_of_lt_of_le hk b1.size) ?_).trans (b1.block k hk)⟩
      simp [Value.ownBlock]; omega
    have HO : Hid (∀ k, v'.ownBlock = some k → w.heap.size ≤ k) := fun k hk => by
      rcases hnew k hk with q | q
      · simp [Value.ownBlock] at q; omega
      · omega
    clear hsl hgr hnew HSW HC HL
    go_wp2_with fail
    go_ret
    exact ⟨_, rfl, HS3.out, HB.out, HO.out⟩
end Go.Proofs.Qxb6500749a
