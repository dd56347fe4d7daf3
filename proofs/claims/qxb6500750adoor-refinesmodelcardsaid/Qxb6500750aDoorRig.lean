import Derived.Test.Qxb6500750aDoorRst
import Derived.Test.Qxb6500750aDoorIso
import Derived.Carry
namespace Go.Proofs.Qxb6500750aDoor
open Go.RowKit
attribute [local go_sem] put_size put_cell_same put_cell_ne put_frozen_same put_frozen_ne put_setCell_same put_setCell_ne put_drew
attribute [local go_sem] drewN_setCell drewN_alloc drewN_put
/-! ### The rig -/
attribute [local go_sem] run_makeMap
def port0 : PS := ⟨fun _ => 0, [], [], false, 0, 0, 0, 0, 0⟩
theorem newPort_any (own : Nat → Nat) (g : Nat) (w : World) :
    Calls Tryd.prog 29 #[] w fun e w' => e = .returned (.pointer (some ⟨w.heap.size + 1, 0, none⟩)) ∧ PR (mark own w.heap.size g) g w' (w.heap.size + 1) port0 ∧ Ext own (mark own w.heap.size g) (fun _ => False) w w' := by
  go_enter Tryd.func29, Tryd.ntmps29
  go_wp2
  go_ret
  refine ⟨by simp, ⟨⟨w.heap.size + 1, w.heap.size, .slice none 0 0, .slice none 0 0⟩, rfl, ?_⟩, ?_⟩
  · refine ⟨?_, ?_, Sl.nil _ _ _, Sl.nil _ _ _, mark_ge (Nat.le_succ _), mark_ge (Nat.le_refl _), fun k hk => ?_, fun k hk => ?_⟩
    · have := Blk.new (w.alloc (.map #[] 0)) (pcells ⟨w.heap.size + 1, w.heap.size, .slice none 0 0, .slice none 0 0⟩ port0) 113
      simp at this
      exact this
    · refine ⟨#[], 0, ?_, fun e he => by simp at he, fun a => rfl⟩
      show ((w.alloc (.map #[] 0)).alloc _).heap[w.heap.size]? = _
      rw [Below.heap_alloc _ _ _ (by simp)]
      exact heap_alloc_new w _
    · simp [Value.ownBlock] at hk
    · simp [Value.ownBlock] at hk
  · have h1 := Ext.alloc own (fun _ => False) w (.map #[] 0) g
    exact h1.trans (Ext.alloc' _ _ _ _)
/-! ### xbar.New -/
def xs0 : XS := ⟨fun _ => mp0 false, fun _ => ⟨false, 0, 0, 0, false, false⟩, fun _ => 0, fun _ => 0, fun _ => 0⟩
theorem xs_t0 (L : Nat → Value) (x : XS) (t : Nat) (ht : t < 7) (v : Value) : (encX L x).setIfInBounds (135 + t * 7) v = encX (upd L t v) x := by
  refine row_set _ _ _ _ _ fun i hi => ?_
  rcases x_places i hi with ⟨m', s', r', a, b, c, rfl⟩ | ⟨m', r', a, b, rfl⟩ | ⟨t', r', a, b, rfl⟩ | ⟨r', a, rfl⟩
  · rw [xcell_slot _ _ m' s' r' a b c, xcell_slot L x m' s' r' a b c, if_neg (by omega)]
  · rw [xcell_tail _ _ m' r' a b, xcell_tail L x m' r' a b, if_neg (by omega)]
  · rw [xcell_tgt _ _ t' r' a b, xcell_tgt L x t' r' a b]
    by_cases e : t' = t
    · subst e
      simp only [upd, if_true]
      by_cases e2 : r' = 0
      · subst e2; rw [if_pos (by omega)]; rfl
      · rw [if_neg (by omega)]
        obtain ⟨r, rfl⟩ := Nat.exists_eq_succ_of_ne_zero e2
        rcases r with _ | _ | _ | _ | _ | _ | r <;> rfl
    · rw [if_neg (by omega)]; simp only [upd, if_neg e]
  · rw [if_neg (by omega)]
    have e1 : ∀ L', xcell L' x (184 + r') = ucell x r' := fun L' => by unfold xcell; rw [if_neg (by omega), if_neg (by omega), show 184 + r' - 184 = r' from by omega]
    rw [e1, e1]
def pagg (pbs : Nat → Nat) : Value := .agg #[.pointer (some ⟨pbs 0, 0, none⟩), .pointer (some ⟨pbs 1, 0, none⟩), .pointer (some ⟨pbs 2, 0, none⟩), .pointer (some ⟨pbs 3, 0, none⟩), .pointer (some ⟨pbs 4, 0, none⟩), .pointer (some ⟨pbs 5, 0, none⟩)]
theorem index_pagg (pbs : Nat → Nat) : ∀ (k : Nat) (_ : k < 6) (w : World), (Instr.index 47 (.agg #[.pointer (some ⟨pbs 0, 0, none⟩), .pointer (some ⟨pbs 1, 0, none⟩), .pointer (some ⟨pbs 2, 0, none⟩), .pointer (some ⟨pbs 3, 0, none⟩), .pointer (some ⟨pbs 4, 0, none⟩), .pointer (some ⟨pbs 5, 0, none⟩)]) (.int .i64 (k : Nat))).run Tryd.prog w = .ok (.pointer (some ⟨pbs k, 0, none⟩)) w
  | 0, _, _ => by kernel_rfl
  | 1, _, _ => by kernel_rfl
  | 2, _, _ => by kernel_rfl
  | 3, _, _ => by kernel_rfl
  | 4, _, _ => by kernel_rfl
  | 5, _, _ => by kernel_rfl
  | _ + 6, h, _ => absurd h (by omega)
def lkTo (pbs : Nat → Nat) (k : Nat) : Nat → Value := fun t => if t < k then .pointer (some ⟨pbs t, 0, none⟩) else .pointer none
theorem lkTo_succ (pbs : Nat → Nat) (k : Nat) : upd (lkTo pbs k) k (.pointer (some ⟨pbs k, 0, none⟩)) = lkTo pbs (k + 1) := by
  funext t
  unfold upd lkTo
  by_cases e : t = k
  · subst e; simp
  · rw [if_neg e]
    by_cases h : t < k
    · rw [if_pos h, if_pos (by omega)]
    · rw [if_neg h, if_neg (by omega)]
theorem lkTo_upd (pbs : Nat → Nat) (k b : Nat) : upd (lkTo pbs k) k (.pointer (some ⟨b, 0, none⟩)) = lkTo (upd pbs k b) (k + 1) := by
  funext t
  unfold upd lkTo
  by_cases e : t = k
  · subst e; simp
  · rw [if_neg e]
    by_cases h : t < k
    · rw [if_pos h, if_pos (by omega)]; simp only [if_neg e]
    · rw [if_neg h, if_neg (by omega)]
theorem lkTo_6 (pbs : Nat → Nat) : lkTo pbs 6 = lk pbs := rfl
theorem xs0_lit : encX (fun _ => .pointer none) xs0 = Tryd.zeroCells132 := by kernel_rfl
attribute [local go_sem] xg_t0 xs_t0
set_option maxRecDepth 100000 in
set_option maxHeartbeats 4000000 in
theorem newX_any (pbs : Nat → Nat) (w : World) :
    Calls Tryd.prog 30 #[pagg pbs] w fun e w' => e = .returned (.pointer (some ⟨w.heap.size + 1, 0, none⟩)) ∧ Blk w' (w.heap.size + 1) (encX (lk pbs) xs0) 132 ∧ Below w.heap.size w w' := by
  unfold pagg
  go_enter Tryd.func30, Tryd.ntmps30
  go_wp2_with fail
  have hx0 : encX (lkTo pbs 0) xs0 = encX (fun _ => .pointer none) xs0 := by congr 1
  rw [← xs0_lit, ← hx0]
  have hB : Blk ((w.alloc (.cells #[.pointer (some ⟨pbs 0, 0, none⟩), .pointer (some ⟨pbs 1, 0, none⟩), .pointer (some ⟨pbs 2, 0, none⟩), .pointer (some ⟨pbs 3, 0, none⟩), .pointer (some ⟨pbs 4, 0, none⟩), .pointer (some ⟨pbs 5, 0, none⟩)] 47)).alloc (.cells (encX (lkTo pbs 0) xs0) 132)) (w.heap.size + 1) (encX (lkTo pbs 0) xs0) 132 := by
    have := Blk.new (w.alloc (.cells #[.pointer (some ⟨pbs 0, 0, none⟩), .pointer (some ⟨pbs 1, 0, none⟩), .pointer (some ⟨pbs 2, 0, none⟩), .pointer (some ⟨pbs 3, 0, none⟩), .pointer (some ⟨pbs 4, 0, none⟩), .pointer (some ⟨pbs 5, 0, none⟩)] 47)) (encX (lkTo pbs 0) xs0) 132
    simp at this
    exact this
  go_loopw [9] (fun i w' => ∃ (k : Nat), k ≤ 6 ∧ i = .int .i64 k ∧ Blk w' (w.heap.size + 1) (encX (lkTo pbs k) xs0) 132 ∧ Below w.heap.size w w') (fun i _ => 6 - (intOf i).toNat)
  case atStart => exact ⟨0, by omega, rfl, hB, ((Below.refl _ _).alloc (Nat.le_refl _) _).alloc (by simp) _⟩
  case round =>
    clear hB hx0
    obtain ⟨k, hk, rfl, hB, hb⟩ := hrel
    obtain ⟨w0, rfl, hl0⟩ := hB.out
    have HB := hid_of hb
    clear hb hB
    by_cases hk6 : k < 6
    · have hk7 : k < 7 := by omega
      have hix := index_pagg pbs k hk6
      have hls := hid_of (lkTo_succ pbs k)
      go_wp2_with fail
      go_roundw
      case rel =>
        refine ⟨k + 1, by omega, by go_num, ?_, ?_⟩
        · rw [← hls.out]; exact Blk.put_same hl0
        · rw [← put_put w0 (w.heap.size + 1) (encX (lkTo pbs k) xs0) _ 132 132]; exact Below.put HB.out (Nat.le_succ _) _ _
      case measure => simp [intOf]; omega
    · obtain rfl : k = 6 := by omega
      go_wp2_with fail
      go_ret
      exact ⟨by simp, Blk.put_same hl0, HB.out⟩
/-! ### newRig -/
def encG (xv : Value) (L : Nat → Value) : Array Value := row 7 fun i => if i = 0 then xv else L (i - 1)
theorem gg_0 (xv : Value) (L : Nat → Value) : (encG xv L)[0]? = some xv := row_get _ _ _ (by decide)
theorem gg_s (xv : Value) (L : Nat → Value) (s : Nat) (hs : s < 6) : (encG xv L)[1 + s]? = some (L s) := by
  unfold encG; rw [row_get _ _ _ (by omega), if_neg (by omega)]; congr 2; omega
theorem gs_0 (xv : Value) (L : Nat → Value) (v : Value) : (encG xv L).setIfInBounds 0 v = encG v L := by
  refine row_set _ _ _ _ _ fun i hi => ?_
  by_cases e : i = 0
  · simp [e]
  · simp [e]
theorem gs_s (xv : Value) (L : Nat → Value) (s : Nat) (v : Value) : (encG xv L).setIfInBounds (1 + s) v = encG xv (upd L s v) := by
  refine row_set _ _ _ _ _ fun i hi => ?_
  by_cases e : i = 0
  · subst e; rw [if_pos rfl, if_neg (by omega), if_pos rfl]
  · rw [if_neg e, if_neg e]
    by_cases e2 : i = 1 + s
    · subst e2; rw [if_pos rfl]; simp [upd]
    · rw [if_neg e2]; unfold upd; rw [if_neg (by omega)]
theorem encG_lit (xv : Value) (L : Nat → Value) : encG xv L = #[xv, L 0, L 1, L 2, L 3, L 4, L 5] := rfl
theorem encG_zero (pbs : Nat → Nat) : encG (.pointer none) (lkTo pbs 0) = #[.pointer none, .pointer none, .pointer none, .pointer none, .pointer none, .pointer none, .pointer none] := rfl
structure RRep (own : Nat → Nat) (w : World) (rg xb : Nat) (pbs : Nat → Nat) (σ : SS) : Prop where
  blk : Blk w rg (encG (.pointer (some ⟨xb, 0, none⟩)) (lk pbs)) 49
  org : own rg = 7
  x : XRep own w xb pbs σ
theorem RRep.ext {own own' : Nat → Nat} {S : Nat → Prop} {w w' : World} {rg xb : Nat} {pbs : Nat → Nat} {σ : SS} (h : RRep own w rg xb pbs σ) (hx : Ext own own' S w w') (hs : ∀ k, k ≤ 7 → ¬ S k) : RRep own' w' rg xb pbs σ :=
  ⟨h.blk.ext hx (by rw [h.org]; exact hs 7 (by omega)), (hx.keep rg h.blk.lt).trans h.org, h.x.ext hx (fun k hk => hs k (by omega))⟩
def ss0 : SS := ⟨xs0, fun _ => port0⟩
attribute [local go_sem] gg_0 gg_s gs_0 gs_s
set_option maxRecDepth 100000 in
set_option maxHeartbeats 4000000 in
theorem newRig_any (own : Nat → Nat) (w : World) :
    Calls Tryd.prog 12 #[] w fun e w' => e = .returned (.pointer (some ⟨w.heap.size, 0, none⟩)) ∧ ∃ own' xb pbs, RRep own' w' w.heap.size xb pbs ss0 ∧ Ext own own' (fun _ => False) w w' := by
  go_enter Tryd.func12, Tryd.ntmps12
  go_wp2_with fail
  rw [← encG_zero (fun _ => 0)]
  have hB0 : Blk (w.alloc (.cells (encG (.pointer none) (lkTo (fun _ => 0) 0)) 49)) w.heap.size (encG (.pointer none) (lkTo (fun _ => 0) 0)) 49 := Blk.new w _ 49
  have hx0 := Ext.alloc own (fun _ => False) w (.cells (encG (.pointer none) (lkTo (fun _ => 0) 0)) 49) 7
  go_loopw [5] (fun i w' => ∃ (k : Nat) (pbs : Nat → Nat) (own' : Nat → Nat), k ≤ 6 ∧ i = .int .i64 k ∧ Blk w' w.heap.size (encG (.pointer none) (lkTo pbs k)) 49 ∧ own' w.heap.size = 7 ∧ (∀ s, s < k → PR own' s w' (pbs s) port0) ∧ Ext own own' (fun _ => False) w w') (fun i _ => 6 - (intOf i).toNat)
  case atStart => exact ⟨0, fun _ => 0, _, by omega, rfl, hB0, mark_ge (Nat.le_refl _), fun s hs => absurd hs (by omega), hx0⟩
  case round =>
    clear hB0 hx0
    obtain ⟨k, pbs, own1, hk, rfl, hB, ho, hp, hx⟩ := hrel
    have HP := hid_of hp
    have HX := hid_of hx
    clear hp hx
    obtain ⟨w0, rfl, hl0⟩ := hB.out
    clear hB
    by_cases hk6 : k < 6
    · go_wp2_with fail
      refine wp_region_float [0, 1, 3, 4] [2, 5, 6] [0, 1, 3, 4] mixed (fun _ => True) (by kernel_rfl) rfl (by kernel_rfl) trivial ?_
      iterate 4 refine wpFl_op _ _ _ _ rfl rfl (fun ω hj => by (go_simp; rfl)) ?_
      refine wpFl_nil _ _ ?_
      simp only [Act.put, List.setIfInBounds_toArray]
      refine wpCh_rest _ _ _ _ [_, _, _] _ _ rfl (by kernel_rfl) ?_
      simp only [List.getElem_toArray, List.getElem_cons_succ, List.getElem_cons_zero]
      go_wp2_with fail
      refine (newPort_any own1 k _).mono ?_
      rintro e w2 ⟨rfl, hpr, hx2⟩
      have hxr : Ext own1 own1 (fun _ => False) (put w0 w.heap.size (encG (.pointer none) (lkTo pbs k)) 49) (put w0 w.heap.size (encG (.pointer none) (lkTo pbs k)) 49).drew := Ext.drew (Ext.refl _ _ _)
      have hx3 := hxr.trans hx2
      have hrl : w.heap.size < (put w0 w.heap.size (encG (.pointer none) (lkTo pbs k)) 49).heap.size := by rw [put_size]; exact hl0
      have hB2 : Blk w2 w.heap.size (encG (.pointer none) (lkTo pbs k)) 49 := (Blk.put_same hl0).ext hx3 (fun h => h)
      obtain ⟨b, hb⟩ : ∃ b, (put w0 w.heap.size (encG (.pointer none) (lkTo pbs k)) 49).drew.heap.size + 1 = b := ⟨_, rfl⟩
      rw [hb] at hpr ⊢
      obtain ⟨own2, ho2⟩ : ∃ own2, mark own1 (put w0 w.heap.size (encG (.pointer none) (lkTo pbs k)) 49).drew.heap.size k = own2 := ⟨_, rfl⟩
      rw [ho2] at hpr hx3
      have hor : own2 w.heap.size = 7 := (hx3.keep _ hrl).trans ho
      have HPR := hid_of hpr
      have HX3 := hid_of hx3
      have HLU := hid_of (lkTo_upd pbs k b)
      obtain ⟨w3, rfl, hl3⟩ := hB2.out
      clear hb ho2 hpr hx3 hx2 hxr hB2 hrl
      go_wp2_with fail
      go_roundw
      case rel =>
        have hpx : Ext own2 own2 (· = 7) (put w3 w.heap.size (encG (.pointer none) (lkTo pbs k)) 49) (put w3 w.heap.size (encG (.pointer none) (upd (lkTo pbs k) k (.pointer (some ⟨b, 0, none⟩)))) 49) := ext_put' hor
        refine ⟨k + 1, upd pbs k b, own2, by omega, by go_num, ?_, hor, fun s hs => ?_, ?_⟩
        · rw [← HLU.out]; exact Blk.put_same hl3
        · by_cases e : s = k
          · subst e; rw [upd_same]; exact HPR.out.ext hpx (by omega)
          · rw [upd_ne _ _ _ _ e]; exact ((HP.out s (by omega)).ext HX3.out (fun h => h)).ext hpx (by omega)
        · have h9 := HX.out.trans HX3.out
          rw [← put_put w3 w.heap.size (encG (.pointer none) (lkTo pbs k)) _ 49 49]
          exact h9.shut (Below.put (Below.refl _ _) (Nat.le_refl _) _ _)
      case measure => simp [intOf]; omega
    · obtain rfl : k = 6 := by omega
      rw [lkTo_6]
      have e6 : ∀ v, encG v (lk pbs) = encG v (lkTo pbs 6) := fun v => rfl
      have hB3 : Blk (put w0 w.heap.size (encG (.pointer none) (lk pbs)) 49) w.heap.size (encG (.pointer none) (lk pbs)) 49 := Blk.put_same hl0
      rw [lkTo_6] at HP HX
      generalize hW : put w0 w.heap.size (encG (.pointer none) (lk pbs)) 49 = W at *
      clear hW
      have hl1 : (encG (.pointer none) (lk pbs)) = #[.pointer none, .pointer (some ⟨pbs 0, 0, none⟩), .pointer (some ⟨pbs 1, 0, none⟩), .pointer (some ⟨pbs 2, 0, none⟩), .pointer (some ⟨pbs 3, 0, none⟩), .pointer (some ⟨pbs 4, 0, none⟩), .pointer (some ⟨pbs 5, 0, none⟩)] := rfl
      rw [hl1] at hB3
      obtain ⟨w4, rfl, hl4⟩ := hB3.out
      clear hl1 hB3
      go_wp2_with fail
      refine (newX_any pbs _).mono ?_
      rintro e w5 ⟨rfl, hxB, hb5⟩
      rw [← show (encG (.pointer none) (lk pbs)) = #[.pointer none, .pointer (some ⟨pbs 0, 0, none⟩), .pointer (some ⟨pbs 1, 0, none⟩), .pointer (some ⟨pbs 2, 0, none⟩), .pointer (some ⟨pbs 3, 0, none⟩), .pointer (some ⟨pbs 4, 0, none⟩), .pointer (some ⟨pbs 5, 0, none⟩)] from rfl] at *
      obtain ⟨xb, hxb⟩ : ∃ xb, (put w4 w.heap.size (encG (.pointer none) (lk pbs)) 49).heap.size + 1 = xb := ⟨_, rfl⟩
      rw [hxb] at hxB ⊢
      have hlx : (put w4 w.heap.size (encG (.pointer none) (lk pbs)) 49).heap.size ≤ xb := by omega
      have hrl : w.heap.size < (put w4 w.heap.size (encG (.pointer none) (lk pbs)) 49).heap.size := by rw [put_size]; exact hl4
      have hx3 : Ext own1 (mark own1 (put w4 w.heap.size (encG (.pointer none) (lk pbs)) 49).heap.size 6) (fun _ => False) (put w4 w.heap.size (encG (.pointer none) (lk pbs)) 49) w5 := Ext.of_below_mark 6 hb5
      have hox : mark own1 (put w4 w.heap.size (encG (.pointer none) (lk pbs)) 49).heap.size 6 xb = 6 := mark_ge hlx
      generalize mark own1 (put w4 w.heap.size (encG (.pointer none) (lk pbs)) 49).heap.size 6 = own3 at *
      have hB5 : Blk w5 w.heap.size (encG (.pointer none) (lk pbs)) 49 := (Blk.put_same hl4).ext hx3 (fun h => h)
      have hor3 : own3 w.heap.size = 7 := (hx3.keep _ hrl).trans ho
      have hnx : xb ≠ w.heap.size := by omega
      have HX3 := hid_of hx3
      have HXB := hid_of hxB
      obtain ⟨w6, rfl, hl6⟩ := hB5.out
      clear hxb hx3 hxB hB5 hb5 hlx
      go_wp2_with fail
      go_ret
      have hpx : Ext own3 own3 (· = 7) (put w6 w.heap.size (encG (.pointer none) (lk pbs)) 49) (put w6 w.heap.size (encG (.pointer (some ⟨xb, 0, none⟩)) (lk pbs)) 49) := ext_put' hor3
      refine ⟨rfl, own3, xb, pbs, ⟨Blk.put_same hl6, hor3, ⟨?_, hox, fun s hs => ?_⟩⟩, ?_⟩
      · exact HXB.out.ext hpx (by rw [hox]; omega)
      · exact ((HP.out s hs).ext HX3.out (fun h => h)).ext hpx (by omega)
      · have h9 := HX.out.trans HX3.out
        rw [← put_put w6 w.heap.size (encG (.pointer none) (lk pbs)) _ 49 49]
        exact h9.shut (Below.put (Below.refl _ _) (Nat.le_refl _) _ _)
end Go.Proofs.Qxb6500750aDoor
