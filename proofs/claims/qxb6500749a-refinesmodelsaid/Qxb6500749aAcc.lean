import Derived.Test.Qxb6500749aDpp
namespace Go.Proofs.Qxb6500749a
open Go.RowKit
attribute [local go_sem] put_size put_cell_same put_cell_ne put_frozen_same put_frozen_ne put_setCell_same put_setCell_ne put_drew
attribute [local go_sem] drewN_setCell drewN_alloc drewN_put
/-! ### The model's memory: access -/
def accT (f : Int → Int) (rw : Bool) (a d : Int) : TR := ⟨rw, a, d, !mapF a, if mapF a = true ∧ rw = false then f a else 0⟩
def accM (f : Int → Int) (rw : Bool) (a d : Int) : Int → Int := if mapF a = true ∧ rw = true then (fun x => if x = a then d else f x) else f
set_option maxRecDepth 100000 in
theorem size68 : (Try.prog.info? 68).map (·.size) = some 5 := by kernel_rfl
structure AR (w w1 : World) (mb : Nat) (rw : Bool) (a d : Int) (f : Int → Int) (rv : Array Value) : Prop where
  fr : Fr (· = mb) w w1
  map : MapB w1 mb f
  hq : Blk w1 w.heap.size #[.bool rw, .int .u32 a, .int .u32 d] 64
  hr : Blk w1 (w.heap.size + 1) rv 68
  lm : mb < w.heap.size
theorem AR.ret {w w1 : World} {mb : Nat} {rw : Bool} {a d : Int} {f : Int → Int} {rv : Array Value} (h : AR w w1 mb rw a d f rv) (rv' : Array Value) : MapB (put w1 (w.heap.size + 1) rv' 68) mb f ∧ Fr (· = mb) w (put w1 (w.heap.size + 1) rv' 68) := by
  have hl := h.lm
  exact ⟨h.map.same (put_heap_ne _ _ _ _ _ (by omega)), h.fr.put (fun q => by omega) _ _⟩
theorem AR.upd {w w1 : World} {mb : Nat} {rw : Bool} {a d : Int} {f f' : Int → Int} {rv : Array Value} (h : AR w w1 mb rw a d f rv) (o : Obj) (hf : MapB (putO w1 mb o) mb f') : AR w (putO w1 mb o) mb rw a d f' rv :=
  ⟨h.fr.putO (fun _ => rfl) o, hf, (putO_ne _ _ _ _ (by have := h.lm; omega)).trans h.hq, (putO_ne _ _ _ _ (by have := h.lm; omega)).trans h.hr, h.lm⟩
theorem ar_start {w : World} {mb : Nat} {rw : Bool} {a d : Int} {f : Int → Int} (h : MapB w mb f) : AR w ((w.alloc (.cells #[.bool rw, .int .u32 a, .int .u32 d] 64)).alloc (.cells #[.bool false, .int .u32 0, .int .u32 0, .bool false, .int .u32 0] 68)) mb rw a d f #[.bool false, .int .u32 0, .int .u32 0, .bool false, .int .u32 0] := by
  have f1 : Fr (· = mb) w ((w.alloc (.cells #[.bool rw, .int .u32 a, .int .u32 d] 64)).alloc (.cells #[.bool false, .int .u32 0, .int .u32 0, .bool false, .int .u32 0] 68)) := ((Fr.refl _ _).alloc _).alloc _
  have hl := h.lt
  refine ⟨f1, h.same ((Below.heap_alloc _ _ _ (by simp; omega)).trans (Below.heap_alloc _ _ _ hl)), (Below.heap_alloc _ _ _ (by simp)).trans (Blk.new w _ 64), ?_, hl⟩
  have := Blk.new (w.alloc (.cells #[.bool rw, .int .u32 a, .int .u32 d] 64)) #[.bool false, .int .u32 0, .int .u32 0, .bool false, .int .u32 0] 68
  simpa using this
set_option maxRecDepth 100000 in
set_option maxHeartbeats 4000000 in
theorem access_any (mb : Nat) (f : Int → Int) (rw : Bool) (a d : Int) (ha : W32 a) (w : World) (h : MapB w mb f) :
    Calls Try.prog 39 #[.map (some mb), .agg #[.bool rw, .int .u32 a, .int .u32 d]] w fun e w' => e = .returned (.agg (trow (accT f rw a d)).toArray) ∧ MapB w' mb (accM f rw a d) ∧ Fr (· = mb) w w' := by
  have ht := tmod4 a ha.1
  have hr : (a % 4) % 4294967296 = a % 4 := by omega
  obtain ⟨W3, hW3⟩ : ∃ W3, (w.alloc (.cells #[.bool rw, .int .u32 a, .int .u32 d] 64)).alloc (.cells #[.bool false, .int .u32 0, .int .u32 0, .bool false, .int .u32 0] 68) = W3 := ⟨_, rfl⟩
  have hA : AR w W3 mb rw a d f #[.bool false, .int .u32 0, .int .u32 0, .bool false, .int .u32 0] := by rw [← hW3]; exact ar_start h
  have c0 : W3.cell? ⟨w.heap.size, 0, none⟩ = some (.bool rw) := hA.hq.cell 0
  have c1 : W3.cell? ⟨w.heap.size, 1, none⟩ = some (.int .u32 a) := hA.hq.cell 1
  have c2 : W3.cell? ⟨w.heap.size, 2, none⟩ = some (.int .u32 d) := hA.hq.cell 2
  have HA := hid_of hA
  clear hA h ha
  cases hm : mapF a
  · have e1 : accT f rw a d = ⟨rw, a, d, true, 0⟩ := by unfold accT; rw [hm]; simp
    have e2 : accM f rw a d = f := by unfold accM; rw [hm, if_neg (by simp)]
    rw [e1, e2]
    clear e1 e2
    have key : (a ≥ 4096) ∨ (¬ a ≥ 4096 ∧ (a % 4 == 0) = false) := by
      unfold mapF at hm
      by_cases q : a < 4096
      · right
        rw [decide_eq_true q] at hm
        exact ⟨by omega, by simpa using hm⟩
      · left; omega
    clear hm
    rcases key with q | ⟨q, q2⟩
    · go_enter Try.func39, Try.ntmps39
      go_upto_region 2 with fail
      clear hW3
      obtain ⟨w9, hw9, hl9⟩ := HA.out.hr.out
      have HFIN : Hid (MapB (put w9 (w.heap.size + 1) #[.bool rw, .int .u32 a, .int .u32 d, .bool true, .int .u32 0] 68) mb f ∧ Fr (· = mb) w (put w9 (w.heap.size + 1) #[.bool rw, .int .u32 a, .int .u32 d, .bool true, .int .u32 0] 68)) := by
        have := HA.out.ret #[.bool rw, .int .u32 a, .int .u32 d, .bool true, .int .u32 0]
        rw [hw9, put_put] at this
        exact this
      clear HA
      subst hw9
      go_wp2_with fail
      exact bodyPost_ret (v := .agg #[.bool rw, .int .u32 a, .int .u32 d, .bool true, .int .u32 0]) (results_cell_row (by rfl) _ _ (w.heap.size + 1) 68 _ (0, 0) _ (by rfl) (Blk.put_same hl9) Try.underlying68 rfl (by rw [size68]; rfl)) rfl ⟨rfl, HFIN.out⟩
    · go_enter Try.func39, Try.ntmps39
      go_upto_region 2 with fail
      clear hW3
      obtain ⟨w9, hw9, hl9⟩ := HA.out.hr.out
      have HFIN : Hid (MapB (put w9 (w.heap.size + 1) #[.bool rw, .int .u32 a, .int .u32 d, .bool true, .int .u32 0] 68) mb f ∧ Fr (· = mb) w (put w9 (w.heap.size + 1) #[.bool rw, .int .u32 a, .int .u32 d, .bool true, .int .u32 0] 68)) := by
        have := HA.out.ret #[.bool rw, .int .u32 a, .int .u32 d, .bool true, .int .u32 0]
        rw [hw9, put_put] at this
        exact this
      clear HA
      subst hw9
      go_wp2_with fail
      exact bodyPost_ret (v := .agg #[.bool rw, .int .u32 a, .int .u32 d, .bool true, .int .u32 0]) (results_cell_row (by rfl) _ _ (w.heap.size + 1) 68 _ (0, 0) _ (by rfl) (Blk.put_same hl9) Try.underlying68 rfl (by rw [size68]; rfl)) rfl ⟨rfl, HFIN.out⟩
  · have q : ¬ a ≥ 4096 := by unfold mapF at hm; simp at hm; omega
    have q2 : (a % 4 == 0) = true := by unfold mapF at hm; simp at hm; simpa using hm.2
    cases rw
    · have e1 : accT f false a d = ⟨false, a, d, false, f a⟩ := by unfold accT; rw [hm]; simp
      have e2 : accM f false a d = f := by unfold accM; rw [if_neg (by simp)]
      rw [e1, e2]
      have hlk := run_lookup_words (P := Try.prog) (t := 28) HA.out.map Try.underlying28 Try.underlying30 zero30 a
      clear e1 e2 hm
      go_enter Try.func39, Try.ntmps39
      go_upto_region 6 with fail
      clear hW3
      obtain ⟨w9, hw9, hl9⟩ := HA.out.hr.out
      have HFIN : Hid (MapB (put w9 (w.heap.size + 1) #[.bool false, .int .u32 a, .int .u32 d, .bool false, .int .u32 (f a)] 68) mb f ∧ Fr (· = mb) w (put w9 (w.heap.size + 1) #[.bool false, .int .u32 a, .int .u32 d, .bool false, .int .u32 (f a)] 68)) := by
        have := HA.out.ret #[.bool false, .int .u32 a, .int .u32 d, .bool false, .int .u32 (f a)]
        rw [hw9, put_put] at this
        exact this
      clear HA
      subst hw9
      go_wp2_with fail
      exact bodyPost_ret (v := .agg #[.bool false, .int .u32 a, .int .u32 d, .bool false, .int .u32 (f a)]) (results_cell_row (by rfl) _ _ (w.heap.size + 1) 68 _ (0, 0) _ (by rfl) (Blk.put_same hl9) Try.underlying68 rfl (by rw [size68]; rfl)) rfl ⟨rfl, HFIN.out⟩
    · have e1 : accT f true a d = ⟨true, a, d, false, 0⟩ := by unfold accT; rw [hm]; simp
      have e2 : accM f true a d = fun x => if x = a then d else f x := by unfold accM; rw [hm, if_pos (by simp)]
      rw [e1, e2]
      obtain ⟨es, ck, hup, hmb9⟩ := run_update_words (P := Try.prog) (t := 28) HA.out.map Try.underlying28 Try.underlying30 a d
      have HA2 : Hid (AR w (putO W3 mb (.map es ck)) mb true a d (fun x => if x = a then d else f x) #[.bool false, .int .u32 0, .int .u32 0, .bool false, .int .u32 0]) := HA.out.upd _ hmb9
      clear e1 e2 hm HA hmb9
      go_enter Try.func39, Try.ntmps39
      go_upto_region 4 with fail
      clear hW3
      go_upto_region 5 with fail
      clear hup c0 c1 c2
      obtain ⟨w2, hw2⟩ : ∃ w2, putO W3 mb (.map es ck) = w2 := ⟨_, rfl⟩
      rw [hw2] at HA2 ⊢
      clear hw2
      have d0 : w2.cell? ⟨w.heap.size, 0, none⟩ = some (.bool true) := HA2.out.hq.cell 0
      have d1 : w2.cell? ⟨w.heap.size, 1, none⟩ = some (.int .u32 a) := HA2.out.hq.cell 1
      have d2 : w2.cell? ⟨w.heap.size, 2, none⟩ = some (.int .u32 d) := HA2.out.hq.cell 2
      obtain ⟨w9, hw9, hl9⟩ := HA2.out.hr.out
      have HFIN : Hid (MapB (put w9 (w.heap.size + 1) #[.bool true, .int .u32 a, .int .u32 d, .bool false, .int .u32 0] 68) mb (fun x => if x = a then d else f x) ∧ Fr (· = mb) w (put w9 (w.heap.size + 1) #[.bool true, .int .u32 a, .int .u32 d, .bool false, .int .u32 0] 68)) := by
        have := HA2.out.ret #[.bool true, .int .u32 a, .int .u32 d, .bool false, .int .u32 0]
        rw [hw9, put_put] at this
        exact this
      clear HA2
      subst hw9
      go_wp2_with fail
      exact bodyPost_ret (v := .agg #[.bool true, .int .u32 a, .int .u32 d, .bool false, .int .u32 0]) (results_cell_row (by rfl) _ _ (w.heap.size + 1) 68 _ (0, 0) _ (by rfl) (Blk.put_same hl9) Try.underlying68 rfl (by rw [size68]; rfl)) rfl ⟨rfl, HFIN.out⟩
end Go.Proofs.Qxb6500749a
