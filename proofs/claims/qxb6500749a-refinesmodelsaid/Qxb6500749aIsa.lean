import Derived.Test.Qxb6500749aIss
namespace Go.Proofs.Qxb6500749a
open Go.RowKit
attribute [local go_sem] put_size put_cell_same put_cell_ne put_frozen_same put_frozen_ne put_setCell_same put_setCell_ne put_drew
attribute [local go_sem] drewN_setCell drewN_alloc drewN_put
/-! ### A request taken -/
def issF (U : BusD) (rw : Bool) (ad da : Int) : BusD :=
  if U.busy = true then U else ⟨if mapF ad = true ∧ rw = true then (fun x => if x = ad then da else U.m x) else U.m, U.lat.tail, U.log ++ [⟨rw, ad, da, !mapF ad, if mapF ad = true ∧ rw = false then U.m ad else 0⟩], true, 1 + U.lat.headD 0⟩
def BusPost (w : World) (ub mb : Nat) (lv gv : Value) (U' : BusD) (w' : World) : Prop :=
  ∃ lv' gv', UB w' ub mb lv' gv' U' ∧ Fr (KI ub mb gv) w w' ∧ (∀ k, lv'.ownBlock = some k → lv.ownBlock = some k) ∧ (∀ k, gv'.ownBlock = some k → gv.ownBlock = some k ∨ w.heap.size ≤ k)
set_option maxRecDepth 100000 in
theorem iss_busy (ub mb : Nat) (lv gv : Value) (U : BusD) (hb : U.busy = true) (rw : Bool) (ad da : Int) (w : World) (h : UB w ub mb lv gv U) :
    Calls Try.prog 66 #[.pointer (some ⟨ub, 0, none⟩), .agg #[.bool rw, .int .u32 ad, .int .u32 da]] w fun e w' => e = .returned (.bool false) ∧ Below w.heap.size w w' := by
  have c3 : w.cell? ⟨ub, 3, none⟩ = some (.bool true) := by have := h.blk.cell 3; rw [hb] at this; exact this
  have c3' := ca1 w (.cells #[.bool rw, .int .u32 ad, .int .u32 da] 64) _ _ c3
  obtain ⟨W, hW⟩ : ∃ W, w.alloc (.cells #[.bool rw, .int .u32 ad, .int .u32 da] 64) = W := ⟨_, rfl⟩
  have HB : Hid (Below w.heap.size w W) := by rw [← hW]; exact (Below.refl _ _).alloc (Nat.le_refl _) _
  rw [hW] at c3'
  clear h c3
  go_enter Try.func66, Try.ntmps66
  go_wp2_with fail
  go_ret
  exact ⟨rfl, HB.out⟩
theorem issue_any (ub mb : Nat) (lv gv : Value) (U : BusD) (hok : U.Ok) (rw : Bool) (ad da : Int) (had : W32 ad) (w : World) (h : UB w ub mb lv gv U) :
    Calls Try.prog 66 #[.pointer (some ⟨ub, 0, none⟩), .agg #[.bool rw, .int .u32 ad, .int .u32 da]] w fun e w' => e = .returned (.bool (!U.busy)) ∧ BusPost w ub mb lv gv (issF U rw ad da) w' := by
  cases hb : U.busy
  · obtain ⟨m, lat, log, busy, left⟩ := U
    simp only at hb
    subst hb
    cases hm : mapF ad
    · cases lat with
      | nil =>
        refine (iss_n0 ub mb lv gv m log left rw ad da had hm w h hok).mono ?_
        rintro e w' ⟨rfl, hp⟩
        refine ⟨rfl, ?_⟩
        unfold BusPost issF
        simp only [hm]
        simpa using hp
      | cons l0 lat =>
        refine (iss_n1 ub mb lv gv m l0 lat log left rw ad da had hm w h hok).mono ?_
        rintro e w' ⟨rfl, hp⟩
        refine ⟨rfl, ?_⟩
        unfold BusPost issF
        simp only [hm]
        simpa using hp
    · cases rw
      · cases lat with
        | nil =>
          refine (iss_r0 ub mb lv gv m log left ad da had hm w h hok).mono ?_
          rintro e w' ⟨rfl, hp⟩
          refine ⟨rfl, ?_⟩
          unfold BusPost issF
          simp only [hm]
          simpa using hp
        | cons l0 lat =>
          refine (iss_r1 ub mb lv gv m l0 lat log left ad da had hm w h hok).mono ?_
          rintro e w' ⟨rfl, hp⟩
          refine ⟨rfl, ?_⟩
          unfold BusPost issF
          simp only [hm]
          simpa using hp
      · cases lat with
        | nil =>
          refine (iss_w0 ub mb lv gv m log left ad da had hm w h hok).mono ?_
          rintro e w' ⟨rfl, hp⟩
          refine ⟨rfl, ?_⟩
          unfold BusPost issF
          simp only [hm]
          simpa using hp
        | cons l0 lat =>
          refine (iss_w1 ub mb lv gv m l0 lat log left ad da had hm w h hok).mono ?_
          rintro e w' ⟨rfl, hp⟩
          refine ⟨rfl, ?_⟩
          unfold BusPost issF
          simp only [hm]
          simpa using hp
  · refine (iss_busy ub mb lv gv U hb rw ad da w h).mono ?_
    rintro e w' ⟨rfl, hp⟩
    refine ⟨rfl, lv, gv, ?_, Fr.of_below hp, fun _ h => h, fun _ h => .inl h⟩
    unfold issF
    rw [if_pos hb]
    exact h.below hp
end Go.Proofs.Qxb6500749a
