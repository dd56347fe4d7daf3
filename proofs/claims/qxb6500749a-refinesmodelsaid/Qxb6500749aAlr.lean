import Derived.Test.Qxb6500749aLp3
import Derived.Test.Qxb6500749aSeq
namespace Go.Proofs.Qxb6500749a
open Go.RowKit
attribute [local go_sem] put_size put_cell_same put_cell_ne put_frozen_same put_frozen_ne put_setCell_same put_setCell_ne put_drew
attribute [local go_sem] drewN_setCell drewN_alloc drewN_put
/-! ### Whether an alarm was shown: slices.ContainsFunc over the reports -/
def fr40 (a : Option Addr) (n cap j : Nat) (u : Nat → Value) : Act :=
  { tmps := ((.slice a n cap) :: (.func (.func 18) #[] #[]) :: (u 2) :: (u 3) :: (u 4) :: (u 5) :: (u 6) :: (.int .i64 (n : Nat)) :: (.int .i64 (j : Nat)) :: (u 9) :: (u 10) :: (u 11) :: (u 12) :: (u 13) :: (u 14) :: (u 15) :: (u 16) :: (u 17) :: (u 18) :: [] : List Value).toArray, defers := [] }
set_option maxRecDepth 100000 in
theorem al_any (r : REP) (w : World) : Calls Try.prog 18 #[.agg #[.int .u32 r.raw.c, .int .u32 r.raw.a, .int .u32 r.raw.d, .int .u32 r.del.c, .int .u32 r.del.a, .int .u32 r.del.d, .int .u32 r.sha.c, .int .u32 r.sha.a, .int .u32 r.sha.d, .bool r.fa, .bool r.fb, .bool r.al, .bool r.gr]] w fun e w' => e = .returned (.bool r.al) ∧ Below w.heap.size w w' := by
  obtain ⟨W, hW⟩ : ∃ W, w.alloc (.cells #[.int .u32 r.raw.c, .int .u32 r.raw.a, .int .u32 r.raw.d, .int .u32 r.del.c, .int .u32 r.del.a, .int .u32 r.del.d, .int .u32 r.sha.c, .int .u32 r.sha.a, .int .u32 r.sha.d, .bool r.fa, .bool r.fb, .bool r.al, .bool r.gr] 51) = W := ⟨_, rfl⟩
  have HB : Hid (Below w.heap.size w W) := by rw [← hW]; exact (Below.refl _ _).alloc (Nat.le_refl _) _
  have q0 : W.cell? ⟨w.heap.size, 11, none⟩ = some (.bool r.al) := by rw [← hW]; exact (Blk.new w _ 51).cell 11
  go_enter Try.func18, Try.ntmps18
  go_upto_region 1 with fail
  clear hW
  go_wp2_with fail
  go_ret
  exact ⟨rfl, HB.out⟩
set_option maxRecDepth 100000 in
set_option maxHeartbeats 4000000 in
theorem index40 (a : Option Addr) (n cap : Nat) (rs : List REP) (hl : rs.length = n) (hn : n < 2000000000) (w : World) (hs : Sl w (.slice a n cap) 51 13 n (rs.flatMap reprow)) :
    Calls Try.prog 40 #[.slice a n cap, (.func (.func 18) #[] #[])] w fun e w' => ∃ x : Int, e = .returned (.int .i64 x) ∧ Below w.heap.size w w' ∧ ((x = -1 ∧ Na rs) ∨ (0 ≤ x ∧ ¬ Na rs)) := by
  have HS := hid_of hs
  have HN : Hid (rs.length = n ∧ n < 2000000000) := ⟨hl, hn⟩
  clear hs hn hl
  go_enter Try.func40, Try.ntmps40
  go_wp2_with fail
  refine q_of (Q := fun a => (Code.loop _).wp Try.prog _ a _) (F := fr40 a n cap 0) (fun u0 => ?_) _ (by kernel_rfl)
  refine wp_loop (fun act wr => ∃ (u : Nat → Value) (j : Nat), act = fr40 a n cap j u ∧ j ≤ n ∧ Hid (Below w.heap.size w wr ∧ ∀ k r, k < j → rs[k]? = some r → r.al = false)) (fun act _ => n - (intOf (act.tmps.getD 8 undef)).toNat) ⟨u0, 0, rfl, Nat.zero_le _, Below.refl _ _, fun k _ hk => absurd hk (by omega)⟩ ?_
  rintro act wr ⟨u, j, rfl, hj, HR⟩
  by_cases hjn : j < n
  · have hlt : ((j : Nat) : Int) < (n : Nat) := by omega
    have hadd : IntKind.i64.wrap (((j : Nat) : Int) + 1) = (j : Nat) + 1 := by have := HN.out.2; simp [IntKind.wrap, IntKind.bits, IntKind.signed]; omega
    obtain ⟨b1, o1, cq, eq1, _, hl1⟩ := HS.out.form (by omega)
    injection eq1 with eq1 _ eq3
    obtain ⟨r, hr⟩ : ∃ r, rs[j]? = some r := ⟨_, List.getElem?_eq_getElem (by rw [HN.out.1]; exact hjn)⟩
    subst eq1
    subst eq3
    have HPE : Hid (∀ i, i < 13 → wr.cell? ⟨b1, o1 + j * 13 + i, none⟩ = (reprow r)[i]?) := fun i hi => (HR.out.1.cell (p := ⟨b1, o1 + j * 13 + i, none⟩) hl1).trans (Sl.rowc (f := reprow) (m := 13) (fun _ => rfl) HS.out rfl hr i hi)
    have hrow : ∀ i, i < 13 → wr.cell? ⟨b1, o1 + j * 13 + i, none⟩ = (repV r)[i]? := fun i hi => by rw [HPE.out i hi]; unfold reprow; simp
    have HAL := hid_of (al_any r wr)
    have HRJ := hid_of hr
    have z0 : wr.cell? ⟨b1, o1 + j * 13, none⟩ = some (.int .u32 r.raw.c) := HPE.out 0 (by decide)
    have z1 : wr.cell? ⟨b1, o1 + j * 13 + 1, none⟩ = some (.int .u32 r.raw.a) := HPE.out 1 (by decide)
    have z2 : wr.cell? ⟨b1, o1 + j * 13 + 2, none⟩ = some (.int .u32 r.raw.d) := HPE.out 2 (by decide)
    have z3 : wr.cell? ⟨b1, o1 + j * 13 + 3, none⟩ = some (.int .u32 r.del.c) := HPE.out 3 (by decide)
    have z4 : wr.cell? ⟨b1, o1 + j * 13 + 4, none⟩ = some (.int .u32 r.del.a) := HPE.out 4 (by decide)
    have z5 : wr.cell? ⟨b1, o1 + j * 13 + 5, none⟩ = some (.int .u32 r.del.d) := HPE.out 5 (by decide)
    have z6 : wr.cell? ⟨b1, o1 + j * 13 + 6, none⟩ = some (.int .u32 r.sha.c) := HPE.out 6 (by decide)
    have z7 : wr.cell? ⟨b1, o1 + j * 13 + 7, none⟩ = some (.int .u32 r.sha.a) := HPE.out 7 (by decide)
    have z8 : wr.cell? ⟨b1, o1 + j * 13 + 8, none⟩ = some (.int .u32 r.sha.d) := HPE.out 8 (by decide)
    have z9 : wr.cell? ⟨b1, o1 + j * 13 + 9, none⟩ = some (.bool r.fa) := HPE.out 9 (by decide)
    have z10 : wr.cell? ⟨b1, o1 + j * 13 + 10, none⟩ = some (.bool r.fb) := HPE.out 10 (by decide)
    have z11 : wr.cell? ⟨b1, o1 + j * 13 + 11, none⟩ = some (.bool r.al) := HPE.out 11 (by decide)
    have z12 : wr.cell? ⟨b1, o1 + j * 13 + 12, none⟩ = some (.bool r.gr) := HPE.out 12 (by decide)
    obtain ⟨KR, hKR⟩ : ∃ KR : Act → World → Prop, KR = fun a' w' => ((fun act wr => ∃ (u : Nat → Value) (j : Nat), act = fr40 (some ⟨b1, o1, none⟩) n cap j u ∧ j ≤ n ∧ Hid (Below w.heap.size w wr ∧ ∀ k r, k < j → rs[k]? = some r → r.al = false)) a' w' ∧ n - (intOf (a'.tmps.getD 8 undef)).toNat < n - (intOf ((fr40 (some ⟨b1, o1, none⟩) n cap j u).tmps.getD 8 undef)).toNat) := ⟨_, rfl⟩
    have HKR : Hid (∀ (act : Act) (w' : World), act = fr40 (some ⟨b1, o1, none⟩) n cap (j + 1) (fun i => act.tmps.getD i undef) → Below wr.heap.size wr w' → r.al = false → KR act w') := fun act w' e h1 h2 => by
      rw [hKR]
      refine ⟨⟨_, j + 1, e, hjn, HR.out.1.trans (h1.mono HR.out.1.size), fun k x hk hx => ?_⟩, ?_⟩
      · by_cases q : k = j
        · rw [q, HRJ.out] at hx; injection hx with hx; rw [← hx]; exact h2
        · exact HR.out.2 k x (by omega) hx
      · have e1 : act.tmps.getD 8 undef = .int .i64 ((j + 1 : Nat) : Int) := by rw [e]; rfl
        have e2 : (fr40 (some ⟨b1, o1, none⟩) n cap j u).tmps.getD 8 undef = .int .i64 ((j : Nat) : Int) := rfl
        simp only [e1, e2, intOf]
        omega
    rw [← hKR]
    have HFIN : Hid (∀ w', r.al = true → Below wr.heap.size wr w' → ∃ x : Int, (.returned (.int .i64 ((j : Nat) : Int)) : Ending) = .returned (.int .i64 x) ∧ Below w.heap.size w w' ∧ ((x = -1 ∧ Na rs) ∨ (0 ≤ x ∧ ¬ Na rs))) := fun w' h0 h1 => ⟨_, rfl, HR.out.1.trans (h1.mono HR.out.1.size), .inr ⟨by omega, fun q => by have := q r (List.mem_of_getElem? HRJ.out); rw [h0] at this; cases this⟩⟩
    clear hKR hr hrow hl1
    unfold fr40
    go_upto_region 4 with fail
    refine wp_region_list ?_
    go_wp2_with fail
    refine HAL.out.mono ?_
    rintro e w2 ⟨rfl, hb2⟩
    have HB2 := hid_of hb2
    clear HAL hb2 z0 z1 z2 z3 z4 z5 z6 z7 z8 z9 z10 z11 z12
    cases hd : r.al
    · have HD := hid_of hd
      clear hd
      go_wp2_with fail
      exact HKR.out _ _ (by kernel_rfl) HB2.out HD.out
    · have HD := hid_of hd
      clear hd
      go_wp2_with fail
      go_ret
      exact HFIN.out _ HD.out HB2.out
  · have hlt : ¬ ((j : Nat) : Int) < (n : Nat) := by omega
    have HJ : Hid (j = n) := by unfold Hid; omega
    clear hj
    unfold fr40
    go_wp2_with fail
    go_ret
    refine ⟨-1, rfl, HR.out.1, .inl ⟨rfl, fun r hr => ?_⟩⟩
    obtain ⟨k, hk⟩ := List.getElem?_of_mem hr
    have hk2 : k < rs.length := by
      rcases Nat.lt_or_ge k rs.length with q | q
      · exact q
      · rw [List.getElem?_eq_none q] at hk; cases hk
    exact HR.out.2 k r (by rw [HJ.out, ← HN.out.1]; exact hk2) hk
set_option maxRecDepth 100000 in
theorem cont_any (a : Option Addr) (n cap : Nat) (rs : List REP) (hl : rs.length = n) (hn : n < 2000000000) (w : World) (hs : Sl w (.slice a n cap) 51 13 n (rs.flatMap reprow)) :
    Calls Try.prog 17 #[.slice a n cap, (.func (.func 18) #[] #[])] w fun e w' => ∃ z : Bool, e = .returned (.bool z) ∧ Below w.heap.size w w' ∧ (z = false → Na rs) := by
  have HI := hid_of (index40 a n cap rs hl hn w hs)
  clear hs hl hn
  go_enter Try.func17, Try.ntmps17
  go_wp2_with fail
  refine HI.out.mono ?_
  rintro e w2 ⟨x, rfl, hb2, hx⟩
  have HB2 := hid_of hb2
  clear HI hb2
  have HX := hid_of hx
  clear hx
  go_wp2_with fail
  go_ret
  refine ⟨decide (0 ≤ x), rfl, HB2.out, fun q => ?_⟩
  rcases HX.out with z | z
  · exact z.2
  · rw [decide_eq_true z.1] at q; cases q
end Go.Proofs.Qxb6500749a
