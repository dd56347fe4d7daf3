import Derived.Test.Qxb6500749aIpr
namespace Go.Proofs.Qxb6500749a
open Go.RowKit
attribute [local go_sem] put_size put_cell_same put_cell_ne put_frozen_same put_frozen_ne put_setCell_same put_setCell_ne put_drew
attribute [local go_sem] drewN_setCell drewN_alloc drewN_put
/-! ### slices.Equal over reports and over transfers -/
theorem eq51 (r : REP) (w : World) : (Op.equalIn 10000 51 (.agg #[.int .u32 r.raw.c, .int .u32 r.raw.a, .int .u32 r.raw.d, .int .u32 r.del.c, .int .u32 r.del.a, .int .u32 r.del.d, .int .u32 r.sha.c, .int .u32 r.sha.a, .int .u32 r.sha.d, .bool r.fa, .bool r.fb, .bool r.al, .bool r.gr]) (.agg #[.int .u32 r.raw.c, .int .u32 r.raw.a, .int .u32 r.raw.d, .int .u32 r.del.c, .int .u32 r.del.a, .int .u32 r.del.d, .int .u32 r.sha.c, .int .u32 r.sha.a, .int .u32 r.sha.d, .bool r.fa, .bool r.fb, .bool r.al, .bool r.gr])).run Try.prog w = .ok true w := by
  rw [show (10000 : Nat) = 9999 + 1 from rfl, run_equalIn_struct _ 9999 51 _ _ (by kernel_rfl) (by kernel_rfl)]
  simp [Op.eqFields, go_sem]
def fr29 (v1 v2 : Value) (n j : Nat) (u : Nat → Value) : Act :=
  { tmps := (v1 :: v2 :: (u 2) :: (u 3) :: (u 4) :: (u 5) :: (u 6) :: (u 7) :: (u 8) :: (u 9) :: (u 10) :: (u 11) :: (.int .i64 (n : Nat)) :: (.int .i64 (j : Nat)) :: (u 14) :: (u 15) :: (u 16) :: (u 17) :: (u 18) :: (u 19) :: (u 20) :: (u 21) :: (u 22) :: (u 23) :: (u 24) :: (u 25) :: [] : List Value).toArray, defers := [] }
set_option maxRecDepth 100000 in
set_option maxHeartbeats 4000000 in
theorem eqRep_yes (v1 v2 : Value) (l : List REP) (w : World) (h1 : Sl w v1 51 13 l.length (l.flatMap reprow)) (h2 : Sl w v2 51 13 l.length (l.flatMap reprow)) (hn : l.length < 1000000000000) :
    Calls Try.prog 29 #[v1, v2] w fun e w' => e = .returned (.bool true) ∧ ∃ q, w' = w.drewN q := by
  obtain ⟨a1, c1, e1⟩ := h1.form'
  obtain ⟨a2, c2, e2⟩ := h2.form'
  obtain ⟨n, hnn⟩ : ∃ n, l.length = n := ⟨_, rfl⟩
  rw [hnn] at h1 h2 e1 e2 hn
  subst e1; subst e2
  have H1 := hid_of h1
  have H2 := hid_of h2
  have HN := hid_of hnn
  clear h1 h2 hnn
  go_enter Try.func29, Try.ntmps29
  go_wp2_with fail
  refine q_of (Q := fun a => (Code.loop _).wp Try.prog _ a _) (F := fr29 (.slice a1 n c1) (.slice a2 n c2) n 0) (fun u0 => ?_) _ (by kernel_rfl)
  refine wp_loop (fun act wr => ∃ (u : Nat → Value) (j q : Nat), act = fr29 (.slice a1 n c1) (.slice a2 n c2) n j u ∧ j ≤ n ∧ wr = w.drewN q) (fun act _ => n - (intOf (act.tmps.getD 13 undef)).toNat) ⟨u0, 0, 0, rfl, Nat.zero_le _, rfl⟩ ?_
  rintro act wr ⟨u, j, q, rfl, hj, rfl⟩
  obtain ⟨KR, hKR⟩ : ∃ KR : Act → World → Prop, KR = fun a' w' => ((fun act wr => ∃ (u : Nat → Value) (j q : Nat), act = fr29 (.slice a1 n c1) (.slice a2 n c2) n j u ∧ j ≤ n ∧ wr = w.drewN q) a' w' ∧ n - (intOf (a'.tmps.getD 13 undef)).toNat < n - (intOf ((fr29 (.slice a1 n c1) (.slice a2 n c2) n j u).tmps.getD 13 undef)).toNat) := ⟨_, rfl⟩
  have HKR : Hid (∀ (act : Act) (q' : Nat), act = fr29 (.slice a1 n c1) (.slice a2 n c2) n (j + 1) (fun i => act.tmps.getD i undef) → j < n → KR act (w.drewN q')) := fun act q' e hjl => by
    rw [hKR]
    refine ⟨⟨_, j + 1, q', e, hjl, rfl⟩, ?_⟩
    have e1 : act.tmps.getD 13 undef = .int .i64 ((j + 1 : Nat) : Int) := by rw [e]; rfl
    have e2 : (fr29 (.slice a1 n c1) (.slice a2 n c2) n j u).tmps.getD 13 undef = .int .i64 ((j : Nat) : Int) := rfl
    simp only [e1, e2, intOf]
    omega
  rw [← hKR]
  clear hKR
  have hadd : IntKind.i64.wrap (((j : Nat) : Int) + 1) = (j : Nat) + 1 := by simp [IntKind.wrap, IntKind.bits, IntKind.signed]; omega
  by_cases hjn : j < n
  · have hji : ((j : Nat) : Int) < (n : Nat) := by omega
    obtain ⟨b1, o1, c1', e1, _, hl1⟩ := H1.out.form (by omega)
    obtain ⟨b2, o2, c2', e2, _, hl2⟩ := H2.out.form (by omega)
    injection e1 with e1 _ e3
    injection e2 with e2 _ e4
    subst e1; subst e2; subst e3; subst e4
    obtain ⟨r, hr⟩ : ∃ r, l[j]? = some r := ⟨_, List.getElem?_eq_getElem (by rw [HN.out]; exact hjn)⟩
    have p := fun i hi => Sl.rowc (f := reprow) (m := 13) (fun _ => rfl) H1.out rfl hr i hi
    have q := fun i hi => Sl.rowc (f := reprow) (m := 13) (fun _ => rfl) H2.out rfl hr i hi
    have p0 : w.cell? ⟨b1, o1 + j * 13, none⟩ = some (.int .u32 r.raw.c) := p 0 (by decide)
    have q0 : w.cell? ⟨b2, o2 + j * 13, none⟩ = some (.int .u32 r.raw.c) := q 0 (by decide)
    have p1 : w.cell? ⟨b1, o1 + j * 13 + 1, none⟩ = some (.int .u32 r.raw.a) := p 1 (by decide)
    have q1 : w.cell? ⟨b2, o2 + j * 13 + 1, none⟩ = some (.int .u32 r.raw.a) := q 1 (by decide)
    have p2 : w.cell? ⟨b1, o1 + j * 13 + 2, none⟩ = some (.int .u32 r.raw.d) := p 2 (by decide)
    have q2 : w.cell? ⟨b2, o2 + j * 13 + 2, none⟩ = some (.int .u32 r.raw.d) := q 2 (by decide)
    have p3 : w.cell? ⟨b1, o1 + j * 13 + 3, none⟩ = some (.int .u32 r.del.c) := p 3 (by decide)
    have q3 : w.cell? ⟨b2, o2 + j * 13 + 3, none⟩ = some (.int .u32 r.del.c) := q 3 (by decide)
    have p4 : w.cell? ⟨b1, o1 + j * 13 + 4, none⟩ = some (.int .u32 r.del.a) := p 4 (by decide)
    have q4 : w.cell? ⟨b2, o2 + j * 13 + 4, none⟩ = some (.int .u32 r.del.a) := q 4 (by decide)
    have p5 : w.cell? ⟨b1, o1 + j * 13 + 5, none⟩ = some (.int .u32 r.del.d) := p 5 (by decide)
    have q5 : w.cell? ⟨b2, o2 + j * 13 + 5, none⟩ = some (.int .u32 r.del.d) := q 5 (by decide)
    have p6 : w.cell? ⟨b1, o1 + j * 13 + 6, none⟩ = some (.int .u32 r.sha.c) := p 6 (by decide)
    have q6 : w.cell? ⟨b2, o2 + j * 13 + 6, none⟩ = some (.int .u32 r.sha.c) := q 6 (by decide)
    have p7 : w.cell? ⟨b1, o1 + j * 13 + 7, none⟩ = some (.int .u32 r.sha.a) := p 7 (by decide)
    have q7 : w.cell? ⟨b2, o2 + j * 13 + 7, none⟩ = some (.int .u32 r.sha.a) := q 7 (by decide)
    have p8 : w.cell? ⟨b1, o1 + j * 13 + 8, none⟩ = some (.int .u32 r.sha.d) := p 8 (by decide)
    have q8 : w.cell? ⟨b2, o2 + j * 13 + 8, none⟩ = some (.int .u32 r.sha.d) := q 8 (by decide)
    have p9 : w.cell? ⟨b1, o1 + j * 13 + 9, none⟩ = some (.bool r.fa) := p 9 (by decide)
    have q9 : w.cell? ⟨b2, o2 + j * 13 + 9, none⟩ = some (.bool r.fa) := q 9 (by decide)
    have p10 : w.cell? ⟨b1, o1 + j * 13 + 10, none⟩ = some (.bool r.fb) := p 10 (by decide)
    have q10 : w.cell? ⟨b2, o2 + j * 13 + 10, none⟩ = some (.bool r.fb) := q 10 (by decide)
    have p11 : w.cell? ⟨b1, o1 + j * 13 + 11, none⟩ = some (.bool r.al) := p 11 (by decide)
    have q11 : w.cell? ⟨b2, o2 + j * 13 + 11, none⟩ = some (.bool r.al) := q 11 (by decide)
    have p12 : w.cell? ⟨b1, o1 + j * 13 + 12, none⟩ = some (.bool r.gr) := p 12 (by decide)
    have q12 : w.cell? ⟨b2, o2 + j * 13 + 12, none⟩ = some (.bool r.gr) := q 12 (by decide)
    have hq := eq51 r
    clear hr H1 H2 p q
    unfold fr29
    go_wp2_with fail
    go_quiet (fail)
    go_wp2_with fail
    exact HKR.out _ _ (by kernel_rfl) hjn
  · have hji : ¬ ((j : Nat) : Int) < (n : Nat) := by omega
    clear H1 H2
    unfold fr29
    go_wp2_with fail
    go_ret
    exact ⟨rfl, q, rfl⟩
def fr28 (v1 v2 : Value) (n j : Nat) (u : Nat → Value) : Act :=
  { tmps := (v1 :: v2 :: (u 2) :: (u 3) :: (u 4) :: (u 5) :: (u 6) :: (u 7) :: (u 8) :: (u 9) :: (u 10) :: (u 11) :: (.int .i64 (n : Nat)) :: (.int .i64 (j : Nat)) :: (u 14) :: (u 15) :: (u 16) :: (u 17) :: (u 18) :: (u 19) :: (u 20) :: (u 21) :: (u 22) :: (u 23) :: (u 24) :: (u 25) :: [] : List Value).toArray, defers := [] }
set_option maxRecDepth 100000 in
set_option maxHeartbeats 4000000 in
theorem eqTr_yes (v1 v2 : Value) (l : List TR) (w : World) (h1 : Sl w v1 68 5 l.length (l.flatMap trow)) (h2 : Sl w v2 68 5 l.length (l.flatMap trow)) (hn : l.length < 1000000000000) :
    Calls Try.prog 28 #[v1, v2] w fun e w' => e = .returned (.bool true) ∧ ∃ q, w' = w.drewN q := by
  obtain ⟨a1, c1, e1⟩ := h1.form'
  obtain ⟨a2, c2, e2⟩ := h2.form'
  obtain ⟨n, hnn⟩ : ∃ n, l.length = n := ⟨_, rfl⟩
  rw [hnn] at h1 h2 e1 e2 hn
  subst e1; subst e2
  have H1 := hid_of h1
  have H2 := hid_of h2
  have HN := hid_of hnn
  clear h1 h2 hnn
  go_enter Try.func28, Try.ntmps28
  go_wp2_with fail
  refine q_of (Q := fun a => (Code.loop _).wp Try.prog _ a _) (F := fr28 (.slice a1 n c1) (.slice a2 n c2) n 0) (fun u0 => ?_) _ (by kernel_rfl)
  refine wp_loop (fun act wr => ∃ (u : Nat → Value) (j q : Nat), act = fr28 (.slice a1 n c1) (.slice a2 n c2) n j u ∧ j ≤ n ∧ wr = w.drewN q) (fun act _ => n - (intOf (act.tmps.getD 13 undef)).toNat) ⟨u0, 0, 0, rfl, Nat.zero_le _, rfl⟩ ?_
  rintro act wr ⟨u, j, q, rfl, hj, rfl⟩
  obtain ⟨KR, hKR⟩ : ∃ KR : Act → World → Prop, KR = fun a' w' => ((fun act wr => ∃ (u : Nat → Value) (j q : Nat), act = fr28 (.slice a1 n c1) (.slice a2 n c2) n j u ∧ j ≤ n ∧ wr = w.drewN q) a' w' ∧ n - (intOf (a'.tmps.getD 13 undef)).toNat < n - (intOf ((fr28 (.slice a1 n c1) (.slice a2 n c2) n j u).tmps.getD 13 undef)).toNat) := ⟨_, rfl⟩
  have HKR : Hid (∀ (act : Act) (q' : Nat), act = fr28 (.slice a1 n c1) (.slice a2 n c2) n (j + 1) (fun i => act.tmps.getD i undef) → j < n → KR act (w.drewN q')) := fun act q' e hjl => by
    rw [hKR]
    refine ⟨⟨_, j + 1, q', e, hjl, rfl⟩, ?_⟩
    have e1 : act.tmps.getD 13 undef = .int .i64 ((j + 1 : Nat) : Int) := by rw [e]; rfl
    have e2 : (fr28 (.slice a1 n c1) (.slice a2 n c2) n j u).tmps.getD 13 undef = .int .i64 ((j : Nat) : Int) := rfl
    simp only [e1, e2, intOf]
    omega
  rw [← hKR]
  clear hKR
  have hadd : IntKind.i64.wrap (((j : Nat) : Int) + 1) = (j : Nat) + 1 := by simp [IntKind.wrap, IntKind.bits, IntKind.signed]; omega
  by_cases hjn : j < n
  · have hji : ((j : Nat) : Int) < (n : Nat) := by omega
    obtain ⟨b1, o1, c1', e1, _, hl1⟩ := H1.out.form (by omega)
    obtain ⟨b2, o2, c2', e2, _, hl2⟩ := H2.out.form (by omega)
    injection e1 with e1 _ e3
    injection e2 with e2 _ e4
    subst e1; subst e2; subst e3; subst e4
    obtain ⟨r, hr⟩ : ∃ r, l[j]? = some r := ⟨_, List.getElem?_eq_getElem (by rw [HN.out]; exact hjn)⟩
    have p := fun i hi => Sl.rowc (f := trow) (m := 5) (fun _ => rfl) H1.out rfl hr i hi
    have q := fun i hi => Sl.rowc (f := trow) (m := 5) (fun _ => rfl) H2.out rfl hr i hi
    have p0 : w.cell? ⟨b1, o1 + j * 5, none⟩ = some (.bool r.w) := p 0 (by decide)
    have q0 : w.cell? ⟨b2, o2 + j * 5, none⟩ = some (.bool r.w) := q 0 (by decide)
    have p1 : w.cell? ⟨b1, o1 + j * 5 + 1, none⟩ = some (.int .u32 r.a) := p 1 (by decide)
    have q1 : w.cell? ⟨b2, o2 + j * 5 + 1, none⟩ = some (.int .u32 r.a) := q 1 (by decide)
    have p2 : w.cell? ⟨b1, o1 + j * 5 + 2, none⟩ = some (.int .u32 r.d) := p 2 (by decide)
    have q2 : w.cell? ⟨b2, o2 + j * 5 + 2, none⟩ = some (.int .u32 r.d) := q 2 (by decide)
    have p3 : w.cell? ⟨b1, o1 + j * 5 + 3, none⟩ = some (.bool r.e) := p 3 (by decide)
    have q3 : w.cell? ⟨b2, o2 + j * 5 + 3, none⟩ = some (.bool r.e) := q 3 (by decide)
    have p4 : w.cell? ⟨b1, o1 + j * 5 + 4, none⟩ = some (.int .u32 r.r) := p 4 (by decide)
    have q4 : w.cell? ⟨b2, o2 + j * 5 + 4, none⟩ = some (.int .u32 r.r) := q 4 (by decide)
    have hq := eq68 r
    clear hr H1 H2 p q
    unfold fr28
    go_wp2_with fail
    go_quiet (fail)
    go_wp2_with fail
    exact HKR.out _ _ (by kernel_rfl) hjn
  · have hji : ¬ ((j : Nat) : Int) < (n : Nat) := by omega
    clear H1 H2
    unfold fr28
    go_wp2_with fail
    go_ret
    exact ⟨rfl, q, rfl⟩
end Go.Proofs.Qxb6500749a
