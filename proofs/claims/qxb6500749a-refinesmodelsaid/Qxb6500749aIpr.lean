import Derived.Test.Qxb6500749aRl6
namespace Go.Proofs.Qxb6500749a
open Go.RowKit
attribute [local go_sem] put_size put_cell_same put_cell_ne put_frozen_same put_frozen_ne put_setCell_same put_setCell_ne put_drew
attribute [local go_sem] drewN_setCell drewN_alloc drewN_put
/-! ### Bundles and transfers compared -/
theorem eq49 (a b : BU) (w : World) : (Op.equalIn 10000 49 (.agg #[.int .u32 a.c, .int .u32 a.a, .int .u32 a.d]) (.agg #[.int .u32 b.c, .int .u32 b.a, .int .u32 b.d])).run Try.prog w = .ok (!neB a b) w := by
  rw [show (10000 : Nat) = 9999 + 1 from rfl, run_equalIn_struct _ 9999 49 _ _ (by kernel_rfl) (by kernel_rfl)]
  unfold neB
  cases h1 : (a.c == b.c) <;> cases h2 : (a.a == b.a) <;> cases h3 : (a.d == b.d) <;> simp [Op.eqFields, go_sem, bne, h1, h2, h3]
theorem eq68 (t : TR) (w : World) : (Op.equalIn 10000 68 (.agg #[.bool t.w, .int .u32 t.a, .int .u32 t.d, .bool t.e, .int .u32 t.r]) (.agg #[.bool t.w, .int .u32 t.a, .int .u32 t.d, .bool t.e, .int .u32 t.r])).run Try.prog w = .ok true w := by
  rw [show (10000 : Nat) = 9999 + 1 from rfl, run_equalIn_struct _ 9999 68 _ _ (by kernel_rfl) (by kernel_rfl)]
  simp [Op.eqFields, go_sem]
/-! ### Rows of rows -/
theorem flat_get {α : Type} (f : α → List Value) (m : Nat) (hm : ∀ x, (f x).length = m) (l : List α) : ∀ (j : Nat) (x : α), l[j]? = some x → ∀ i, i < m → (l.flatMap f)[j * m + i]? = (f x)[i]? := by
  induction l with
  | nil => intro j r h; simp at h
  | cons y fs ih =>
    intro j x h i hi
    rw [List.flatMap_cons]
    cases j with
    | zero =>
      simp at h
      subst h
      rw [List.getElem?_append_left (by rw [hm]; omega), Nat.zero_mul, Nat.zero_add]
    | succ j =>
      rw [List.getElem?_append_right (by rw [hm, Nat.add_mul]; omega)]
      have := ih j x (by simpa using h) i hi
      rw [show (j + 1) * m + i - (f y).length = j * m + i by rw [hm, Nat.add_mul]; omega]
      exact this
theorem flat_len {α : Type} (f : α → List Value) (m : Nat) (hm : ∀ x, (f x).length = m) (l : List α) : (l.flatMap f).length = l.length * m := by
  induction l with
  | nil => simp
  | cons x rs ih => rw [List.flatMap_cons, List.length_append, ih, hm, List.length_cons, Nat.add_mul]; omega
theorem Sl.rowc {α : Type} {f : α → List Value} {m : Nat} (hm : ∀ x, (f x).length = m) {w : World} {v : Value} {T : TypeId} {n : Nat} {l : List α} (h : Sl w v T m n (l.flatMap f)) {b off cap : Nat} (hv : v = .slice (some ⟨b, off, none⟩) n cap) {j : Nat} {x : α} (hr : l[j]? = some x) :
    ∀ i, i < m → w.cell? ⟨b, off + j * m + i, none⟩ = (f x)[i]? := by
  have hj : j < l.length := by
    rcases Nat.lt_or_ge j l.length with h9 | h9
    · exact h9
    · rw [List.getElem?_eq_none h9] at hr; cases hr
  have hl := flat_len f m hm l
  intro i hi
  have hlt : j * m + i < l.length * m := by
    have : (j + 1) * m ≤ l.length * m := Nat.mul_le_mul_right m hj
    rw [Nat.add_mul] at this
    omega
  have := (h.cell hv (j * m + i) (by rw [hl]; exact hlt)).trans (flat_get f m hm l j x hr i hi)
  rw [← Nat.add_assoc] at this
  exact this
def fr16 (v1 v2 : Value) (n j : Nat) (u : Nat → Value) : Act :=
  { tmps := (v1 :: v2 :: (u 2) :: (u 3) :: (u 4) :: (u 5) :: (u 6) :: (u 7) :: (u 8) :: (u 9) :: (u 10) :: (u 11) :: v1 :: (.int .i64 (n : Nat)) :: (.int .i64 (j : Nat)) :: (u 15) :: (u 16) :: (u 17) :: (u 18) :: (u 19) :: (u 20) :: (u 21) :: (u 22) :: (u 23) :: (u 24) :: (u 25) :: [] : List Value).toArray, defers := [] }
set_option maxRecDepth 100000 in
set_option maxHeartbeats 4000000 in
theorem isPre_yes (v1 v2 : Value) (l s : List TR) (w : World) (h1 : Sl w v1 68 5 l.length (l.flatMap trow)) (h2 : Sl w v2 68 5 (l ++ s).length ((l ++ s).flatMap trow)) (hn : (l ++ s).length < 1000000000000) :
    Calls Try.prog 16 #[v1, v2] w fun e w' => e = .returned (.bool true) ∧ Below w.heap.size w w' := by
  obtain ⟨a1, c1, e1⟩ := h1.form'
  obtain ⟨a2, c2, e2⟩ := h2.form'
  obtain ⟨n, hnn⟩ : ∃ n, l.length = n := ⟨_, rfl⟩
  obtain ⟨m, hmm⟩ : ∃ m, (l ++ s).length = m := ⟨_, rfl⟩
  have hnm : n ≤ m := by rw [← hnn, ← hmm]; simp
  rw [hnn] at h1 e1
  rw [hmm] at h2 e2 hn
  subst e1; subst e2
  have H1 := hid_of h1
  have H2 := hid_of h2
  have HN := hid_of hnn
  have hgt : ¬ ((n : Nat) : Int) > (m : Nat) := by omega
  clear h1 h2 hnn hmm
  go_enter Try.func16, Try.ntmps16
  go_wp2_with fail
  refine q_of (Q := fun a => (Code.loop _).wp Try.prog _ a _) (F := fr16 (.slice a1 n c1) (.slice a2 m c2) n 0) (fun u0 => ?_) _ (by kernel_rfl)
  refine wp_loop (fun act wr => ∃ (u : Nat → Value) (j : Nat), act = fr16 (.slice a1 n c1) (.slice a2 m c2) n j u ∧ j ≤ n ∧ Hid (Below w.heap.size w wr)) (fun act _ => n - (intOf (act.tmps.getD 14 undef)).toNat) ⟨u0, 0, rfl, Nat.zero_le _, Below.refl _ _⟩ ?_
  rintro act wr ⟨u, j, rfl, hj, HB⟩
  obtain ⟨KR, hKR⟩ : ∃ KR : Act → World → Prop, KR = fun a' w' => ((fun act wr => ∃ (u : Nat → Value) (j : Nat), act = fr16 (.slice a1 n c1) (.slice a2 m c2) n j u ∧ j ≤ n ∧ Hid (Below w.heap.size w wr)) a' w' ∧ n - (intOf (a'.tmps.getD 14 undef)).toNat < n - (intOf ((fr16 (.slice a1 n c1) (.slice a2 m c2) n j u).tmps.getD 14 undef)).toNat) := ⟨_, rfl⟩
  have HKR : Hid (∀ (act : Act) (w' : World), act = fr16 (.slice a1 n c1) (.slice a2 m c2) n (j + 1) (fun i => act.tmps.getD i undef) → j < n → Below w.heap.size w w' → KR act w') := fun act w' e hjl hb => by
    rw [hKR]
    refine ⟨⟨_, j + 1, e, hjl, hb⟩, ?_⟩
    have e1 : act.tmps.getD 14 undef = .int .i64 ((j + 1 : Nat) : Int) := by rw [e]; rfl
    have e2 : (fr16 (.slice a1 n c1) (.slice a2 m c2) n j u).tmps.getD 14 undef = .int .i64 ((j : Nat) : Int) := rfl
    simp only [e1, e2, intOf]
    omega
  rw [← hKR]
  clear hKR
  have hadd : IntKind.i64.wrap (((j : Nat) : Int) + 1) = (j : Nat) + 1 := by simp [IntKind.wrap, IntKind.bits, IntKind.signed]; omega
  by_cases hjn : j < n
  · have hji : ((j : Nat) : Int) < (n : Nat) := by omega
    have hjm : ((j : Nat) : Int) < (m : Nat) := by omega
    obtain ⟨b1, o1, c1', e1, _, hl1⟩ := H1.out.form (by omega)
    obtain ⟨b2, o2, c2', e2, _, hl2⟩ := H2.out.form (by omega)
    injection e1 with e1 _ e3
    injection e2 with e2 _ e4
    subst e1; subst e2; subst e3; subst e4
    obtain ⟨r, hr⟩ : ∃ r, l[j]? = some r := ⟨_, List.getElem?_eq_getElem (by rw [HN.out]; exact hjn)⟩
    have hr2 : (l ++ s)[j]? = some r := by rw [List.getElem?_append_left (by rw [HN.out]; exact hjn)]; exact hr
    have p := fun i hi => (HB.out.cell (p := ⟨b1, o1 + j * 5 + i, none⟩) hl1).trans (Sl.rowc (f := trow) (m := 5) (fun _ => rfl) H1.out rfl hr i hi)
    have q := fun i hi => (HB.out.cell (p := ⟨b2, o2 + j * 5 + i, none⟩) hl2).trans (Sl.rowc (f := trow) (m := 5) (fun _ => rfl) H2.out rfl hr2 i hi)
    have p0 : wr.cell? ⟨b1, o1 + j * 5, none⟩ = some (.bool r.w) := p 0 (by decide)
    have p1 : wr.cell? ⟨b1, o1 + j * 5 + 1, none⟩ = some (.int .u32 r.a) := p 1 (by decide)
    have p2 : wr.cell? ⟨b1, o1 + j * 5 + 2, none⟩ = some (.int .u32 r.d) := p 2 (by decide)
    have p3 : wr.cell? ⟨b1, o1 + j * 5 + 3, none⟩ = some (.bool r.e) := p 3 (by decide)
    have p4 : wr.cell? ⟨b1, o1 + j * 5 + 4, none⟩ = some (.int .u32 r.r) := p 4 (by decide)
    obtain ⟨W, hW⟩ : ∃ W, wr.alloc (.cells #[.bool r.w, .int .u32 r.a, .int .u32 r.d, .bool r.e, .int .u32 r.r] 68) = W := ⟨_, rfl⟩
    have hbw : Below wr.heap.size wr W := by rw [← hW]; exact (Below.refl _ _).alloc (Nat.le_refl _) _
    have hop : Blk W wr.heap.size #[.bool r.w, .int .u32 r.a, .int .u32 r.d, .bool r.e, .int .u32 r.r] 68 := by rw [← hW]; exact Blk.new _ _ _
    have hsz := HB.out.size
    have x := fun i hi => (hbw.cell (p := ⟨b2, o2 + j * 5 + i, none⟩) (show b2 < wr.heap.size by omega)).trans (q i hi)
    have q0 : W.cell? ⟨b2, o2 + j * 5, none⟩ = some (.bool r.w) := x 0 (by decide)
    have q1 : W.cell? ⟨b2, o2 + j * 5 + 1, none⟩ = some (.int .u32 r.a) := x 1 (by decide)
    have q2 : W.cell? ⟨b2, o2 + j * 5 + 2, none⟩ = some (.int .u32 r.d) := x 2 (by decide)
    have q3 : W.cell? ⟨b2, o2 + j * 5 + 3, none⟩ = some (.bool r.e) := x 3 (by decide)
    have q4 : W.cell? ⟨b2, o2 + j * 5 + 4, none⟩ = some (.int .u32 r.r) := x 4 (by decide)
    have y0 : W.cell? ⟨wr.heap.size, 0, none⟩ = some (.bool r.w) := hop.cell 0
    have y1 : W.cell? ⟨wr.heap.size, 1, none⟩ = some (.int .u32 r.a) := hop.cell 1
    have y2 : W.cell? ⟨wr.heap.size, 2, none⟩ = some (.int .u32 r.d) := hop.cell 2
    have y3 : W.cell? ⟨wr.heap.size, 3, none⟩ = some (.bool r.e) := hop.cell 3
    have y4 : W.cell? ⟨wr.heap.size, 4, none⟩ = some (.int .u32 r.r) := hop.cell 4
    have HBW : Hid (∀ q, Below w.heap.size w (W.drewN q)) := fun q => below_drewN' (HB.out.trans (hbw.mono hsz))
    have h68 := eq68 r
    clear hr hr2 H1 H2 p q x hbw hop hsz HB
    unfold fr16
    go_upto_region 6 with fail
    clear hW p0 p1 p2 p3 p4
    go_quiet (fail)
    go_wp2_with fail
    exact HKR.out _ _ (by kernel_rfl) hjn (HBW.out _)
  · have hji : ¬ ((j : Nat) : Int) < (n : Nat) := by omega
    clear H1 H2
    unfold fr16
    go_wp2_with fail
    go_ret
    exact ⟨rfl, HB.out⟩
set_option maxRecDepth 100000 in
theorem small_yes (a : Option Addr) (n c : Nat) (hn : n ≤ 65536) (w : World) : Calls Try.prog 11 #[.slice a n c] w fun e w' => e = .returned (.bool true) ∧ w' = w := by
  have h : ¬ ((n : Nat) : Int) > 65536 := by omega
  go_enter Try.func11, Try.ntmps11
  go_wp2_with fail
  go_ret
  exact ⟨rfl, rfl⟩
set_option maxRecDepth 100000 in
theorem small_no (a : Option Addr) (n c : Nat) (hn : ¬ n ≤ 65536) (w : World) : Calls Try.prog 11 #[.slice a n c] w fun e w' => e = .returned (.bool false) ∧ w' = w := by
  have h : ((n : Nat) : Int) > 65536 := by omega
  go_enter Try.func11, Try.ntmps11
  go_wp2_with fail
  go_ret
  exact ⟨rfl, rfl⟩
end Go.Proofs.Qxb6500749a
