import Derived.Test.Qxb6500750aDoorAi3
import Derived.Deep.MidRow
import Derived.Deep.DeepCutAuto
import Derived.Deep.CutBlock
import Derived.Stop.BytesEq
namespace Go.Proofs.Qxb6500750aDoor
open Go.RowKit
attribute [local go_sem] put_size put_cell_same put_cell_ne put_frozen_same put_frozen_ne put_setCell_same put_setCell_ne put_drew
attribute [local go_sem] drewN_setCell drewN_alloc drewN_put
def wb8 (f : Nat → Bool) : UInt8 := (if f 0 then 1 else 0) + (if f 1 then 2 else 0) + (if f 2 then 4 else 0)
theorem wb8_cell (f : Nat → Bool) : Extern.Stop.cell (wb8 f) = .int .u8 (wv f : Nat) := by
  unfold wb8 wv
  cases f 0 <;> cases f 1 <;> cases f 2 <;> rfl
theorem eq134 (W : Nat → Nat → Bool) (w : World) : (Op.equalIn 10000 134 (.agg (encW W)) (.agg (encW W))).run Tryd.prog w = .ok true w := by
  have h := run_equalIn_bytes (P := Tryd.prog) w 9998 134 5 7 (by kernel_rfl) (by kernel_rfl) (fun w => by kernel_rfl) [wb8 (W 0), wb8 (W 1), wb8 (W 2), wb8 (W 3), wb8 (W 4), wb8 (W 5), wb8 (W 6)] [wb8 (W 0), wb8 (W 1), wb8 (W 2), wb8 (W 3), wb8 (W 4), wb8 (W 5), wb8 (W 6)] rfl rfl
  simp only [List.map_cons, List.map_nil, wb8_cell, beq_self_eq_true] at h
  rw [encW_lit]
  exact h
theorem Tryd.eqg134 : Tryd.prog.eqGuardType Tryd.prog.depth 134 = false := by kernel_rfl
theorem fl_load_row {P : Program} {a : Act} {o : Oper} {ω : World} (ty : TypeId) (x : Operand) (ho : o.op = .load ty x) (q : Value) (hx : a.eval x = q) (v : Value) (h : (Instr.loadAt ty q).run P ω = .ok v ω) : (execOp a.eval o).run P ω = .ok (.value v) ω := by
  unfold execOp
  simp only [ho, hx, Sem.run_bind, h, Result.andThen_ok, Sem.run_pure]
theorem wpList_neq {P : Program} {ops : Array Oper} {rest : List Oper} {o : Oper} {a : Act} {w : World} {Q : Exit → Act → World → Prop} (hgd : o.guard = none) (ty : TypeId) (x y : Operand) (z : TypeId) (ho : o.op = .binOp .neq ty x y z) (c c' : Array Value) (b : Bool) (hx : a.eval x = .agg c) (hy : a.eval y = .agg c')
    (hm : P.eqGuardType P.depth ty = false) (he : (Op.equalIn 10000 ty (.agg c) (.agg c')).run P w = .ok b w)
    (h : wpList P ops Q rest (a.put o.dst (.bool (!b))) w) : wpList P ops Q (o :: rest) a w :=
  wpList_plain hgd fun _ hK => by
    unfold Oper.wp execOp
    simp only [ho, hx, hy, Sem.run_bind, run_eqGuard_agg w .neq ty x y c c' hm, Result.andThen_ok, run_neq_struct, he, Sem.run_pure]
    exact hK _ _ h
section
variable {P : Program} {ops : Array Oper} (J : World → Prop) (fl : List Nat) (nd : Nat → Bool) (Q : Act → World → Prop)
theorem wpAnyJ_stepJ {fuel : Nat} {listed : Array Bool} {a : Act} {w : World} (rs : List Nat) (hr : Region.ready .any ops listed = rs) (hne : rs.isEmpty = false) (hfl : rs.all (fun i => !fl.contains i) = true)
    (h : ∀ i ∈ rs, wpOp P ops NoWay i (fun a' w' => (nd i = true → J w') ∧ wpAnyJ J fl nd Q P ops fuel (listed.setIfInBounds i true) a' w') a w) : wpAnyJ J fl nd Q P ops (fuel + 1) listed a w := by
  refine ⟨fun h0 => ?_, fun i hi => ?_⟩
  · rw [hr] at h0; rw [h0] at hne; cases hne
  · rw [hr] at hi
    have hq := List.all_eq_true.1 hfl i hi
    simp only [Bool.not_eq_true'] at hq
    refine wpOp_mono (fun a' w' h' => ⟨?_, h'.2⟩) (h i hi)
    rw [hq, if_neg (by simp)]
    exact h'.1
end
theorem obs_ok (ob : ObsD) : (encOb ob).size = 30 ∧ (encOb ob).all (·.oneCell') = true := ⟨encO_size _ _ _ _, encO_one _ _ _ _⟩
theorem seenC_zero : seenC (fun _ => 0) = #[.int .i64 0, .int .i64 0, .int .i64 0, .int .i64 0, .int .i64 0, .int .i64 0] := rfl
theorem seen_set (f : Nat → Int) (k : Nat) (v : Int) : (seenC f).setIfInBounds k (.int .i64 v) = seenC (upd f k v) := by
  unfold seenC
  refine row_set 6 _ _ k _ (fun j _ => ?_)
  unfold upd
  by_cases e : j = k
  · rw [if_pos e, if_pos e]
  · rw [if_neg e, if_neg e]
def links6 (pbs : Nat → Nat) : Array Value := #[.pointer (some ⟨pbs 0, 0, none⟩), .pointer (some ⟨pbs 1, 0, none⟩), .pointer (some ⟨pbs 2, 0, none⟩), .pointer (some ⟨pbs 3, 0, none⟩), .pointer (some ⟨pbs 4, 0, none⟩), .pointer (some ⟨pbs 5, 0, none⟩)]
theorem links_range {w : World} {rg xb : Nat} {pbs : Nat → Nat} (h : Blk w rg (encG (.pointer (some ⟨xb, 0, none⟩)) (lk pbs)) 49) : w.rangeAt rg 1 (links6 pbs).toList := by
  intro j v hv
  rw [h.cell]
  have hj : j < 6 := (List.getElem?_eq_some_iff.1 hv).1
  rw [gg_s _ _ _ hj, lk_lt _ _ hj]
  obtain rfl | rfl | rfl | rfl | rfl | rfl : j = 0 ∨ j = 1 ∨ j = 2 ∨ j = 3 ∨ j = 4 ∨ j = 5 := by omega
  all_goals exact hv
attribute [local go_sem] seen_set
attribute [local go_sem] ag_rg ag_av ag_gr ag_rt ag_tk ag_ba ag_cut ag_turn ag_pt ag_fm ag_f0 ag_f1 ag_f2 ag_f3 as_av as_gr as_rt as_tk as_ba as_cut as_turn as_pt as_fm
attribute [local go_sem] as_f0t as_f1t as_f2t as_f3t
def lensTo (σ : SS) (k s : Nat) : Int := if s < k then lens σ s else 0
theorem lensTo_zero (σ : SS) : lensTo σ 0 = fun _ => 0 := by funext s; unfold lensTo; rw [if_neg (by omega)]
theorem lensTo_succ (σ : SS) (k : Nat) : upd (lensTo σ k) k (lens σ k) = lensTo σ (k + 1) := by
  funext s
  unfold lensTo upd
  by_cases e : s = k
  · subst e; rw [if_pos rfl, if_pos (by omega)]
  · rw [if_neg e]
    by_cases h : s < k
    · simp only [if_pos h, if_pos (show s < k + 1 by omega)]
    · simp only [if_neg h, if_neg (show ¬ s < k + 1 by omega)]
theorem stepS_atts (σ : SS) (o : OpD) (h3 : o.k ≠ 3) (s : Nat) : ((stepS σ o).p s).atts = (σ.p s).atts := by
  unfold stepS
  by_cases h0 : o.k = 0
  · rw [if_pos h0]
  rw [if_neg h0]
  by_cases h1 : o.k = 1
  · rw [if_pos h1]
  rw [if_neg h1]
  by_cases h2 : o.k = 2
  · rw [if_pos h2]
    by_cases hp : planTaken σ o = true
    · rw [if_pos hp]
      show (upd σ.p o.a.toNat _ s).atts = _
      by_cases e : s = o.a.toNat
      · rw [e, upd_same]
      · rw [upd_ne _ _ _ _ e]
    · rw [if_neg hp]
  rw [if_neg h2, if_neg h3]
  by_cases h4 : o.k = 4
  · rw [if_pos h4]
  rw [if_neg h4]
  by_cases h5 : o.k = 5
  · rw [if_pos h5]
  rw [if_neg h5]
theorem obs_range {w : World} {qb : Nat} {ob : ObsD} {ρ : RepD} (h : Blk w qb (encOb ob) 43) (hr : ob.t = ρ) : w.rangeAt qb 3 (encR ρ).toList := by
  subst hr
  intro j v hv
  rw [h.cell]
  unfold encOb encO
  rw [Array.getElem?_append_right (by simp)]
  simp only [List.size_toArray, List.length_cons, List.length_nil]
  rw [show 3 + j - (0 + 1 + 1 + 1) = j by omega]
  simpa using hv
theorem rep_len (ρ : RepD) : (Tryd.prog.info? 41).map (·.size) = some (encR ρ).toList.length := by
  rw [Array.length_toList, encR_size]; kernel_rfl
theorem Tryd.underlying41 : Tryd.prog.underlying 41 = some (.struct (Tryd.prog.fieldsOf 41)) := by kernel_rfl
theorem Tryd.underlying134 : Tryd.prog.underlying 134 = some (.array 7 5) := by kernel_rfl
theorem Tryd.underlying133 : Tryd.prog.underlying 133 = some (.array 6 3) := by kernel_rfl
theorem other_ji {σ : SS} {B : BK} {acc : Nat → List Req} {o : OpD} (J : JI σ B acc) (h0 : o.k ≠ 0) (h1 : o.k ≠ 1) (h3 : o.k ≠ 3) (h4 : o.k ≠ 4) (h5 : o.k ≠ 5) : JI (stepS σ o) B acc := by
  unfold stepS
  rw [if_neg h0, if_neg h1]
  by_cases h2 : o.k = 2
  · rw [if_pos h2]
    by_cases hp : planTaken σ o = true
    · rw [if_pos hp]
      refine J.ports _ fun t _ => ?_
      by_cases e : t = o.a.toNat
      · rw [e, upd_same]
      · rw [upd_ne _ _ _ _ e]
    · rw [if_neg hp]; exact J
  · rw [if_neg h2, if_neg h3, if_neg h4, if_neg h5]; exact J
theorem iso_far {a : Int} (h9 : 9 ≤ a) : isoR (idx a) = false := by
  unfold isoR idx
  by_cases h : a > 1048576
  · rw [if_pos h]; decide
  · rw [if_neg h, decide_eq_true h9]; simp
theorem iso_far2 {i : Int} {x : XS} {on : Bool} (h : isoR i = false) : isoX x i on = x := by
  unfold isoX
  rw [if_pos]
  unfold isoR at h
  have h2 : 0 ≤ i → 9 ≤ i := by simpa using h
  by_cases h3 : i < 0
  · exact .inl h3
  · exact .inr (h2 (by omega))
def zA : Array Value := #[.pointer none, .slice none 0 0, .slice none 0 0, .slice none 0 0, .int .i64 0, .int .i64 0, .int .i64 0, .int .i64 0, .int .i64 0, .int .i64 0, .bool false, .bool false, .bool false, .bool false, .bool false, .bool false, .bool false, .bool false, .bool false, .bool false, .bool false, .bool false, .bool false, .int .i64 0, .int .i64 0, .int .i64 0, .int .i64 0, .int .i64 0, .int .i64 0, .int .i64 0, .pointer none, .pointer none, .pointer none, .pointer none, .pointer none, .pointer none, .pointer none, .map none, .bool false, .bool false, .bool false, .bool false]
theorem zA_lit : zA = #[.pointer none, .slice none 0 0, .slice none 0 0, .slice none 0 0, .int .i64 0, .int .i64 0, .int .i64 0, .int .i64 0, .int .i64 0, .int .i64 0, .bool false, .bool false, .bool false, .bool false, .bool false, .bool false, .bool false, .bool false, .bool false, .bool false, .bool false, .bool false, .bool false, .int .i64 0, .int .i64 0, .int .i64 0, .int .i64 0, .int .i64 0, .int .i64 0, .int .i64 0, .pointer none, .pointer none, .pointer none, .pointer none, .pointer none, .pointer none, .pointer none, .map none, .bool false, .bool false, .bool false, .bool false] := rfl
theorem encA_size (a : AU) : (encA a).size = 42 := by simp [encA, row]
theorem m_av (a : AU) : ∀ j, j < (encA a).size → (encA { a with av := fun _ => .slice none 0 0 })[j]? = if 1 ≤ j ∧ j < 1 + (#[.slice none 0 0, .slice none 0 0, .slice none 0 0] : Array Value).size then (#[.slice none 0 0, .slice none 0 0, .slice none 0 0] : Array Value)[j - 1]? else (encA a)[j]? := by
  intro j hj
  rw [encA_size] at hj
  unfold encA
  rw [row_get _ _ _ hj, row_get _ _ _ hj]
  by_cases hh : 1 ≤ j ∧ j < 1 + 3
  · refine Eq.trans ?_ (if_pos hh).symm
    obtain rfl | rfl | rfl : j = 1 ∨ j = 2 ∨ j = 3 := by omega
    all_goals rfl
  · refine Eq.trans ?_ (if_neg hh).symm
    congr 1
    unfold acell
    exact ite_congr rfl (fun _ => rfl) (fun _ => ite_congr rfl (fun hc => absurd ⟨by omega, by omega⟩ hh) (fun _ => rfl))
theorem m_gr (a : AU) : ∀ j, j < (encA a).size → (encA { a with gr := fun _ => 0 })[j]? = if 4 ≤ j ∧ j < 4 + (#[.int .i64 0, .int .i64 0, .int .i64 0] : Array Value).size then (#[.int .i64 0, .int .i64 0, .int .i64 0] : Array Value)[j - 4]? else (encA a)[j]? := by
  intro j hj
  rw [encA_size] at hj
  unfold encA
  rw [row_get _ _ _ hj, row_get _ _ _ hj]
  by_cases hh : 4 ≤ j ∧ j < 4 + 3
  · refine Eq.trans ?_ (if_pos hh).symm
    obtain rfl | rfl | rfl : j = 4 ∨ j = 5 ∨ j = 6 := by omega
    all_goals rfl
  · refine Eq.trans ?_ (if_neg hh).symm
    congr 1
    unfold acell
    exact ite_congr rfl (fun _ => rfl) (fun _ => ite_congr rfl (fun _ => rfl) (fun _ => ite_congr rfl (fun hc => absurd ⟨by omega, by omega⟩ hh) (fun _ => rfl)))
theorem m_rt (a : AU) : ∀ j, j < (encA a).size → (encA { a with rt := fun _ => 0 })[j]? = if 7 ≤ j ∧ j < 7 + (#[.int .i64 0, .int .i64 0, .int .i64 0] : Array Value).size then (#[.int .i64 0, .int .i64 0, .int .i64 0] : Array Value)[j - 7]? else (encA a)[j]? := by
  intro j hj
  rw [encA_size] at hj
  unfold encA
  rw [row_get _ _ _ hj, row_get _ _ _ hj]
  by_cases hh : 7 ≤ j ∧ j < 7 + 3
  · refine Eq.trans ?_ (if_pos hh).symm
    obtain rfl | rfl | rfl : j = 7 ∨ j = 8 ∨ j = 9 := by omega
    all_goals rfl
  · refine Eq.trans ?_ (if_neg hh).symm
    congr 1
    unfold acell
    exact ite_congr rfl (fun _ => rfl) (fun _ => ite_congr rfl (fun _ => rfl) (fun _ => ite_congr rfl (fun _ => rfl) (fun _ => ite_congr rfl (fun hc => absurd ⟨by omega, by omega⟩ hh) (fun _ => rfl))))
theorem m_tk (a : AU) : ∀ j, j < (encA a).size → (encA { a with tk := fun _ => false })[j]? = if 10 ≤ j ∧ j < 10 + (#[.bool false, .bool false, .bool false] : Array Value).size then (#[.bool false, .bool false, .bool false] : Array Value)[j - 10]? else (encA a)[j]? := by
  intro j hj
  rw [encA_size] at hj
  unfold encA
  rw [row_get _ _ _ hj, row_get _ _ _ hj]
  by_cases hh : 10 ≤ j ∧ j < 10 + 3
  · refine Eq.trans ?_ (if_pos hh).symm
    obtain rfl | rfl | rfl : j = 10 ∨ j = 11 ∨ j = 12 := by omega
    all_goals rfl
  · refine Eq.trans ?_ (if_neg hh).symm
    congr 1
    unfold acell
    exact ite_congr rfl (fun _ => rfl) (fun _ => ite_congr rfl (fun _ => rfl) (fun _ => ite_congr rfl (fun _ => rfl) (fun _ => ite_congr rfl (fun _ => rfl) (fun _ => ite_congr rfl (fun hc => absurd ⟨by omega, by omega⟩ hh) (fun _ => rfl)))))
theorem m_turn (a : AU) : ∀ j, j < (encA a).size → (encA { a with turn := fun _ => 0 })[j]? = if 23 ≤ j ∧ j < 23 + (#[.int .i64 0, .int .i64 0, .int .i64 0, .int .i64 0, .int .i64 0, .int .i64 0, .int .i64 0] : Array Value).size then (#[.int .i64 0, .int .i64 0, .int .i64 0, .int .i64 0, .int .i64 0, .int .i64 0, .int .i64 0] : Array Value)[j - 23]? else (encA a)[j]? := by
  intro j hj
  rw [encA_size] at hj
  unfold encA
  rw [row_get _ _ _ hj, row_get _ _ _ hj]
  by_cases hh : 23 ≤ j ∧ j < 23 + 7
  · refine Eq.trans ?_ (if_pos hh).symm
    obtain rfl | rfl | rfl | rfl | rfl | rfl | rfl : j = 23 ∨ j = 24 ∨ j = 25 ∨ j = 26 ∨ j = 27 ∨ j = 28 ∨ j = 29 := by omega
    all_goals rfl
  · refine Eq.trans ?_ (if_neg hh).symm
    congr 1
    unfold acell
    exact ite_congr rfl (fun _ => rfl) (fun _ => ite_congr rfl (fun _ => rfl) (fun _ => ite_congr rfl (fun _ => rfl) (fun _ => ite_congr rfl (fun _ => rfl) (fun _ => ite_congr rfl (fun _ => rfl) (fun _ => ite_congr rfl (fun _ => rfl) (fun _ => ite_congr rfl (fun _ => rfl) (fun _ => ite_congr rfl (fun hc => absurd ⟨by omega, by omega⟩ hh) (fun _ => rfl))))))))
theorem m_pt (a : AU) : ∀ j, j < (encA a).size → (encA { a with pt := fun _ => .pointer none })[j]? = if 30 ≤ j ∧ j < 30 + (#[.pointer none, .pointer none, .pointer none, .pointer none, .pointer none, .pointer none, .pointer none] : Array Value).size then (#[.pointer none, .pointer none, .pointer none, .pointer none, .pointer none, .pointer none, .pointer none] : Array Value)[j - 30]? else (encA a)[j]? := by
  intro j hj
  rw [encA_size] at hj
  unfold encA
  rw [row_get _ _ _ hj, row_get _ _ _ hj]
  by_cases hh : 30 ≤ j ∧ j < 30 + 7
  · refine Eq.trans ?_ (if_pos hh).symm
    obtain rfl | rfl | rfl | rfl | rfl | rfl | rfl : j = 30 ∨ j = 31 ∨ j = 32 ∨ j = 33 ∨ j = 34 ∨ j = 35 ∨ j = 36 := by omega
    all_goals rfl
  · refine Eq.trans ?_ (if_neg hh).symm
    congr 1
    unfold acell
    exact ite_congr rfl (fun _ => rfl) (fun _ => ite_congr rfl (fun _ => rfl) (fun _ => ite_congr rfl (fun _ => rfl) (fun _ => ite_congr rfl (fun _ => rfl) (fun _ => ite_congr rfl (fun _ => rfl) (fun _ => ite_congr rfl (fun _ => rfl) (fun _ => ite_congr rfl (fun _ => rfl) (fun _ => ite_congr rfl (fun _ => rfl) (fun _ => ite_congr rfl (fun hc => absurd ⟨by omega, by omega⟩ hh) (fun _ => rfl)))))))))
theorem Tryd.und73 : Tryd.prog.underlying 73 = some (.array 3 72) := by kernel_rfl
theorem z_av {ω : World} {fb : Nat} (h : Blk ω fb zA 82) : (Instr.loadAt 73 (.pointer (some ⟨fb, 1, none⟩))).run Tryd.prog ω = .ok (.agg #[.slice none 0 0, .slice none 0 0, .slice none 0 0]) ω := by
  refine run_loadAt_mid ω fb 1 73 [.slice none 0 0, .slice none 0 0, .slice none 0 0] _ (fun j v hv => ?_) Tryd.und73 rfl (by kernel_rfl)
  rw [h.cell]
  have hj : j < 3 := (List.getElem?_eq_some_iff.1 hv).1
  obtain rfl | rfl | rfl : j = 0 ∨ j = 1 ∨ j = 2 := by omega
  all_goals exact hv
theorem Tryd.und74 : Tryd.prog.underlying 74 = some (.array 3 3) := by kernel_rfl
theorem z_gr {ω : World} {fb : Nat} (h : Blk ω fb zA 82) : (Instr.loadAt 74 (.pointer (some ⟨fb, 4, none⟩))).run Tryd.prog ω = .ok (.agg #[.int .i64 0, .int .i64 0, .int .i64 0]) ω := by
  refine run_loadAt_mid ω fb 4 74 [.int .i64 0, .int .i64 0, .int .i64 0] _ (fun j v hv => ?_) Tryd.und74 rfl (by kernel_rfl)
  rw [h.cell]
  have hj : j < 3 := (List.getElem?_eq_some_iff.1 hv).1
  obtain rfl | rfl | rfl : j = 0 ∨ j = 1 ∨ j = 2 := by omega
  all_goals exact hv
theorem z_rt {ω : World} {fb : Nat} (h : Blk ω fb zA 82) : (Instr.loadAt 74 (.pointer (some ⟨fb, 7, none⟩))).run Tryd.prog ω = .ok (.agg #[.int .i64 0, .int .i64 0, .int .i64 0]) ω := by
  refine run_loadAt_mid ω fb 7 74 [.int .i64 0, .int .i64 0, .int .i64 0] _ (fun j v hv => ?_) Tryd.und74 rfl (by kernel_rfl)
  rw [h.cell]
  have hj : j < 3 := (List.getElem?_eq_some_iff.1 hv).1
  obtain rfl | rfl | rfl : j = 0 ∨ j = 1 ∨ j = 2 := by omega
  all_goals exact hv
theorem Tryd.und75 : Tryd.prog.underlying 75 = some (.array 3 4) := by kernel_rfl
theorem z_tk {ω : World} {fb : Nat} (h : Blk ω fb zA 82) : (Instr.loadAt 75 (.pointer (some ⟨fb, 10, none⟩))).run Tryd.prog ω = .ok (.agg #[.bool false, .bool false, .bool false]) ω := by
  refine run_loadAt_mid ω fb 10 75 [.bool false, .bool false, .bool false] _ (fun j v hv => ?_) Tryd.und75 rfl (by kernel_rfl)
  rw [h.cell]
  have hj : j < 3 := (List.getElem?_eq_some_iff.1 hv).1
  obtain rfl | rfl | rfl : j = 0 ∨ j = 1 ∨ j = 2 := by omega
  all_goals exact hv
theorem Tryd.und77 : Tryd.prog.underlying 77 = some (.array 7 3) := by kernel_rfl
theorem z_turn {ω : World} {fb : Nat} (h : Blk ω fb zA 82) : (Instr.loadAt 77 (.pointer (some ⟨fb, 23, none⟩))).run Tryd.prog ω = .ok (.agg #[.int .i64 0, .int .i64 0, .int .i64 0, .int .i64 0, .int .i64 0, .int .i64 0, .int .i64 0]) ω := by
  refine run_loadAt_mid ω fb 23 77 [.int .i64 0, .int .i64 0, .int .i64 0, .int .i64 0, .int .i64 0, .int .i64 0, .int .i64 0] _ (fun j v hv => ?_) Tryd.und77 rfl (by kernel_rfl)
  rw [h.cell]
  have hj : j < 7 := (List.getElem?_eq_some_iff.1 hv).1
  obtain rfl | rfl | rfl | rfl | rfl | rfl | rfl : j = 0 ∨ j = 1 ∨ j = 2 ∨ j = 3 ∨ j = 4 ∨ j = 5 ∨ j = 6 := by omega
  all_goals exact hv
theorem Tryd.und79 : Tryd.prog.underlying 79 = some (.array 7 78) := by kernel_rfl
theorem z_pt {ω : World} {fb : Nat} (h : Blk ω fb zA 82) : (Instr.loadAt 79 (.pointer (some ⟨fb, 30, none⟩))).run Tryd.prog ω = .ok (.agg #[.pointer none, .pointer none, .pointer none, .pointer none, .pointer none, .pointer none, .pointer none]) ω := by
  refine run_loadAt_mid ω fb 30 79 [.pointer none, .pointer none, .pointer none, .pointer none, .pointer none, .pointer none, .pointer none] _ (fun j v hv => ?_) Tryd.und79 rfl (by kernel_rfl)
  rw [h.cell]
  have hj : j < 7 := (List.getElem?_eq_some_iff.1 hv).1
  obtain rfl | rfl | rfl | rfl | rfl | rfl | rfl : j = 0 ∨ j = 1 ∨ j = 2 ∨ j = 3 ∨ j = 4 ∨ j = 5 ∨ j = 6 := by omega
  all_goals exact hv
/-- A reset under way. -/
structure RI (w0 : World) (ab fb : Nat) (E : Array Value) (w' : World) : Prop where
  os : w'.os = w0.os
  tape : w'.tape = w0.tape
  output : w'.output = w0.output
  size : w0.heap.size ≤ w'.heap.size
  block : ∀ k, k < w0.heap.size → k ≠ ab → w'.heap[k]? = w0.heap[k]?
  blk : Blk w' ab E 82
  z : Blk w' fb zA 82
theorem RI.lay {w0 w' : World} {ab fb : Nat} {E : Array Value} (h : RI w0 ab fb E w') (hne : fb ≠ ab) (E' : Array Value) : RI w0 ab fb E' (put w' ab E' 82) :=
  ⟨h.os, h.tape, h.output, by rw [put_size]; exact h.size, fun k hk hn => (put_heap_ne _ _ _ _ _ hn).trans (h.block k hk hn), Blk.put_same h.blk.lt, h.z.put_ne hne⟩
theorem RI.map {w0 w' : World} {ab fb : Nat} {E : Array Value} (h : RI w0 ab fb E w') : RI w0 ab fb E (w'.alloc (.map #[] 0)) :=
  ⟨h.os, h.tape, h.output, Nat.le_trans h.size (by simp), fun k hk hn => (Below.heap_alloc _ _ _ (Nat.lt_of_lt_of_le hk h.size)).trans (h.block k hk hn), h.blk.alloc _, h.z.alloc _⟩
theorem RI.drew {w0 w' : World} {ab fb : Nat} {E : Array Value} (h : RI w0 ab fb E w') : RI w0 ab fb E w'.drew := ⟨h.os, h.tape, h.output, h.size, h.block, h.blk, h.z⟩
theorem wpList_makeMapV {P : Program} {ops : Array Oper} {rest : List Oper} {o : Oper} {a : Act} {w : World} {Q : Exit → Act → World → Prop} (hgd : o.guard = none) (ty : TypeId) (ho : o.op = .makeMap ty none)
    (h : ∀ V n, V = w.alloc (.map #[] 0) → n = w.heap.size → wpList P ops Q rest (a.put o.dst (.map (some n))) V) : wpList P ops Q (o :: rest) a w :=
  wpList_plain hgd fun _ hK => by
    unfold Oper.wp execOp
    simp only [ho]
    go_simp
    exact hK _ _ (h _ _ rfl rfl)
theorem wpList_store_midV {P : Program} {ops : Array Oper} {rest : List Oper} {o : Oper} {a : Act} {w : World} {Q : Exit → Act → World → Prop} (hgd : o.guard = none) (ty : TypeId) (x y : Operand) (ho : o.op = .store ty x y)
    (b off : Nat) (cs cs' vs : Array Value) (T : TypeId) (hx : a.eval x = .pointer (some ⟨b, off, none⟩)) (hy : a.eval y = .agg vs) (hB : Blk w b cs T) (hi : (P.info? ty).map (·.size) = some vs.size)
    (hs : off + vs.size ≤ cs.size) (h1 : vs.all (·.oneCell') = true) (hc : cs'.size = cs.size) (hg : ∀ j, j < cs.size → cs'[j]? = if off ≤ j ∧ j < off + vs.size then vs[j - off]? else cs[j]?)
    (h : ∀ V, V = put w b cs' T → wpList P ops Q rest (a.put o.dst undef) V) : wpList P ops Q (o :: rest) a w :=
  wpList_store_mid hgd ty x y ho b off cs cs' vs T hx hy hB hi hs h1 hc hg (h _ rfl)
def fr27 (ab n wb qb : Nat) (o : OpD) (u : Nat → Value) : Act :=
  { tmps := #[.pointer (some ⟨ab, 0, none⟩), .agg #[.int .u8 o.k, .int .u32 o.a, .int .u32 o.b, .int .u32 o.c], u 2, .pointer (some ⟨n, 0, none⟩), .pointer (some ⟨n + 1, 0, none⟩), u 5, u 6, .pointer (some ⟨wb, 0, none⟩), .pointer (some ⟨qb, 0, none⟩), u 9, u 10, u 11, u 12, u 13, u 14, u 15, u 16, u 17, u 18, u 19, u 20, u 21, u 22, u 23, u 24, u 25, u 26, u 27, u 28, u 29, u 30, u 31, u 32, u 33, u 34, u 35, u 36, u 37, u 38, u 39, u 40, u 41, u 42, u 43, u 44, u 45, u 46, u 47, u 48, u 49, u 50, u 51, u 52, u 53, u 54, u 55, u 56, u 57, u 58, u 59, u 60, u 61, u 62, u 63, u 64, u 65, u 66, u 67, u 68, u 69, u 70, u 71, u 72, u 73, u 74, u 75, u 76, u 77, u 78, u 79, u 80, u 81, u 82, u 83, u 84, u 85, u 86, u 87, u 88, u 89, u 90, u 91, u 92, u 93, u 94, u 95, u 96, u 97, u 98, u 99, u 100, u 101, u 102, u 103, u 104, u 105, u 106, u 107, u 108, u 109, u 110, u 111, u 112, u 113, u 114, u 115, u 116, u 117, u 118, u 119, u 120, u 121, u 122, u 123, u 124, u 125, u 126, u 127, u 128, u 129, u 130, u 131, u 132, u 133, u 134, u 135, u 136, u 137, u 138, u 139, u 140, u 141, u 142, u 143, u 144, u 145, u 146, u 147, u 148, u 149, u 150, u 151, u 152, u 153, u 154, u 155, u 156, u 157, u 158, u 159, u 160, u 161, u 162, u 163, u 164, u 165, u 166, u 167, u 168, u 169, u 170, u 171, u 172, u 173, u 174, u 175, u 176, u 177, u 178, u 179, u 180, u 181, u 182, u 183, u 184, u 185, u 186, u 187, u 188, u 189, u 190, u 191, u 192, u 193, u 194, u 195, u 196, u 197, u 198, u 199, u 200, u 201, u 202, u 203, u 204, u 205], defers := [] }
theorem cut_fun {P : Program} {c : Code} {K Km : Act → World → Prop} {Q : Exit → Act → World → Prop} {a : Act} {w : World} (hrest : ∀ a w, Km a w → K a w) (hfirst : c.wp P (Exit.then Km Q) a w) : c.wp P (Exit.then K Q) a w :=
  Code.wp_mono (fun e a' w' h => by cases e <;> first | exact hrest _ _ h | exact h) hfirst
set_option linter.unusedSimpArgs false in
set_option maxRecDepth 100000 in
set_option maxHeartbeats 16000000 in
theorem astep_any (own : Nat → Nat) (ab xb : Nat) (pbs : Nat → Nat) (σ : SS) (B : BK) (acc : Nat → List Req) (o : OpD) (N : Int) (A : Nat) (w : World) (h : AI own w ab xb pbs σ B acc) (J : JI σ B acc) (hi : XInv N A σ) (hN : 0 ≤ N ∧ N < 3000000) (hA : A + 14 < 1000000000) (ho : OpOK o) :
    Calls Tryd.prog 27 #[.pointer (some ⟨ab, 0, none⟩), .agg (opC o)] w fun e w' => e = .returned (.tuple #[]) ∧ ∃ own' B' acc', AI own' w' ab xb pbs (stepS σ o) B' acc' ∧ JI (stepS σ o) B' acc' ∧ Ext own own' SA w w' := by
  have H := hid_of h
  have HJ := hid_of J
  have HI := hid_of hi
  have HO := hid_of ho
  have hbk := h.bk.blk
  have hablt := hbk.lt
  have c0 := hbk.cell 0
  rw [ag_rg] at c0
  have hrg := h.rr.blk
  have hrglt := hrg.lt
  have HRG := hid_of (links_range hrg)
  have HPT : Hid (∀ k, k < 6 → ∃ ad cap, ∀ V, Below w.heap.size w V → Calls Tryd.prog 16 #[.pointer (some ⟨pbs k, 0, none⟩)] V fun e w' => e = .returned (.slice ad (σ.p k).atts.length cap) ∧ w' = V) := fun k hk => by
    obtain ⟨L, e1, e2, e3⟩ := H.out.base.link k hk
    obtain ⟨ad, cap, hv⟩ := e3.form'
    refine ⟨ad, cap, fun V hV => ?_⟩
    rw [← e1, ← hv]
    exact attempts_any L (σ.p k) V ((hV.block _ e2.lt).trans e2)
  have HIX := hid_of (index_pagg pbs)
  clear h J hi ho hbk hrg
  unfold opC
  go_enter Tryd.func27, Tryd.ntmps27
  go_upto_region 2 with fail
  rw [← seenC_zero, ← lensTo_zero σ]
  obtain ⟨Wz, hWz, hsz, hb31, hbel⟩ : ∃ Wz : World, (w.alloc (Obj.cells #[.int .u8 o.k, .int .u32 o.a, .int .u32 o.b, .int .u32 o.c] 31)).alloc (Obj.cells (seenC (lensTo σ 0)) 133) = put Wz (w.heap.size + 1) (seenC (lensTo σ 0)) 133 ∧ Wz.heap.size = w.heap.size + 2 ∧ Blk Wz w.heap.size #[.int .u8 o.k, .int .u32 o.a, .int .u32 o.b, .int .u32 o.c] 31 ∧ Below w.heap.size w Wz := by
    refine ⟨_, (put_self _ _ _ _ ?_).symm, ?_, ?_, ?_⟩
    · have := Blk.new (w.alloc (Obj.cells #[.int .u8 o.k, .int .u32 o.a, .int .u32 o.b, .int .u32 o.c] 31)) (seenC (lensTo σ 0)) 133
      simp at this; exact this
    · simp
    · exact (Blk.new w _ 31).alloc _
    · exact ((Below.refl _ _).alloc (Nat.le_refl _) _).alloc (by simp) _
  rw [hWz]
  clear hWz
  have HBE : Hid (∀ cs, Below w.heap.size w (put Wz (w.heap.size + 1) cs 133)) := fun cs => Below.put hbel (by omega) _ _
  have hc0 : Wz.cell? ⟨ab, 0, none⟩ = some (.pointer (some ⟨B.a.rg, 0, none⟩)) := by
    have hb : Blk Wz ab (encA B.a) 82 := (hbel.block ab hablt).trans H.out.bk.blk
    rw [hb.cell, ag_rg]
  have n0 : ab ≠ w.heap.size + 1 := by omega
  have hls : w.heap.size + 1 < Wz.heap.size := by omega
  have HRG2 : Hid ((put Wz (w.heap.size + 1) (seenC (lensTo σ 0)) 133).rangeAt B.a.rg 1 (links6 pbs).toList) := links_range ((HBE.out _).block _ hrglt |>.trans H.out.rr.blk)
  have HB31 := hid_of hb31
  have HBEL := hid_of hbel
  clear hb31 hbel c0 HRG
  refine wp_region_list ?_
  go_wp2_with ((with_reducible show wpList _ _ _ ({ dst := _, op := Op.load 47 _, type := _, pos := _, after := _, guard := _ } :: _) _ _); refine wpList_load_mid rfl 47 (.tmp 18) rfl B.a.rg 1 rfl (links6 pbs).toList _ HRG2.out (by rfl) (by rfl) (by rfl) ?_; rw [Array.toArray_toList])
  unfold links6
  go_loopw [20] (fun i wr => ∃ k : Nat, k ≤ 6 ∧ i = .int .i64 k ∧ wr = put Wz (w.heap.size + 1) (seenC (lensTo σ k)) 133) (fun i _ => 6 - (intOf i).toNat)
  case atStart => exact ⟨0, by omega, rfl, rfl⟩
  case round =>
    obtain ⟨k, hk, rfl, rfl⟩ := hrel
    by_cases hk6 : k < 6
    · have hix := HIX.out k hk6
      obtain ⟨ad, cap, hat⟩ := HPT.out k hk6
      have HAT := hid_of (hat _ (HBE.out (seenC (lensTo σ k))))
      clear hat
      have hki : ((k : Nat) : Int) < 6 := by omega
      have hls6 := lensTo_succ σ k
      have hgs := seen_get (lensTo σ k) k hk6
      have hln : (((σ.p k).atts.length : Nat) : Int) = lens σ k := rfl
      go_wp2_with fail
      refine HAT.out.mono ?_
      rintro e w5 ⟨rfl, hw5⟩
      obtain rfl := hw5.symm
      go_wp2_with fail
      go_roundw
      case rel => exact ⟨k + 1, by omega, by go_num, by first | rfl | (rw [← hls6]) | (rw [hls6])⟩
      case measure => simp [intOf]; omega
    · have hki : ¬ ((k : Nat) : Int) < 6 := by omega
      have hk' : k = 6 := by omega
      have hll : lensTo σ k = lensTo σ 6 := by rw [hk']
      clear hk'
      rw [hll]
      clear hll
      go_upto_region 7 with fail
      have hSe : seenC (lensTo σ 6) = seenC (lens σ) := row_congr _ _ _ fun j hj => by unfold lensTo; rw [if_pos hj]
      rw [hSe]
      clear hSe
      have hb6 : Blk (put Wz (w.heap.size + 1) (seenC (lens σ)) 133) (w.heap.size + 1) (seenC (lens σ)) 133 := Blk.put_same hls
      have hb6o : Blk (put Wz (w.heap.size + 1) (seenC (lens σ)) 133) w.heap.size #[.int .u8 o.k, .int .u32 o.a, .int .u32 o.b, .int .u32 o.c] 31 := HB31.out.put_ne (by omega)
      have hbe6 := HBE.out (seenC (lens σ))
      clear HRG2 HPT HIX hc0 HB31 HBEL HBE hls n0 hsz
      generalize put Wz (w.heap.size + 1) (seenC (lens σ)) 133 = W6 at *
      have h6 := H.out.below hbe6
      obtain ⟨WB, hWB⟩ : ∃ W, wantsB B.a.gr acc B.a.cut = W := ⟨_, rfl⟩
      have HAW : Hid (Calls Tryd.prog 43 #[.pointer (some ⟨ab, 0, none⟩)] W6 fun e w' => e = .returned (.agg (encW WB)) ∧ Below W6.heap.size W6 w') := by
        rw [← hWB]
        refine awants_any ab B.a acc W6 h6.bk.blk h6.glb.maps h6.glb.l h6.av (fun m hm => ?_) h6.adr
        have := HI.out.cnt m hm
        rw [HJ.out.gr m hm]; omega
      have hWF : encW (wantsF σ.x) = encW WB := by
        rw [← hWB]; exact (encW_congr fun t m _ hm => HJ.out.wants HI.out t m hm).symm
      have HWF := hid_of hWF
      have HWB := hid_of hWB
      have HB6 := hid_of hb6
      have HB6O := hid_of hb6o
      have HBE6 := hid_of hbe6
      clear hWF hWB hb6 hb6o hbe6 h6
      go_wp2_with fail
      refine HAW.out.mono ?_
      rintro e w7 ⟨rfl, hb7⟩
      rw [encW_lit WB]
      go_upto_region 8 with fail
      rw [← encW_lit WB]
      have hbw : Blk (w7.alloc (.cells (encW WB) 134)) w7.heap.size (encW WB) 134 := Blk.new _ _ _
      have hbe8 : Below w.heap.size w (w7.alloc (.cells (encW WB) 134)) := by
        refine (HBE6.out.trans (hb7.mono HBE6.out.size)).alloc (Nat.le_trans HBE6.out.size hb7.size) _
      have hb8 : Blk (w7.alloc (.cells (encW WB) 134)) (w.heap.size + 1) (seenC (lens σ)) 133 := Blk.alloc ((hb7.block _ HB6.out.lt).trans HB6.out) _
      have hb8o : Blk (w7.alloc (.cells (encW WB) 134)) w.heap.size #[.int .u8 o.k, .int .u32 o.a, .int .u32 o.b, .int .u32 o.c] 31 := Blk.alloc ((hb7.block _ HB6O.out.lt).trans HB6O.out) _
      have hs6 : w.heap.size + 1 < w7.heap.size := Nat.lt_of_lt_of_le HB6.out.lt hb7.size
      have hw7 : w.heap.size ≤ w7.heap.size := by omega
      generalize w7.heap.size = wb at *
      generalize w7.alloc (.cells (encW WB) 134) = W8 at *
      clear hb7 HB6 HB6O HBE6 HAW
      have h8 := H.out.below hbe8
      have hxc : ∀ ω : World, (∀ k, k < W8.heap.size → ω.heap[k]? = W8.heap[k]?) → ω.cell? ⟨ab, 0, none⟩ = some (.pointer (some ⟨B.a.rg, 0, none⟩)) ∧ ω.cell? ⟨B.a.rg, 0, none⟩ = some (.pointer (some ⟨xb, 0, none⟩)) ∧ (Instr.loadAt 134 (.pointer (some ⟨wb, 0, none⟩))).run Tryd.prog ω = .ok (.agg (encW WB)) ω := fun ω hω => by
        have q1 : Blk ω ab (encA B.a) 82 := (hω _ h8.bk.blk.lt).trans h8.bk.blk
        have q2 : Blk ω B.a.rg (encG (.pointer (some ⟨xb, 0, none⟩)) (lk pbs)) 49 := (hω _ h8.rr.blk.lt).trans h8.rr.blk
        have q3 : Blk ω wb (encW WB) 134 := (hω _ hbw.lt).trans hbw
        refine ⟨by rw [q1.cell, ag_rg], by rw [q2.cell, gg_0], ?_⟩
        simp only [Instr.loadAt, Instr.sureAddr, Sem.run_bind, Sem.run_pure, Result.andThen_ok, run_loadVar_row ω wb 134 134 (encW WB) (0, 0) _ q3 (show Tryd.prog.underlying 134 = some (.array 7 5) by kernel_rfl) rfl (by rfl)]
      have HXC := hid_of hxc
      have HBW := hid_of hbw
      have HB8 := hid_of hb8
      have HB8O := hid_of hb8o
      have H8 := hid_of h8
      have HBE8 := hid_of hbe8
      clear hxc hbw hb8 hb8o h8 hbe8
      refine wp_region_float [0, 1, 2, 3, 4, 5, 6, 7] [8, 9] [1, 2, 3, 5, 6] mixed (fun ω => ∀ k, k < W8.heap.size → ω.heap[k]? = W8.heap[k]?) (by kernel_rfl) rfl (by kernel_rfl) (fun _ _ => rfl) ?_
      refine wpFl_op _ _ _ (.agg (encW WB)) rfl rfl (fun ω hj => fl_load_row 134 (.tmp 7) rfl _ rfl _ (HXC.out ω (hj rfl)).2.2) ?_
      iterate 3 refine wpFl_op _ _ _ _ rfl rfl (fun ω hj => by go_simp; rfl) ?_
      refine wpFl_op _ _ _ _ rfl rfl (fun ω hj => by have q := (HXC.out ω (hj rfl)).1; go_simp; rfl) ?_
      iterate 2 refine wpFl_op _ _ _ _ rfl rfl (fun ω hj => by go_simp; rfl) ?_
      refine wpFl_op _ _ _ _ rfl rfl (fun ω hj => by have q := (HXC.out ω (hj rfl)).2.1; go_simp; rfl) ?_
      refine wpFl_nil _ _ ?_
      simp only [Act.put, List.setIfInBounds_toArray]
      have HWA : Hid (Calls Tryd.prog 44 #[.pointer (some ⟨xb, 0, none⟩)] W8.drew fun e w' => e = .returned (.agg (encW WB)) ∧ Below W8.heap.size W8.drew w') := by
        rw [← HWF.out]
        exact wants_any (lk pbs) xb σ.x W8.drew H8.out.rr.x.blk H8.out.glb.wins (by have := H8.out.glb.l; exact Nat.lt_of_lt_of_le (by omega) (Nat.le_of_lt this)) (fun m hm => ⟨by have := HI.out.cnt m hm; omega, fun s hs => HI.out.ad m s hm hs⟩)
      refine wpCh_one _ _ _ _ rfl ?_
      go_wp2_with fail
      refine HWA.out.mono ?_
      rintro e w9 ⟨rfl, hb9⟩
      have HB9 := hid_of hb9
      clear hb9 HWA
      go_wp2_with fail
      refine ⟨fun k hk => HB9.out.block k hk, ?_⟩
      refine wpCh_rest _ _ _ _ [_] _ _ rfl (by kernel_rfl) ?_
      simp only [List.getElem_toArray, List.getElem_cons_succ, List.getElem_cons_zero]
      go_wp2_with ((with_reducible show wpList _ _ _ ({ dst := _, op := Op.binOp BinOp.neq 134 _ _ _, type := _, pos := _, after := _, guard := _ } :: _) _ _); refine wpList_neq rfl 134 (.tmp 32) (.tmp 40) 134 rfl (encW WB) (encW WB) true rfl rfl Tryd.eqg134 (eq134 WB w9) ?_)
      simp only [Act.put, List.setIfInBounds_toArray, Bool.not_true, List.set_cons_succ, List.set_cons_zero]
      have hbe9 : Below w.heap.size w w9 := HBE8.out.trans ((show Below W8.heap.size W8 w9 from ⟨HB9.out.os, HB9.out.tape, HB9.out.output, HB9.out.size, HB9.out.block⟩).mono HBE8.out.size)
      have hx9 : Ext own (mark own w.heap.size 50) (fun _ => False) w w9 := Ext.of_below_mark 50 hbe9
      have h9 : AI (mark own w.heap.size 50) w9 ab xb pbs σ B acc := H.out.ext hx9 (fun _ _ h => h)
      have hk9 : ∀ k, k < W8.heap.size → w9.heap[k]? = W8.heap[k]? := fun k hk => HB9.out.block k hk
      have hb9w : Blk w9 wb (encW WB) 134 := (hk9 _ HBW.out.lt).trans HBW.out
      have hb9s : Blk w9 (w.heap.size + 1) (seenC (lens σ)) 133 := (hk9 _ HB8.out.lt).trans HB8.out
      have hb9o : Blk w9 w.heap.size #[.int .u8 o.k, .int .u32 o.a, .int .u32 o.b, .int .u32 o.c] 31 := (hk9 _ HB8O.out.lt).trans HB8O.out
      have hm1 : mark own w.heap.size 50 w.heap.size = 50 := mark_ge (Nat.le_refl _)
      have hm2 : mark own w.heap.size 50 (w.heap.size + 1) = 50 := mark_ge (Nat.le_succ _)
      have hm3 : mark own w.heap.size 50 wb = 50 := mark_ge hw7
      have HX9 := hid_of hx9
      have H9 := hid_of h9
      have HB9W := hid_of hb9w
      have HB9S := hid_of hb9s
      have HB9O := hid_of hb9o
      clear hbe9 hx9 h9 hk9 hb9w hb9s hb9o HXC HBW HB8 HB8O H8 HBE8 HB9
      generalize mark own w.heap.size 50 = own1 at *
      refine cut_fun (Km := fun act wc => ∃ (u : Nat → Value) (qb : Nat) (own2 : Nat → Nat), act = fr27 ab w.heap.size wb qb o u ∧ Hid (Blk wc qb (encOb (stepO σ o)) 43 ∧ own2 qb = 50 ∧ AI own2 wc ab xb pbs (stepS σ o) B acc ∧ Ext own1 own2 (fun k => k ≤ 6 ∨ k = 49) w9 wc)) ?rest ?first
      case first =>
        obtain ⟨KR, hKR⟩ : ∃ KR : Act → World → Prop, KR = fun act wc => ∃ (u : Nat → Value) (qb : Nat) (own2 : Nat → Nat), act = fr27 ab w.heap.size wb qb o u ∧ Hid (Blk wc qb (encOb (stepO σ o)) 43 ∧ own2 qb = 50 ∧ AI own2 wc ab xb pbs (stepS σ o) B acc ∧ Ext own1 own2 (fun k => k ≤ 6 ∨ k = 49) w9 wc) := ⟨_, rfl⟩
        have HKR : Hid (∀ (act : Act) (wc : World) (qb : Nat) (own2 : Nat → Nat), act = fr27 ab w.heap.size wb qb o (fun i => act.tmps.getD i undef) → Hid (Blk wc qb (encOb (stepO σ o)) 43 ∧ own2 qb = 50 ∧ AI own2 wc ab xb pbs (stepS σ o) B acc ∧ Ext own1 own2 (fun k => k ≤ 6 ∨ k = 49) w9 wc) → KR act wc) := fun act wc qb own2 e h => by rw [hKR]; exact ⟨_, qb, own2, e, h⟩
        rw [← hKR]
        clear hKR
        have hst : StepOK σ o := HI.out.stepOK HO.out hA (by omega)
        have HST := hid_of hst
        obtain ⟨OB, hOB⟩ : ∃ OB, encOb (stepO σ o) = OB := ⟨_, rfl⟩
        have HOB : Hid (OB.size = 30 ∧ OB.all (·.oneCell') = true) := by rw [← hOB]; exact obs_ok _
        have HSTEP : Hid (∀ (own' : Nat → Nat) (V : World), AI own' V ab xb pbs σ B acc → Calls Tryd.prog 14 #[.pointer (some ⟨B.a.rg, 0, none⟩), .agg #[.int .u8 o.k, .int .u32 o.a, .int .u32 o.b, .int .u32 o.c]] V fun e w' => e = .returned (.agg OB) ∧ ∃ own2, AI own2 w' ab xb pbs (stepS σ o) B acc ∧ Ext own' own2 (fun k => k ≤ 6 ∨ k = 49) V w') := fun own' V hV => by
          rw [← hOB]
          refine (step_any own' B.a.rg xb pbs σ o HST.out V hV.rr hV.glb).mono ?_
          rintro e w' ⟨he, own2, h1, h2⟩
          exact ⟨he, own2, hV.moved h2 (fun k h3 h4 h5 => by omega) h1, h2⟩
        have HOBE := hid_of hOB
        clear hst hOB
        have hq3 : ∀ ω : World, (ω.heap[ab]? = w9.heap[ab]? ∧ ω.heap[w.heap.size]? = w9.heap[w.heap.size]?) → ω.cell? ⟨ab, 0, none⟩ = some (.pointer (some ⟨B.a.rg, 0, none⟩)) ∧ (Instr.loadAt 31 (.pointer (some ⟨w.heap.size, 0, none⟩))).run Tryd.prog ω = .ok (.agg #[.int .u8 o.k, .int .u32 o.a, .int .u32 o.b, .int .u32 o.c]) ω := fun ω hω => by
          have q1 : Blk ω ab (encA B.a) 82 := hω.1.trans H9.out.bk.blk
          have q3 : Blk ω w.heap.size #[.int .u8 o.k, .int .u32 o.a, .int .u32 o.b, .int .u32 o.c] 31 := hω.2.trans HB9O.out
          refine ⟨by rw [q1.cell, ag_rg], ?_⟩
          simp only [Instr.loadAt, Instr.sureAddr, Sem.run_bind, Sem.run_pure, Result.andThen_ok, run_loadVar_row ω w.heap.size 31 31 _ (0, 0) _ q3 (show Tryd.prog.underlying 31 = some (.struct (Tryd.prog.fieldsOf 31)) by kernel_rfl) rfl (by kernel_rfl)]
        have HQ3 := hid_of hq3
        clear hq3
        refine wp_region_tree [0, 1, 2, 3, 4] [] 3 [0, 1, 2] mixed (fun ω => ω.heap[ab]? = w9.heap[ab]? ∧ ω.heap[w.heap.size]? = w9.heap[w.heap.size]?) (by kernel_rfl) rfl (by kernel_rfl) ⟨rfl, rfl⟩ ?_
        iterate 3 refine wpFl_op _ _ _ _ rfl rfl (fun ω hj => by go_simp; rfl) ?_
        refine wpFl_op _ _ _ _ rfl rfl (fun ω hj => by have q := (HQ3.out ω (hj rfl)).1; go_simp; rfl) ?_
        refine wpFl_op _ _ _ _ rfl rfl (fun ω hj => fl_load_row 31 (.tmp 3) rfl _ rfl _ (HQ3.out ω (hj rfl)).2) ?_
        refine wpFl_nil _ _ ?_
        simp only [Act.put, List.setIfInBounds_toArray]
        refine wpAnyJ_stepJ _ _ _ _ [5, 6] (by kernel_rfl) rfl (by kernel_rfl) ?_
        intro i hi
        simp only [List.mem_cons, List.not_mem_nil, or_false] at hi
        rcases hi with rfl | rfl
        · refine wpOp_list _ rfl ?_
          go_wp2_with fail
          refine (HSTEP.out own1 w9.drew (H9.out.below ⟨rfl, rfl, rfl, Nat.le_refl _, fun _ _ => rfl⟩)).mono ?_
          rintro e w10 ⟨rfl, own2, h10, hx10⟩
          go_wp2_with fail
          refine ⟨fun h => Bool.noConfusion ((show needB _ _ _ 5 = false from by kernel_rfl).symm.trans h), ?_⟩
          refine wpAnyJ_stepJ _ _ _ _ [6] (by kernel_rfl) rfl (by kernel_rfl) ?_
          intro i hi
          obtain rfl : i = 6 := by simpa using hi
          refine wpOp_list _ rfl ?_
          have hxa : Ext own1 (mark own2 w10.heap.size 50) (fun k => k ≤ 6 ∨ k = 49) w9 (w10.alloc (.cells (encO false 0 0 rep0) 43)) := (show Ext own1 own2 (fun k => k ≤ 6 ∨ k = 49) w9 w10 from ⟨hx10.os, hx10.tape, hx10.output, hx10.size, hx10.keep, hx10.block⟩).trans (Ext.alloc own2 _ w10 _ 50)
          have h11 : AI (mark own2 w10.heap.size 50) (w10.alloc (.cells (encO false 0 0 rep0) 43)) ab xb pbs (stepS σ o) B acc := h10.ext (Ext.alloc own2 (fun _ => False) w10 _ 50) (fun _ _ h => h)
          have hb11 : Blk (w10.alloc (.cells (encO false 0 0 rep0) 43)) w10.heap.size (encO false 0 0 rep0) 43 := Blk.new _ _ _
          have hm11 : mark own2 w10.heap.size 50 w10.heap.size = 50 := mark_ge (Nat.le_refl _)
          have HJ11 : Hid ((w10.alloc (.cells (encO false 0 0 rep0) 43)).heap[ab]? = w9.heap[ab]? ∧ (w10.alloc (.cells (encO false 0 0 rep0) 43)).heap[w.heap.size]? = w9.heap[w.heap.size]?) := ⟨hxa.block ab H9.out.bk.blk.lt (by rw [H9.out.oab]; omega), hxa.block _ HB9O.out.lt (by rw [hm1]; omega)⟩
          have hfin : Hid (Blk (put (w10.alloc (.cells (encO false 0 0 rep0) 43)) w10.heap.size OB 43) w10.heap.size OB 43 ∧ mark own2 w10.heap.size 50 w10.heap.size = 50 ∧ AI (mark own2 w10.heap.size 50) (put (w10.alloc (.cells (encO false 0 0 rep0) 43)) w10.heap.size OB 43) ab xb pbs (stepS σ o) B acc ∧ Ext own1 (mark own2 w10.heap.size 50) (fun k => k ≤ 6 ∨ k = 49) w9 (put (w10.alloc (.cells (encO false 0 0 rep0) 43)) w10.heap.size OB 43)) :=
            ⟨Blk.put_same hb11.lt, hm11, h11.ext (Ext.put (S := fun k => k = 50) hm11) (fun k hk e => by omega), hxa.shut (Below.put (Below.refl _ _) hx10.size _ _)⟩
          have HB11 := hid_of hb11
          clear hxa h11 hb11 h10 hx10
          rw [encO_zero] at HJ11 HB11 hfin
          go_wp2_with fail
          refine ⟨fun _ => HJ11.out, ?_⟩
          refine wpAnyJ_stepJ _ _ _ _ [7] (by kernel_rfl) rfl (by kernel_rfl) ?_
          intro i hi
          obtain rfl : i = 7 := by simpa using hi
          refine wpOp_list _ rfl ?_
          simp only [List.getElem_toArray, List.getElem_cons_succ, List.getElem_cons_zero]
          refine wpList_store_row rfl 43 (.tmp 8) (.tmp 50) rfl w10.heap.size OB rfl rfl 43 _ HB11.out (by rw [Tryd.size43, HOB.out.1]) (by rw [HOB.out.1]; rfl) HOB.out.2 ?_
          rw [setRow_put HB11.out]
          refine ⟨fun h => Bool.noConfusion ((show needB _ _ _ 7 = false from by kernel_rfl).symm.trans h), ?_⟩
          refine wpAnyJ_end _ _ _ _ (by kernel_rfl) ?_
          simp only [Act.put]
          go_wp2_with fail
          exact HKR.out _ _ w10.heap.size _ (by kernel_rfl) (by rw [HOBE.out]; exact hfin)
        · refine wpOp_list _ rfl ?_
          have hw9d : w9.drew.heap.size = w9.heap.size := rfl
          have hxa : Ext own1 (mark own1 w9.heap.size 50) (fun _ => False) w9 (w9.drew.alloc (.cells (encO false 0 0 rep0) 43)) := ⟨rfl, rfl, rfl, by simp [hw9d], fun k hk => mark_lt hk, fun k hk _ => Below.heap_alloc w9.drew _ k hk⟩
          have h11 : AI (mark own1 w9.heap.size 50) (w9.drew.alloc (.cells (encO false 0 0 rep0) 43)) ab xb pbs σ B acc := H9.out.ext hxa (fun _ _ h => h)
          have hb11 : Blk (w9.drew.alloc (.cells (encO false 0 0 rep0) 43)) w9.heap.size (encO false 0 0 rep0) 43 := Blk.new w9.drew _ _
          have hm11 : mark own1 w9.heap.size 50 w9.heap.size = 50 := mark_ge (Nat.le_refl _)
          have HJ11 : Hid ((w9.drew.alloc (.cells (encO false 0 0 rep0) 43)).heap[ab]? = w9.heap[ab]? ∧ (w9.drew.alloc (.cells (encO false 0 0 rep0) 43)).heap[w.heap.size]? = w9.heap[w.heap.size]?) := ⟨hxa.block ab H9.out.bk.blk.lt (fun h => h), hxa.block _ HB9O.out.lt (fun h => h)⟩
          have HS2 := hid_of (HSTEP.out _ _ h11)
          have hst2 : Hid (∀ own2 w10, AI own2 w10 ab xb pbs (stepS σ o) B acc → Ext (mark own1 w9.heap.size 50) own2 (fun k => k ≤ 6 ∨ k = 49) (w9.drew.alloc (.cells (encO false 0 0 rep0) 43)) w10 → Blk w10 w9.heap.size (encO false 0 0 rep0) 43 ∧ Blk (put w10 w9.heap.size OB 43) w9.heap.size OB 43 ∧ own2 w9.heap.size = 50 ∧ AI own2 (put w10 w9.heap.size OB 43) ab xb pbs (stepS σ o) B acc ∧ Ext own1 own2 (fun k => k ≤ 6 ∨ k = 49) w9 (put w10 w9.heap.size OB 43)) := fun own2 w10 h10 hx10 => by
            have q1 : Blk w10 w9.heap.size (encO false 0 0 rep0) 43 := hb11.ext hx10 (by rw [hm11]; omega)
            have q2 : own2 w9.heap.size = 50 := (hx10.keep _ hb11.lt).trans hm11
            exact ⟨q1, Blk.put_same q1.lt, q2, h10.ext (Ext.put (S := fun k => k = 50) q2) (fun k hk e => by omega), ((hxa.mono (fun _ h => h.elim)).trans hx10).shut (Below.put (Below.refl _ _) (Nat.le_refl _) _ _)⟩
          clear hxa h11 hb11
          rw [encO_zero] at HJ11 HS2 hst2
          go_wp2_with fail
          refine ⟨fun _ => HJ11.out, ?_⟩
          refine wpAnyJ_stepJ _ _ _ _ [5] (by kernel_rfl) rfl (by kernel_rfl) ?_
          intro i hi
          obtain rfl : i = 5 := by simpa using hi
          refine wpOp_list _ rfl ?_
          go_wp2_with fail
          refine HS2.out.mono ?_
          rintro e w10 ⟨rfl, own2, h10, hx10⟩
          have HF2 := hid_of (hst2.out own2 w10 h10 hx10)
          clear h10 hx10 HS2 hst2
          go_wp2_with fail
          refine ⟨fun h => Bool.noConfusion ((show needB _ _ _ 5 = false from by kernel_rfl).symm.trans h), ?_⟩
          refine wpAnyJ_stepJ _ _ _ _ [7] (by kernel_rfl) rfl (by kernel_rfl) ?_
          intro i hi
          obtain rfl : i = 7 := by simpa using hi
          refine wpOp_list _ rfl ?_
          simp only [List.getElem_toArray, List.getElem_cons_succ, List.getElem_cons_zero]
          refine wpList_store_row rfl 43 (.tmp 8) (.tmp 50) rfl w9.heap.size OB rfl rfl 43 _ HF2.out.1 (by rw [Tryd.size43, HOB.out.1]) (by rw [HOB.out.1]; rfl) HOB.out.2 ?_
          rw [setRow_put HF2.out.1]
          refine ⟨fun h => Bool.noConfusion ((show needB _ _ _ 7 = false from by kernel_rfl).symm.trans h), ?_⟩
          refine wpAnyJ_end _ _ _ _ (by kernel_rfl) ?_
          simp only [Act.put]
          go_wp2_with fail
          exact HKR.out _ _ w9.heap.size own2 (by kernel_rfl) (by rw [HOBE.out]; exact HF2.out.2)
      case rest =>
        rintro a10 w10 ⟨u1, qb, own2, rfl, hc⟩
        unfold fr27
        obtain ⟨hq, hmq, h10, hx10⟩ := hc.out
        have hbo := HB9O.out.ext hx10 (by rw [hm1]; omega)
        have hbs := HB9S.out.ext hx10 (by rw [hm2]; omega)
        have hbw := HB9W.out.ext hx10 (by rw [hm3]; omega)
        have co0 := hbo.cell 0
        have co1 := hbo.cell 1
        have co2 := hbo.cell 2
        have co3 := hbo.cell 3
        simp only [List.getElem?_toArray, List.getElem?_cons_succ, List.getElem?_cons_zero] at co0 co1 co2 co3
        have hmo : own2 w.heap.size = 50 := (hx10.keep _ HB9O.out.lt).trans hm1
        have hms : own2 (w.heap.size + 1) = 50 := (hx10.keep _ HB9S.out.lt).trans hm2
        have HXX : Hid (Ext own own2 SA w w10) := (HX9.out.mono (fun _ h => h.elim)).trans (hx10.mono (fun k hk => by unfold SA; omega))
        have HBQ := hid_of hq
        have H10 := hid_of h10
        have HBO := hid_of hbo
        have HBS := hid_of hbs
        have HBW := hid_of hbw
        have hbol := hbo.lt
        clear hq h10 hx10 hc hbo hbs hbw HX9 H9 HB9W HB9S HB9O hm1 hm2 hm3
        go_upto_block 2 with fail
        refine cut_fun (Km := fun act wd => ∃ (u : Nat → Value) (own3 : Nat → Nat) (B3 : BK) (acc3 : Nat → List Req), act = fr27 ab w.heap.size wb qb o u ∧ Hid (AI own3 wd ab xb pbs (stepS σ o) B3 acc3 ∧ JI (stepS σ o) B3 acc3 ∧ Ext own2 own3 SA w10 wd)) ?rest ?first
        case first =>
          obtain ⟨KR, hKR⟩ : ∃ KR : Act → World → Prop, KR = fun act wd => ∃ (u : Nat → Value) (own3 : Nat → Nat) (B3 : BK) (acc3 : Nat → List Req), act = fr27 ab w.heap.size wb qb o u ∧ Hid (AI own3 wd ab xb pbs (stepS σ o) B3 acc3 ∧ JI (stepS σ o) B3 acc3 ∧ Ext own2 own3 SA w10 wd) := ⟨_, rfl⟩
          have HKR : Hid (∀ (act : Act) (wd : World) (own3 : Nat → Nat) (B3 : BK) (acc3 : Nat → List Req), act = fr27 ab w.heap.size wb qb o (fun i => act.tmps.getD i undef) → Hid (AI own3 wd ab xb pbs (stepS σ o) B3 acc3 ∧ JI (stepS σ o) B3 acc3 ∧ Ext own2 own3 SA w10 wd) → KR act wd) := fun act wd own3 B3 acc3 e h => by rw [hKR]; exact ⟨_, own3, B3, acc3, e, h⟩
          rw [← hKR]
          clear hKR
          by_cases hk01 : o.k = 0 ∨ o.k = 1
          · have HC : Hid (Calls Tryd.prog 45 #[.pointer (some ⟨ab, 0, none⟩), .agg #[.int .u8 o.k, .int .u32 o.a, .int .u32 o.b, .int .u32 o.c], .agg (encOb (stepO σ o))] w10 fun e w' => e = .returned (.tuple #[]) ∧ ∃ own' B' acc', AI own' w' ab xb pbs (stepS σ o) B' acc' ∧ JI (stepS σ o) B' acc' ∧ Ext own2 own' SA w10 w' ∧ B'.a.rg = B.a.rg) := issue_call H10.out HJ.out HI.out (by omega) HO.out hk01
            rcases hk01 with hk0 | hk1
            · have hk0' : (o.k == 0) = true := by simp; exact hk0
              clear hk0
              go_wp2_with ((with_reducible show wpList _ _ _ ({ dst := _, op := Op.load 43 _, type := _, pos := _, after := _, guard := _ } :: _) _ _); refine wpList_load_yes (by rfl) 43 (.tmp 8) (by rfl) qb (by rfl) 43 (encOb (stepO σ o)) (0, 0) _ HBQ.out Tryd.underlying43 rfl (by rw [Tryd.size43, (obs_ok _).1]) ?_)
              refine HC.out.mono ?_
              rintro e w11 ⟨rfl, own3, B3, acc3, h1, h2, h3, _⟩
              have HF : Hid (AI own3 w11 ab xb pbs (stepS σ o) B3 acc3 ∧ JI (stepS σ o) B3 acc3 ∧ Ext own2 own3 SA w10 w11) := ⟨h1, h2, h3⟩
              clear h1 h2 h3 HC
              go_wp2_with fail
              exact HKR.out _ _ own3 B3 acc3 (by kernel_rfl) (HF)
            · have hk0' : (o.k == 0) = false := by simp; omega
              have hk1' : (o.k == 1) = true := by simp; exact hk1
              clear hk1
              go_wp2_with ((with_reducible show wpList _ _ _ ({ dst := _, op := Op.load 43 _, type := _, pos := _, after := _, guard := _ } :: _) _ _); refine wpList_load_yes (by rfl) 43 (.tmp 8) (by rfl) qb (by rfl) 43 (encOb (stepO σ o)) (0, 0) _ HBQ.out Tryd.underlying43 rfl (by rw [Tryd.size43, (obs_ok _).1]) ?_)
              refine HC.out.mono ?_
              rintro e w11 ⟨rfl, own3, B3, acc3, h1, h2, h3, _⟩
              have HF : Hid (AI own3 w11 ab xb pbs (stepS σ o) B3 acc3 ∧ JI (stepS σ o) B3 acc3 ∧ Ext own2 own3 SA w10 w11) := ⟨h1, h2, h3⟩
              clear h1 h2 h3 HC
              go_wp2_with fail
              exact HKR.out _ _ own3 B3 acc3 (by kernel_rfl) (HF)
          have e0 : (o.k == 0) = false := by simp; omega
          have e1 : (o.k == 1) = false := by simp; omega
          by_cases hk3 : o.k = 3
          · have e3 : (o.k == 3) = true := by simp; exact hk3
            obtain ⟨own3, HC⟩ : Hid (∃ own3, Calls Tryd.prog 46 #[.pointer (some ⟨ab, 0, none⟩), .int .u32 o.a, .agg (encR (tickF o.a σ).2), .agg (encW WB), .agg (seenC (lens σ))] w10 fun e w' => e = .returned (.tuple #[]) ∧ ∃ B', AI own3 w' ab xb pbs (stepS σ o) B' acc ∧ JI (stepS σ o) B' acc ∧ Ext own2 own3 SA w10 w') := ⟨_, by rw [← HWB.out]; exact tick_call H10.out HJ.out HI.out hN hA HO.out hk3⟩
            have HC := hid_of HC
            have HRG : Hid (w10.rangeAt qb 3 (encR (tickF o.a σ).2).toList) := obs_range HBQ.out (by unfold stepO; rw [if_neg (by omega), if_neg (by omega), if_pos hk3])
            clear hk3 hk01
            obtain ⟨ER, hER⟩ : ∃ ER, encR (tickF o.a σ).2 = ER := ⟨_, rfl⟩
            have HES : Hid ((Tryd.prog.info? 41).map (·.size) = some ER.toList.length) := by rw [← hER]; exact rep_len _
            rw [hER] at HC HRG
            clear hER
            go_wp2_with (first
              | ((with_reducible show wpList _ _ _ ({ dst := _, op := Op.load 41 _, type := _, pos := _, after := _, guard := _ } :: _) _ _); refine wpList_load_mid rfl 41 (.tmp 65) rfl qb 3 rfl ER.toList _ HRG.out Tryd.underlying41 (by rfl) HES.out ?_; rw [Array.toArray_toList])
              | ((with_reducible show wpList _ _ _ ({ dst := _, op := Op.load 134 _, type := _, pos := _, after := _, guard := _ } :: _) _ _); refine wpList_load_yes (by rfl) 134 (.tmp 7) (by rfl) wb (by rfl) 134 (encW WB) (0, 0) _ HBW.out Tryd.underlying134 rfl (by rfl) ?_)
              | ((with_reducible show wpList _ _ _ ({ dst := _, op := Op.load 133 _, type := _, pos := _, after := _, guard := _ } :: _) _ _); refine wpList_load_yes (by rfl) 133 (.tmp 4) (by rfl) (w.heap.size + 1) (by rfl) 133 (seenC (lens σ)) (0, 0) _ HBS.out Tryd.underlying133 rfl (by rfl) ?_))
            refine HC.out.mono ?_
            rintro e w11 ⟨rfl, B3, h1, h2, h3⟩
            have HF : Hid (AI own3 w11 ab xb pbs (stepS σ o) B3 acc ∧ JI (stepS σ o) B3 acc ∧ Ext own2 own3 SA w10 w11) := ⟨h1, h2, h3⟩
            clear h1 h2 h3 HC
            go_wp2_with fail
            exact HKR.out _ _ own3 B3 acc (by kernel_rfl) (HF)
          have e3 : (o.k == 3) = false := by simp; omega
          by_cases hk4 : o.k = 4
          · have e4 : (o.k == 4) = true := by simp; exact hk4
            have hst : stepS σ o = { σ with x := isoX σ.x (idx o.a) (o.b % 2 == 1) } := by unfold stepS; rw [if_neg (by omega), if_neg (by omega), if_neg (by omega), if_neg (by omega), if_pos hk4]
            have hso : stepO σ o = ⟨!isoR (idx o.a), 0, 0, rep0⟩ := by unfold stepO; rw [if_neg (by omega), if_neg (by omega), if_neg (by omega), if_pos hk4]
            have hbits : (bits BinOp.and IntKind.u32 o.b 1 == 1) = (o.b % 2 == 1) := by rw [and_one _ HO.out.b.1 HO.out.b.2]
            obtain ⟨on, hon⟩ : ∃ on, (o.b % 2 == 1) = on := ⟨_, rfl⟩
            rw [hon] at hbits hst
            have hbk10 := H10.out.bk.blk
            have nO : w.heap.size ≠ ab := HBO.out.ne_of_T hbk10 (by decide)
            have nQ : qb ≠ ab := HBQ.out.ne_of_T hbk10 (by decide)
            have hql := HBQ.out.lt
            have cq0 := HBQ.out.cell 0
            have hoa := HO.out.a
            obtain ⟨w11, hw11, hl11⟩ := hbk10.out
            subst hw11
            rw [put_cell_ne _ _ _ _ _ _ _ nO] at co0 co1 co2 co3
            rw [put_size] at hbol hql
            rw [hso, put_cell_ne _ _ _ _ _ _ _ nQ] at cq0
            have HST := hid_of hst
            clear hbk10 hk01 hk3 hk4 hon hst hso
            by_cases h9 : 9 ≤ o.a
            · have hf2 := HJ.out.on.f2
              have hir : isoR (idx o.a) = false := iso_far h9
              have cq1 : w11.cell? ⟨qb, 0, none⟩ = some (.bool true) := by rw [cq0, hir]; rfl
              have HF : Hid (AI own2 (put w11 ab (encA B.a) 82) ab xb pbs (stepS σ o) B acc ∧ JI (stepS σ o) B acc ∧ Ext own2 own2 SA (put w11 ab (encA B.a) 82) (put w11 ab (encA B.a) 82)) := ⟨H10.out, by rw [HST.out, iso_far2 hir]; exact HJ.out, Ext.refl _ _ _⟩
              clear hoa hir cq0
              go_wp2_with fail
              exact HKR.out _ _ own2 B acc (by kernel_rfl) (HF)
            · have hidx : idx o.a = o.a := by unfold idx; rw [if_neg (by omega)]
              rw [hidx] at HST
              by_cases h3 : 3 ≤ o.a
              · obtain ⟨t, ht, ht6⟩ : ∃ t : Nat, o.a - 3 = (t : Nat) ∧ t < 6 := ⟨(o.a - 3).toNat, by omega, by omega⟩
                have hsub : (o.a - 3) % 4294967296 = (t : Nat) := by omega
                have HF : Hid (∀ V, Below (put w11 ab (encA { B.a with cut := upd B.a.cut t on }) 82).heap.size (put w11 ab (encA { B.a with cut := upd B.a.cut t on }) 82) V → AI own2 V ab xb pbs (stepS σ o) { B with a := { B.a with cut := upd B.a.cut t on } } acc ∧ JI (stepS σ o) { B with a := { B.a with cut := upd B.a.cut t on } } acc ∧ Ext own2 own2 SA (put w11 ab (encA B.a) 82) V) := fun V hV => by
                  obtain ⟨p1, p2⟩ := H10.out.relaid { B.a with cut := upd B.a.cut t on } rfl rfl rfl
                  rw [put_put] at p1 p2
                  refine ⟨p1.below hV, ?_, p2.shut (by rw [put_size] at hV ⊢; exact hV)⟩
                  rw [HST.out]
                  have : isoX σ.x o.a on = σ.x.setT t { σ.x.tp t with iso := on } := by unfold isoX; rw [if_neg (by omega), if_pos h3, show (o.a - 3).toNat = t by omega]
                  rw [this]
                  exact HJ.out.isoT t on
                have h9' : decide (9 ≤ o.a) = false := decide_eq_false h9
                have h3' : decide (3 ≤ o.a) = true := decide_eq_true h3
                clear hoa cq0
                go_wp2_with fail
                refine wp_region_qtail 7 mixed (by kernel_rfl) ?_
                simp only [List.take_succ_cons, List.take_zero, List.drop_succ_cons, List.drop_zero]
                repeat (go_big_quiet_step (fail))
                refine wpQuiet_nil ?_
                go_wp2_with fail
                exact HKR.out _ _ own2 _ acc (by kernel_rfl) (HF.out _ ⟨rfl, rfl, rfl, Nat.le_refl _, fun _ _ => rfl⟩)
              · obtain ⟨m, hm, hm3⟩ : ∃ m : Nat, o.a = (m : Nat) ∧ m < 3 := ⟨o.a.toNat, by omega, by omega⟩
                rw [hm] at co1
                obtain ⟨p1, p2⟩ := H10.out.relaid { B.a with ba := upd B.a.ba m on } rfl rfl rfl
                obtain ⟨ad, cap, hav⟩ := (H10.out.av m hm3).form'
                have hmt : o.a.toNat = m := by omega
                cases on
                · have HF : Hid (∀ V, Below (put w11 ab (encA { B.a with ba := upd B.a.ba m false }) 82).heap.size (put w11 ab (encA { B.a with ba := upd B.a.ba m false }) 82) V → AI own2 V ab xb pbs (stepS σ o) { B with a := { B.a with ba := upd B.a.ba m false } } acc ∧ JI (stepS σ o) { B with a := { B.a with ba := upd B.a.ba m false } } acc ∧ Ext own2 own2 SA (put w11 ab (encA B.a) 82) V) := fun V hV => by
                    rw [put_put] at p1 p2
                    refine ⟨p1.below hV, ?_, p2.shut (by rw [put_size] at hV ⊢; exact hV)⟩
                    rw [HST.out]
                    have : isoX σ.x o.a false = σ.x.setM m { σ.x.mp m with iso := false } := by unfold isoX; rw [if_neg (by omega), if_neg h3, hmt]; unfold isoM; rfl
                    rw [this]
                    exact HJ.out.isoOff m
                  clear hoa cq0 p1 p2 hm hmt h3 h9
                  go_wp2_with fail
                  refine wp_region_qtail 6 mixed (by kernel_rfl) ?_
                  simp only [List.take_succ_cons, List.take_zero, List.drop_succ_cons, List.drop_zero]
                  repeat (go_big_quiet_step (fail))
                  refine wpQuiet_nil ?_
                  go_wp2_with fail
                  exact HKR.out _ _ own2 _ acc (by kernel_rfl) (HF.out _ ⟨rfl, rfl, rfl, Nat.le_refl _, fun _ _ => rfl⟩)
                · obtain ⟨p1, p2⟩ := H10.out.relaid { B.a with ba := upd B.a.ba m true, gr := upd B.a.gr m ((acc m).length : Nat) } rfl rfl rfl
                  have HF : Hid (∀ V, Below (put w11 ab (encA { B.a with ba := upd B.a.ba m true, gr := upd B.a.gr m ((acc m).length : Nat) }) 82).heap.size (put w11 ab (encA { B.a with ba := upd B.a.ba m true, gr := upd B.a.gr m ((acc m).length : Nat) }) 82) V → AI own2 V ab xb pbs (stepS σ o) { B with a := { B.a with ba := upd B.a.ba m true, gr := upd B.a.gr m ((acc m).length : Nat) } } acc ∧ JI (stepS σ o) { B with a := { B.a with ba := upd B.a.ba m true, gr := upd B.a.gr m ((acc m).length : Nat) } } acc ∧ Ext own2 own2 SA (put w11 ab (encA B.a) 82) V) := fun V hV => by
                    rw [put_put] at p1 p2
                    refine ⟨p1.below hV, ?_, p2.shut (by rw [put_size] at hV ⊢; exact hV)⟩
                    rw [HST.out]
                    have : isoX σ.x o.a true = isoM σ.x m true := by unfold isoX; rw [if_neg (by omega), if_neg h3, hmt]
                    rw [this]
                    exact HJ.out.isoOn HI.out hm3
                  clear hoa cq0 p1 p2 hm hmt h3 h9
                  go_wp2_with fail
                  refine wp_region_qtail 6 mixed (by kernel_rfl) ?_
                  simp only [List.take_succ_cons, List.take_zero, List.drop_succ_cons, List.drop_zero]
                  repeat (go_big_quiet_step (fail))
                  refine wpQuiet_nil ?_
                  go_wp2_with fail
                  refine wp_region_qtail 13 mixed (by kernel_rfl) ?_
                  simp only [List.take_succ_cons, List.take_zero, List.drop_succ_cons, List.drop_zero]
                  repeat (go_big_quiet_step (fail))
                  refine wpQuiet_nil ?_
                  go_wp2_with fail
                  exact HKR.out _ _ own2 _ acc (by kernel_rfl) (HF.out _ ⟨rfl, rfl, rfl, Nat.le_refl _, fun _ _ => rfl⟩)
          have e4 : (o.k == 4) = false := by simp; omega
          by_cases hk5 : o.k = 5
          · have e5 : (o.k == 5) = true := by simp; exact hk5
            have hst : stepS σ o = { σ with x := rstX σ.x } := by unfold stepS; rw [if_neg (by omega), if_neg (by omega), if_neg (by omega), if_neg (by omega), if_neg (by omega), if_pos hk5]
            have HST := hid_of hst
            have hal : ab < w10.heap.size := H10.out.bk.blk.lt
            clear hst hk5 hk4 hk3 hk01
            go_upto_region 28 with fail
            rw [← zA_lit]
            have hr0 : RI w10 ab w10.heap.size (encA B.a) (w10.alloc (.cells zA 82)) := ⟨rfl, rfl, rfl, by simp, fun k hk _ => Below.heap_alloc _ _ _ hk, H10.out.bk.blk.alloc _, Blk.new _ _ _⟩
            have hfb : w10.heap.size ≠ ab := by omega
            obtain ⟨fb, hfbe⟩ : ∃ fb, w10.heap.size = fb := ⟨_, rfl⟩
            have HFB := hid_of hfbe
            rw [hfbe] at hr0 hfb ⊢
            clear hfbe hal
            generalize w10.alloc (.cells zA 82) = W27 at *
            have HR0 : Hid (RI w10 ab fb (encA B.a) W27.drew) := hr0.drew
            have HR1 : Hid (RI w10 ab fb (encA { B.a with av := fun _ => .slice none 0 0 }) (put W27.drew ab (encA { B.a with av := fun _ => .slice none 0 0 }) 82)) := HR0.out.lay hfb _
            obtain ⟨W28_1, hW28_1⟩ : ∃ V, put W27.drew ab (encA { B.a with av := fun _ => .slice none 0 0 }) 82 = V := ⟨_, rfl⟩
            rw [hW28_1] at HR1
            have HR2 : Hid (RI w10 ab fb (encA { B.a with av := fun _ => .slice none 0 0, gr := fun _ => 0 }) (put W28_1 ab (encA { B.a with av := fun _ => .slice none 0 0, gr := fun _ => 0 }) 82)) := HR1.out.lay hfb _
            obtain ⟨W28_2, hW28_2⟩ : ∃ V, put W28_1 ab (encA { B.a with av := fun _ => .slice none 0 0, gr := fun _ => 0 }) 82 = V := ⟨_, rfl⟩
            rw [hW28_2] at HR2
            have HR3 : Hid (RI w10 ab fb (encA { B.a with av := fun _ => .slice none 0 0, gr := fun _ => 0, rt := fun _ => 0 }) (put W28_2 ab (encA { B.a with av := fun _ => .slice none 0 0, gr := fun _ => 0, rt := fun _ => 0 }) 82)) := HR2.out.lay hfb _
            obtain ⟨W28_3, hW28_3⟩ : ∃ V, put W28_2 ab (encA { B.a with av := fun _ => .slice none 0 0, gr := fun _ => 0, rt := fun _ => 0 }) 82 = V := ⟨_, rfl⟩
            rw [hW28_3] at HR3
            have HR4 : Hid (RI w10 ab fb (encA { B.a with av := fun _ => .slice none 0 0, gr := fun _ => 0, rt := fun _ => 0, tk := fun _ => false }) (put W28_3 ab (encA { B.a with av := fun _ => .slice none 0 0, gr := fun _ => 0, rt := fun _ => 0, tk := fun _ => false }) 82)) := HR3.out.lay hfb _
            obtain ⟨W28_4, hW28_4⟩ : ∃ V, put W28_3 ab (encA { B.a with av := fun _ => .slice none 0 0, gr := fun _ => 0, rt := fun _ => 0, tk := fun _ => false }) 82 = V := ⟨_, rfl⟩
            rw [hW28_4] at HR4
            clear hr0
            refine wp_region_float [0, 1, 2, 3, 4, 5, 6, 7, 8, 9, 10, 11, 12, 13, 14, 15, 16, 17, 18, 19, 20, 21] [22, 23, 24, 25, 26, 27, 28, 29, 30, 31] [0, 1, 2, 3, 4, 5, 6, 8, 9, 10, 12, 13, 14, 16, 17, 18, 20, 21] mixed (fun ω => Blk ω fb zA 82) (by kernel_rfl) rfl (by kernel_rfl) HR0.out.z ?_
            iterate 7 refine wpFl_op _ _ _ _ rfl rfl (fun ω hj => by go_simp; rfl) ?_
            refine wpFl_op _ _ _ (.agg #[.slice none 0 0, .slice none 0 0, .slice none 0 0]) rfl rfl (fun ω hj => fl_load_row 73 (.tmp 135) rfl (.pointer (some ⟨fb, 1, none⟩)) (by kernel_rfl) (.agg #[.slice none 0 0, .slice none 0 0, .slice none 0 0]) (z_av (ω := ω) (fb := fb) (hj (by kernel_rfl)))) ?_
            iterate 3 refine wpFl_op _ _ _ _ rfl rfl (fun ω hj => by go_simp; rfl) ?_
            refine wpFl_op _ _ _ (.agg #[.int .i64 0, .int .i64 0, .int .i64 0]) rfl rfl (fun ω hj => fl_load_row 74 (.tmp 139) rfl (.pointer (some ⟨fb, 4, none⟩)) (by kernel_rfl) (.agg #[.int .i64 0, .int .i64 0, .int .i64 0]) (z_gr (ω := ω) (fb := fb) (hj (by kernel_rfl)))) ?_
            iterate 3 refine wpFl_op _ _ _ _ rfl rfl (fun ω hj => by go_simp; rfl) ?_
            refine wpFl_op _ _ _ (.agg #[.int .i64 0, .int .i64 0, .int .i64 0]) rfl rfl (fun ω hj => fl_load_row 74 (.tmp 143) rfl (.pointer (some ⟨fb, 7, none⟩)) (by kernel_rfl) (.agg #[.int .i64 0, .int .i64 0, .int .i64 0]) (z_rt (ω := ω) (fb := fb) (hj (by kernel_rfl)))) ?_
            iterate 3 refine wpFl_op _ _ _ _ rfl rfl (fun ω hj => by go_simp; rfl) ?_
            refine wpFl_op _ _ _ (.agg #[.bool false, .bool false, .bool false]) rfl rfl (fun ω hj => fl_load_row 75 (.tmp 147) rfl (.pointer (some ⟨fb, 10, none⟩)) (by kernel_rfl) (.agg #[.bool false, .bool false, .bool false]) (z_tk (ω := ω) (fb := fb) (hj (by kernel_rfl)))) ?_
            iterate 2 refine wpFl_op _ _ _ _ rfl rfl (fun ω hj => by go_simp; rfl) ?_
            refine wpFl_nil _ _ ?_
            simp only [Act.put, List.setIfInBounds_toArray]
            refine wpCh_rest _ _ _ _ [_, _, _, _, _, _, _, _, _, _] _ _ rfl (by kernel_rfl) ?_
            simp only [List.getElem_toArray, List.getElem_cons_succ, List.getElem_cons_zero]
            simp only [List.set_cons_succ, List.set_cons_zero]
            go_wp2_with (first
              | ((with_reducible show wpList _ _ _ ({ dst := none, op := Op.store 73 (Operand.tmp 150) _, type := _, pos := _, after := _, guard := _ } :: _) _ _); refine wpList_store_mid (by rfl) 73 (.tmp 150) (.tmp 136) (by rfl) ab 1 (encA B.a) (encA { B.a with av := fun _ => .slice none 0 0 }) #[.slice none 0 0, .slice none 0 0, .slice none 0 0] 82 (by kernel_rfl) (by kernel_rfl) (by exact HR0.out.blk) (by kernel_rfl) (by rw [encA_size]; decide) (by simp [Value.oneCell']) (by rw [encA_size, encA_size]) (by exact m_av _) ?_; rw [hW28_1])
              | ((with_reducible show wpList _ _ _ ({ dst := none, op := Op.store 74 (Operand.tmp 152) _, type := _, pos := _, after := _, guard := _ } :: _) _ _); refine wpList_store_mid (by rfl) 74 (.tmp 152) (.tmp 140) (by rfl) ab 4 (encA { B.a with av := fun _ => .slice none 0 0 }) (encA { B.a with av := fun _ => .slice none 0 0, gr := fun _ => 0 }) #[.int .i64 0, .int .i64 0, .int .i64 0] 82 (by kernel_rfl) (by kernel_rfl) (by exact HR1.out.blk) (by kernel_rfl) (by rw [encA_size]; decide) (by simp [Value.oneCell']) (by rw [encA_size, encA_size]) (by exact m_gr _) ?_; rw [hW28_2])
              | ((with_reducible show wpList _ _ _ ({ dst := none, op := Op.store 74 (Operand.tmp 154) _, type := _, pos := _, after := _, guard := _ } :: _) _ _); refine wpList_store_mid (by rfl) 74 (.tmp 154) (.tmp 144) (by rfl) ab 7 (encA { B.a with av := fun _ => .slice none 0 0, gr := fun _ => 0 }) (encA { B.a with av := fun _ => .slice none 0 0, gr := fun _ => 0, rt := fun _ => 0 }) #[.int .i64 0, .int .i64 0, .int .i64 0] 82 (by kernel_rfl) (by kernel_rfl) (by exact HR2.out.blk) (by kernel_rfl) (by rw [encA_size]; decide) (by simp [Value.oneCell']) (by rw [encA_size, encA_size]) (by exact m_rt _) ?_; rw [hW28_3])
              | ((with_reducible show wpList _ _ _ ({ dst := none, op := Op.store 75 (Operand.tmp 156) _, type := _, pos := _, after := _, guard := _ } :: _) _ _); refine wpList_store_mid (by rfl) 75 (.tmp 156) (.tmp 148) (by rfl) ab 10 (encA { B.a with av := fun _ => .slice none 0 0, gr := fun _ => 0, rt := fun _ => 0 }) (encA { B.a with av := fun _ => .slice none 0 0, gr := fun _ => 0, rt := fun _ => 0, tk := fun _ => false }) #[.bool false, .bool false, .bool false] 82 (by kernel_rfl) (by kernel_rfl) (by exact HR3.out.blk) (by kernel_rfl) (by rw [encA_size]; decide) (by simp [Value.oneCell']) (by rw [encA_size, encA_size]) (by exact m_tk _) ?_; rw [hW28_4]))
            have HFIN : Hid (∀ (V : World) (n : Nat), RI w10 ab fb (encA { B.a with av := fun _ => .slice none 0 0, gr := fun _ => 0, rt := fun _ => 0, tk := fun _ => false, turn := fun _ => 0, pt := fun _ => .pointer none, fm := n }) V → FMap V n (fun _ _ => none) → w10.heap.size ≤ n → AI (mark own2 w10.heap.size 14) V ab xb pbs (stepS σ o) ⟨{ B.a with av := fun _ => .slice none 0 0, gr := fun _ => 0, rt := fun _ => 0, tk := fun _ => false, turn := fun _ => 0, pt := fun _ => .pointer none, fm := n }, fun _ _ => none, B.fl⟩ (fun _ => []) ∧ JI (stepS σ o) ⟨{ B.a with av := fun _ => .slice none 0 0, gr := fun _ => 0, rt := fun _ => 0, tk := fun _ => false, turn := fun _ => 0, pt := fun _ => .pointer none, fm := n }, fun _ _ => none, B.fl⟩ (fun _ => []) ∧ Ext own2 (mark own2 w10.heap.size 14) SA w10 V) := fun V n hR hM hn => by
              obtain ⟨q1, q2⟩ := H10.out.reset { B.a with av := fun _ => .slice none 0 0, gr := fun _ => 0, rt := fun _ => 0, tk := fun _ => false, turn := fun _ => 0, pt := fun _ => .pointer none, fm := n } rfl (fun _ _ => rfl) hn hR.os hR.tape hR.output hR.size hR.block hR.blk hM
              refine ⟨q1, ?_, q2⟩
              rw [HST.out]
              exact HJ.out.rst _ _ n
            have HU0 : Hid (RI w10 ab fb (encA { B.a with av := fun _ => .slice none 0 0, gr := fun _ => 0, rt := fun _ => 0, tk := fun _ => false }) W28_4.drew) := HR4.out.drew
            clear HR0 HR1 HR2 HR3 HR4
            refine wp_region_tree [0, 1, 2, 3, 4, 5, 6, 7, 8, 9, 10, 12, 13] [] 8 [0, 1, 2, 3, 4, 5, 7, 8, 9, 12, 13] mixed (fun ω => Blk ω fb zA 82) (by kernel_rfl) rfl (by kernel_rfl) HU0.out.z ?_
            iterate 6 refine wpFl_op _ _ _ _ rfl rfl (fun ω hj => by go_simp; rfl) ?_
            refine wpFl_op _ _ _ (.agg #[.int .i64 0, .int .i64 0, .int .i64 0, .int .i64 0, .int .i64 0, .int .i64 0, .int .i64 0]) rfl rfl (fun ω hj => fl_load_row 77 (.tmp 162) rfl (.pointer (some ⟨fb, 23, none⟩)) (by kernel_rfl) (.agg #[.int .i64 0, .int .i64 0, .int .i64 0, .int .i64 0, .int .i64 0, .int .i64 0, .int .i64 0]) (z_turn (ω := ω) (fb := fb) (hj (by kernel_rfl)))) ?_
            iterate 3 refine wpFl_op _ _ _ _ rfl rfl (fun ω hj => by go_simp; rfl) ?_
            refine wpFl_op _ _ _ (.agg #[.pointer none, .pointer none, .pointer none, .pointer none, .pointer none, .pointer none, .pointer none]) rfl rfl (fun ω hj => fl_load_row 79 (.tmp 166) rfl (.pointer (some ⟨fb, 30, none⟩)) (by kernel_rfl) (.agg #[.pointer none, .pointer none, .pointer none, .pointer none, .pointer none, .pointer none, .pointer none]) (z_pt (ω := ω) (fb := fb) (hj (by kernel_rfl)))) ?_
            iterate 2 refine wpFl_op _ _ _ _ rfl rfl (fun ω hj => by go_simp; rfl) ?_
            refine wpFl_nil _ _ ?_
            simp only [Act.put, List.setIfInBounds_toArray]
            refine wpAnyJ_stepJ _ _ _ _ [11, 14] (by kernel_rfl) rfl (by kernel_rfl) ?_
            intro i hi
            simp only [List.mem_cons, List.not_mem_nil, or_false] at hi
            rcases hi with rfl | rfl
            · refine wpOp_list _ rfl ?_
              simp only [List.getElem_toArray, List.getElem_cons_succ, List.getElem_cons_zero]
              refine wpList_makeMapV (by rfl) 80 (by rfl) ?_
              intro U1 n1 hU1 hn1
              have HV1 : Hid (RI w10 ab fb (encA { B.a with av := fun _ => .slice none 0 0, gr := fun _ => 0, rt := fun _ => 0, tk := fun _ => false }) U1) := by rw [hU1]; exact HU0.out.map
              have HM1 : Hid (FMap U1 n1 (fun _ _ => none)) := by rw [hU1, hn1]; exact FMap.new _
              have hna1 : n1 ≠ ab := fun e => by have := HU0.out.blk.lt; omega
              have HS1 : Hid (w10.heap.size ≤ n1) := by rw [hn1]; exact HU0.out.size
              clear hU1 hn1
              simp only [Act.put, List.setIfInBounds_toArray, List.set_cons_succ, List.set_cons_zero]
              refine ⟨fun _ => HV1.out.z, ?_⟩
              refine wpAnyJ_stepJ _ _ _ _ [14] (by kernel_rfl) rfl (by kernel_rfl) ?_
              intro i hi
              obtain rfl : i = 14 := by simpa using hi
              refine wpOp_list _ rfl ?_
              simp only [List.getElem_toArray, List.getElem_cons_succ, List.getElem_cons_zero]
              refine wpList_store_midV (by rfl) 77 (.tmp 170) (.tmp 163) (by rfl) ab 23 (encA { B.a with av := fun _ => .slice none 0 0, gr := fun _ => 0, rt := fun _ => 0, tk := fun _ => false }) (encA { B.a with av := fun _ => .slice none 0 0, gr := fun _ => 0, rt := fun _ => 0, tk := fun _ => false, turn := fun _ => 0 }) #[.int .i64 0, .int .i64 0, .int .i64 0, .int .i64 0, .int .i64 0, .int .i64 0, .int .i64 0] 82 (by kernel_rfl) (by kernel_rfl) (by exact HV1.out.blk) (by kernel_rfl) (by rw [encA_size]; decide) (by simp [Value.oneCell']) (by rw [encA_size, encA_size]) (by exact m_turn _) ?_
              intro U2 hU2
              have HV2 : Hid (RI w10 ab fb (encA { B.a with av := fun _ => .slice none 0 0, gr := fun _ => 0, rt := fun _ => 0, tk := fun _ => false, turn := fun _ => 0 }) U2) := by rw [hU2]; exact HV1.out.lay hfb _
              have HM2 : Hid (FMap U2 n1 (fun _ _ => none)) := by rw [hU2]; exact HM1.out.same (put_heap_ne _ _ _ _ _ hna1)
              clear hU2
              simp only [Act.put]
              refine ⟨fun _ => HV2.out.z, ?_⟩
              refine wpAnyJ_stepJ _ _ _ _ [15] (by kernel_rfl) rfl (by kernel_rfl) ?_
              intro i hi
              obtain rfl : i = 15 := by simpa using hi
              refine wpOp_list _ rfl ?_
              go_wp2_with fail
              refine ⟨fun _ => HV2.out.z, ?_⟩
              refine wpAnyJ_stepJ _ _ _ _ [16] (by kernel_rfl) rfl (by kernel_rfl) ?_
              intro i hi
              obtain rfl : i = 16 := by simpa using hi
              refine wpOp_list _ rfl ?_
              go_wp2_with fail
              refine ⟨fun _ => HV2.out.z, ?_⟩
              refine wpAnyJ_stepJ _ _ _ _ [17] (by kernel_rfl) rfl (by kernel_rfl) ?_
              intro i hi
              obtain rfl : i = 17 := by simpa using hi
              refine wpOp_list _ rfl ?_
              simp only [List.getElem_toArray, List.getElem_cons_succ, List.getElem_cons_zero]
              refine wpList_store_midV (by rfl) 79 (.tmp 172) (.tmp 167) (by rfl) ab 30 (encA { B.a with av := fun _ => .slice none 0 0, gr := fun _ => 0, rt := fun _ => 0, tk := fun _ => false, turn := fun _ => 0 }) (encA { B.a with av := fun _ => .slice none 0 0, gr := fun _ => 0, rt := fun _ => 0, tk := fun _ => false, turn := fun _ => 0, pt := fun _ => .pointer none }) #[.pointer none, .pointer none, .pointer none, .pointer none, .pointer none, .pointer none, .pointer none] 82 (by kernel_rfl) (by kernel_rfl) (by exact HV2.out.blk) (by kernel_rfl) (by rw [encA_size]; decide) (by simp [Value.oneCell']) (by rw [encA_size, encA_size]) (by exact m_pt _) ?_
              intro U3 hU3
              have HV3 : Hid (RI w10 ab fb (encA { B.a with av := fun _ => .slice none 0 0, gr := fun _ => 0, rt := fun _ => 0, tk := fun _ => false, turn := fun _ => 0, pt := fun _ => .pointer none }) U3) := by rw [hU3]; exact HV2.out.lay hfb _
              have HM3 : Hid (FMap U3 n1 (fun _ _ => none)) := by rw [hU3]; exact HM2.out.same (put_heap_ne _ _ _ _ _ hna1)
              clear hU3
              simp only [Act.put]
              refine ⟨fun _ => HV3.out.z, ?_⟩
              refine wpAnyJ_stepJ _ _ _ _ [18] (by kernel_rfl) rfl (by kernel_rfl) ?_
              intro i hi
              obtain rfl : i = 18 := by simpa using hi
              refine wpOp_list _ rfl ?_
              go_wp2_with fail
              refine ⟨fun _ => HV3.out.z, ?_⟩
              refine wpAnyJ_stepJ _ _ _ _ [19] (by kernel_rfl) rfl (by kernel_rfl) ?_
              intro i hi
              obtain rfl : i = 19 := by simpa using hi
              refine wpOp_list _ rfl ?_
              go_wp2_with fail
              refine ⟨fun _ => HV3.out.z, ?_⟩
              refine wpAnyJ_stepJ _ _ _ _ [20] (by kernel_rfl) rfl (by kernel_rfl) ?_
              intro i hi
              obtain rfl : i = 20 := by simpa using hi
              have HF4 := hid_of (HFIN.out (put U3 ab (encA { B.a with av := fun _ => .slice none 0 0, gr := fun _ => 0, rt := fun _ => 0, tk := fun _ => false, turn := fun _ => 0, pt := fun _ => .pointer none, fm := n1 }) 82) n1 (HV3.out.lay hfb _) (HM3.out.same (put_heap_ne _ _ _ _ _ hna1)) HS1.out)
              have HZ4 : Hid (Blk (put U3 ab (encA { B.a with av := fun _ => .slice none 0 0, gr := fun _ => 0, rt := fun _ => 0, tk := fun _ => false, turn := fun _ => 0, pt := fun _ => .pointer none, fm := n1 }) 82) fb zA 82) := (HV3.out.lay hfb _).z
              obtain ⟨V', hV', hl'⟩ := HV3.out.blk.out
              rw [hV', put_put] at HF4 HZ4
              clear HV3 HM3
              subst hV'
              refine wpOp_list _ rfl ?_
              go_wp2_with fail
              refine ⟨fun _ => HZ4.out, ?_⟩
              refine wpAnyJ_end _ _ _ _ (by kernel_rfl) ?_
              go_wp2_with fail
              exact HKR.out _ _ _ _ _ (by kernel_rfl) (HF4)
            · refine wpOp_list _ rfl ?_
              simp only [List.getElem_toArray, List.getElem_cons_succ, List.getElem_cons_zero]
              refine wpList_store_midV (by rfl) 77 (.tmp 170) (.tmp 163) (by rfl) ab 23 (encA { B.a with av := fun _ => .slice none 0 0, gr := fun _ => 0, rt := fun _ => 0, tk := fun _ => false }) (encA { B.a with av := fun _ => .slice none 0 0, gr := fun _ => 0, rt := fun _ => 0, tk := fun _ => false, turn := fun _ => 0 }) #[.int .i64 0, .int .i64 0, .int .i64 0, .int .i64 0, .int .i64 0, .int .i64 0, .int .i64 0] 82 (by kernel_rfl) (by kernel_rfl) (by exact HU0.out.blk) (by kernel_rfl) (by rw [encA_size]; decide) (by simp [Value.oneCell']) (by rw [encA_size, encA_size]) (by exact m_turn _) ?_
              intro U5 hU5
              have HV5 : Hid (RI w10 ab fb (encA { B.a with av := fun _ => .slice none 0 0, gr := fun _ => 0, rt := fun _ => 0, tk := fun _ => false, turn := fun _ => 0 }) U5) := by rw [hU5]; exact HU0.out.lay hfb _
              clear hU5
              simp only [Act.put]
              refine ⟨fun _ => HV5.out.z, ?_⟩
              refine wpAnyJ_stepJ _ _ _ _ [11, 15] (by kernel_rfl) rfl (by kernel_rfl) ?_
              intro i hi
              simp only [List.mem_cons, List.not_mem_nil, or_false] at hi
              rcases hi with rfl | rfl
              · refine wpOp_list _ rfl ?_
                simp only [List.getElem_toArray, List.getElem_cons_succ, List.getElem_cons_zero]
                refine wpList_makeMapV (by rfl) 80 (by rfl) ?_
                intro U6 n6 hU6 hn6
                have HV6 : Hid (RI w10 ab fb (encA { B.a with av := fun _ => .slice none 0 0, gr := fun _ => 0, rt := fun _ => 0, tk := fun _ => false, turn := fun _ => 0 }) U6) := by rw [hU6]; exact HV5.out.map
                have HM6 : Hid (FMap U6 n6 (fun _ _ => none)) := by rw [hU6, hn6]; exact FMap.new _
                have hna6 : n6 ≠ ab := fun e => by have := HV5.out.blk.lt; omega
                have HS6 : Hid (w10.heap.size ≤ n6) := by rw [hn6]; exact HV5.out.size
                clear hU6 hn6
                simp only [Act.put, List.setIfInBounds_toArray, List.set_cons_succ, List.set_cons_zero]
                refine ⟨fun _ => HV6.out.z, ?_⟩
                refine wpAnyJ_stepJ _ _ _ _ [15] (by kernel_rfl) rfl (by kernel_rfl) ?_
                intro i hi
                obtain rfl : i = 15 := by simpa using hi
                refine wpOp_list _ rfl ?_
                go_wp2_with fail
                refine ⟨fun _ => HV6.out.z, ?_⟩
                refine wpAnyJ_stepJ _ _ _ _ [16] (by kernel_rfl) rfl (by kernel_rfl) ?_
                intro i hi
                obtain rfl : i = 16 := by simpa using hi
                refine wpOp_list _ rfl ?_
                go_wp2_with fail
                refine ⟨fun _ => HV6.out.z, ?_⟩
                refine wpAnyJ_stepJ _ _ _ _ [17] (by kernel_rfl) rfl (by kernel_rfl) ?_
                intro i hi
                obtain rfl : i = 17 := by simpa using hi
                refine wpOp_list _ rfl ?_
                simp only [List.getElem_toArray, List.getElem_cons_succ, List.getElem_cons_zero]
                refine wpList_store_midV (by rfl) 79 (.tmp 172) (.tmp 167) (by rfl) ab 30 (encA { B.a with av := fun _ => .slice none 0 0, gr := fun _ => 0, rt := fun _ => 0, tk := fun _ => false, turn := fun _ => 0 }) (encA { B.a with av := fun _ => .slice none 0 0, gr := fun _ => 0, rt := fun _ => 0, tk := fun _ => false, turn := fun _ => 0, pt := fun _ => .pointer none }) #[.pointer none, .pointer none, .pointer none, .pointer none, .pointer none, .pointer none, .pointer none] 82 (by kernel_rfl) (by kernel_rfl) (by exact HV6.out.blk) (by kernel_rfl) (by rw [encA_size]; decide) (by simp [Value.oneCell']) (by rw [encA_size, encA_size]) (by exact m_pt _) ?_
                intro U7 hU7
                have HV7 : Hid (RI w10 ab fb (encA { B.a with av := fun _ => .slice none 0 0, gr := fun _ => 0, rt := fun _ => 0, tk := fun _ => false, turn := fun _ => 0, pt := fun _ => .pointer none }) U7) := by rw [hU7]; exact HV6.out.lay hfb _
                have HM7 : Hid (FMap U7 n6 (fun _ _ => none)) := by rw [hU7]; exact HM6.out.same (put_heap_ne _ _ _ _ _ hna6)
                clear hU7
                simp only [Act.put]
                refine ⟨fun _ => HV7.out.z, ?_⟩
                refine wpAnyJ_stepJ _ _ _ _ [18] (by kernel_rfl) rfl (by kernel_rfl) ?_
                intro i hi
                obtain rfl : i = 18 := by simpa using hi
                refine wpOp_list _ rfl ?_
                go_wp2_with fail
                refine ⟨fun _ => HV7.out.z, ?_⟩
                refine wpAnyJ_stepJ _ _ _ _ [19] (by kernel_rfl) rfl (by kernel_rfl) ?_
                intro i hi
                obtain rfl : i = 19 := by simpa using hi
                refine wpOp_list _ rfl ?_
                go_wp2_with fail
                refine ⟨fun _ => HV7.out.z, ?_⟩
                refine wpAnyJ_stepJ _ _ _ _ [20] (by kernel_rfl) rfl (by kernel_rfl) ?_
                intro i hi
                obtain rfl : i = 20 := by simpa using hi
                have HF8 := hid_of (HFIN.out (put U7 ab (encA { B.a with av := fun _ => .slice none 0 0, gr := fun _ => 0, rt := fun _ => 0, tk := fun _ => false, turn := fun _ => 0, pt := fun _ => .pointer none, fm := n6 }) 82) n6 (HV7.out.lay hfb _) (HM7.out.same (put_heap_ne _ _ _ _ _ hna6)) HS6.out)
                have HZ8 : Hid (Blk (put U7 ab (encA { B.a with av := fun _ => .slice none 0 0, gr := fun _ => 0, rt := fun _ => 0, tk := fun _ => false, turn := fun _ => 0, pt := fun _ => .pointer none, fm := n6 }) 82) fb zA 82) := (HV7.out.lay hfb _).z
                obtain ⟨V', hV', hl'⟩ := HV7.out.blk.out
                rw [hV', put_put] at HF8 HZ8
                clear HV7 HM7
                subst hV'
                refine wpOp_list _ rfl ?_
                go_wp2_with fail
                refine ⟨fun _ => HZ8.out, ?_⟩
                refine wpAnyJ_end _ _ _ _ (by kernel_rfl) ?_
                go_wp2_with fail
                exact HKR.out _ _ _ _ _ (by kernel_rfl) (HF8)
              · refine wpOp_list _ rfl ?_
                go_wp2_with fail
                refine ⟨fun _ => HV5.out.z, ?_⟩
                refine wpAnyJ_stepJ _ _ _ _ [11, 16] (by kernel_rfl) rfl (by kernel_rfl) ?_
                intro i hi
                simp only [List.mem_cons, List.not_mem_nil, or_false] at hi
                rcases hi with rfl | rfl
                · refine wpOp_list _ rfl ?_
                  simp only [List.getElem_toArray, List.getElem_cons_succ, List.getElem_cons_zero]
                  refine wpList_makeMapV (by rfl) 80 (by rfl) ?_
                  intro U9 n9 hU9 hn9
                  have HV9 : Hid (RI w10 ab fb (encA { B.a with av := fun _ => .slice none 0 0, gr := fun _ => 0, rt := fun _ => 0, tk := fun _ => false, turn := fun _ => 0 }) U9) := by rw [hU9]; exact HV5.out.map
                  have HM9 : Hid (FMap U9 n9 (fun _ _ => none)) := by rw [hU9, hn9]; exact FMap.new _
                  have hna9 : n9 ≠ ab := fun e => by have := HV5.out.blk.lt; omega
                  have HS9 : Hid (w10.heap.size ≤ n9) := by rw [hn9]; exact HV5.out.size
                  clear hU9 hn9
                  simp only [Act.put, List.setIfInBounds_toArray, List.set_cons_succ, List.set_cons_zero]
                  refine ⟨fun _ => HV9.out.z, ?_⟩
                  refine wpAnyJ_stepJ _ _ _ _ [16] (by kernel_rfl) rfl (by kernel_rfl) ?_
                  intro i hi
                  obtain rfl : i = 16 := by simpa using hi
                  refine wpOp_list _ rfl ?_
                  go_wp2_with fail
                  refine ⟨fun _ => HV9.out.z, ?_⟩
                  refine wpAnyJ_stepJ _ _ _ _ [17] (by kernel_rfl) rfl (by kernel_rfl) ?_
                  intro i hi
                  obtain rfl : i = 17 := by simpa using hi
                  refine wpOp_list _ rfl ?_
                  simp only [List.getElem_toArray, List.getElem_cons_succ, List.getElem_cons_zero]
                  refine wpList_store_midV (by rfl) 79 (.tmp 172) (.tmp 167) (by rfl) ab 30 (encA { B.a with av := fun _ => .slice none 0 0, gr := fun _ => 0, rt := fun _ => 0, tk := fun _ => false, turn := fun _ => 0 }) (encA { B.a with av := fun _ => .slice none 0 0, gr := fun _ => 0, rt := fun _ => 0, tk := fun _ => false, turn := fun _ => 0, pt := fun _ => .pointer none }) #[.pointer none, .pointer none, .pointer none, .pointer none, .pointer none, .pointer none, .pointer none] 82 (by kernel_rfl) (by kernel_rfl) (by exact HV9.out.blk) (by kernel_rfl) (by rw [encA_size]; decide) (by simp [Value.oneCell']) (by rw [encA_size, encA_size]) (by exact m_pt _) ?_
                  intro U10 hU10
                  have HV10 : Hid (RI w10 ab fb (encA { B.a with av := fun _ => .slice none 0 0, gr := fun _ => 0, rt := fun _ => 0, tk := fun _ => false, turn := fun _ => 0, pt := fun _ => .pointer none }) U10) := by rw [hU10]; exact HV9.out.lay hfb _
                  have HM10 : Hid (FMap U10 n9 (fun _ _ => none)) := by rw [hU10]; exact HM9.out.same (put_heap_ne _ _ _ _ _ hna9)
                  clear hU10
                  simp only [Act.put]
                  refine ⟨fun _ => HV10.out.z, ?_⟩
                  refine wpAnyJ_stepJ _ _ _ _ [18] (by kernel_rfl) rfl (by kernel_rfl) ?_
                  intro i hi
                  obtain rfl : i = 18 := by simpa using hi
                  refine wpOp_list _ rfl ?_
                  go_wp2_with fail
                  refine ⟨fun _ => HV10.out.z, ?_⟩
                  refine wpAnyJ_stepJ _ _ _ _ [19] (by kernel_rfl) rfl (by kernel_rfl) ?_
                  intro i hi
                  obtain rfl : i = 19 := by simpa using hi
                  refine wpOp_list _ rfl ?_
                  go_wp2_with fail
                  refine ⟨fun _ => HV10.out.z, ?_⟩
                  refine wpAnyJ_stepJ _ _ _ _ [20] (by kernel_rfl) rfl (by kernel_rfl) ?_
                  intro i hi
                  obtain rfl : i = 20 := by simpa using hi
                  have HF11 := hid_of (HFIN.out (put U10 ab (encA { B.a with av := fun _ => .slice none 0 0, gr := fun _ => 0, rt := fun _ => 0, tk := fun _ => false, turn := fun _ => 0, pt := fun _ => .pointer none, fm := n9 }) 82) n9 (HV10.out.lay hfb _) (HM10.out.same (put_heap_ne _ _ _ _ _ hna9)) HS9.out)
                  have HZ11 : Hid (Blk (put U10 ab (encA { B.a with av := fun _ => .slice none 0 0, gr := fun _ => 0, rt := fun _ => 0, tk := fun _ => false, turn := fun _ => 0, pt := fun _ => .pointer none, fm := n9 }) 82) fb zA 82) := (HV10.out.lay hfb _).z
                  obtain ⟨V', hV', hl'⟩ := HV10.out.blk.out
                  rw [hV', put_put] at HF11 HZ11
                  clear HV10 HM10
                  subst hV'
                  refine wpOp_list _ rfl ?_
                  go_wp2_with fail
                  refine ⟨fun _ => HZ11.out, ?_⟩
                  refine wpAnyJ_end _ _ _ _ (by kernel_rfl) ?_
                  go_wp2_with fail
                  exact HKR.out _ _ _ _ _ (by kernel_rfl) (HF11)
                · refine wpOp_list _ rfl ?_
                  go_wp2_with fail
                  refine ⟨fun _ => HV5.out.z, ?_⟩
                  refine wpAnyJ_stepJ _ _ _ _ [11, 17] (by kernel_rfl) rfl (by kernel_rfl) ?_
                  intro i hi
                  simp only [List.mem_cons, List.not_mem_nil, or_false] at hi
                  rcases hi with rfl | rfl
                  · refine wpOp_list _ rfl ?_
                    simp only [List.getElem_toArray, List.getElem_cons_succ, List.getElem_cons_zero]
                    refine wpList_makeMapV (by rfl) 80 (by rfl) ?_
                    intro U12 n12 hU12 hn12
                    have HV12 : Hid (RI w10 ab fb (encA { B.a with av := fun _ => .slice none 0 0, gr := fun _ => 0, rt := fun _ => 0, tk := fun _ => false, turn := fun _ => 0 }) U12) := by rw [hU12]; exact HV5.out.map
                    have HM12 : Hid (FMap U12 n12 (fun _ _ => none)) := by rw [hU12, hn12]; exact FMap.new _
                    have hna12 : n12 ≠ ab := fun e => by have := HV5.out.blk.lt; omega
                    have HS12 : Hid (w10.heap.size ≤ n12) := by rw [hn12]; exact HV5.out.size
                    clear hU12 hn12
                    simp only [Act.put, List.setIfInBounds_toArray, List.set_cons_succ, List.set_cons_zero]
                    refine ⟨fun _ => HV12.out.z, ?_⟩
                    refine wpAnyJ_stepJ _ _ _ _ [17] (by kernel_rfl) rfl (by kernel_rfl) ?_
                    intro i hi
                    obtain rfl : i = 17 := by simpa using hi
                    refine wpOp_list _ rfl ?_
                    simp only [List.getElem_toArray, List.getElem_cons_succ, List.getElem_cons_zero]
                    refine wpList_store_midV (by rfl) 79 (.tmp 172) (.tmp 167) (by rfl) ab 30 (encA { B.a with av := fun _ => .slice none 0 0, gr := fun _ => 0, rt := fun _ => 0, tk := fun _ => false, turn := fun _ => 0 }) (encA { B.a with av := fun _ => .slice none 0 0, gr := fun _ => 0, rt := fun _ => 0, tk := fun _ => false, turn := fun _ => 0, pt := fun _ => .pointer none }) #[.pointer none, .pointer none, .pointer none, .pointer none, .pointer none, .pointer none, .pointer none] 82 (by kernel_rfl) (by kernel_rfl) (by exact HV12.out.blk) (by kernel_rfl) (by rw [encA_size]; decide) (by simp [Value.oneCell']) (by rw [encA_size, encA_size]) (by exact m_pt _) ?_
                    intro U13 hU13
                    have HV13 : Hid (RI w10 ab fb (encA { B.a with av := fun _ => .slice none 0 0, gr := fun _ => 0, rt := fun _ => 0, tk := fun _ => false, turn := fun _ => 0, pt := fun _ => .pointer none }) U13) := by rw [hU13]; exact HV12.out.lay hfb _
                    have HM13 : Hid (FMap U13 n12 (fun _ _ => none)) := by rw [hU13]; exact HM12.out.same (put_heap_ne _ _ _ _ _ hna12)
                    clear hU13
                    simp only [Act.put]
                    refine ⟨fun _ => HV13.out.z, ?_⟩
                    refine wpAnyJ_stepJ _ _ _ _ [18] (by kernel_rfl) rfl (by kernel_rfl) ?_
                    intro i hi
                    obtain rfl : i = 18 := by simpa using hi
                    refine wpOp_list _ rfl ?_
                    go_wp2_with fail
                    refine ⟨fun _ => HV13.out.z, ?_⟩
                    refine wpAnyJ_stepJ _ _ _ _ [19] (by kernel_rfl) rfl (by kernel_rfl) ?_
                    intro i hi
                    obtain rfl : i = 19 := by simpa using hi
                    refine wpOp_list _ rfl ?_
                    go_wp2_with fail
                    refine ⟨fun _ => HV13.out.z, ?_⟩
                    refine wpAnyJ_stepJ _ _ _ _ [20] (by kernel_rfl) rfl (by kernel_rfl) ?_
                    intro i hi
                    obtain rfl : i = 20 := by simpa using hi
                    have HF14 := hid_of (HFIN.out (put U13 ab (encA { B.a with av := fun _ => .slice none 0 0, gr := fun _ => 0, rt := fun _ => 0, tk := fun _ => false, turn := fun _ => 0, pt := fun _ => .pointer none, fm := n12 }) 82) n12 (HV13.out.lay hfb _) (HM13.out.same (put_heap_ne _ _ _ _ _ hna12)) HS12.out)
                    have HZ14 : Hid (Blk (put U13 ab (encA { B.a with av := fun _ => .slice none 0 0, gr := fun _ => 0, rt := fun _ => 0, tk := fun _ => false, turn := fun _ => 0, pt := fun _ => .pointer none, fm := n12 }) 82) fb zA 82) := (HV13.out.lay hfb _).z
                    obtain ⟨V', hV', hl'⟩ := HV13.out.blk.out
                    rw [hV', put_put] at HF14 HZ14
                    clear HV13 HM13
                    subst hV'
                    refine wpOp_list _ rfl ?_
                    go_wp2_with fail
                    refine ⟨fun _ => HZ14.out, ?_⟩
                    refine wpAnyJ_end _ _ _ _ (by kernel_rfl) ?_
                    go_wp2_with fail
                    exact HKR.out _ _ _ _ _ (by kernel_rfl) (HF14)
                  · refine wpOp_list _ rfl ?_
                    simp only [List.getElem_toArray, List.getElem_cons_succ, List.getElem_cons_zero]
                    refine wpList_store_midV (by rfl) 79 (.tmp 172) (.tmp 167) (by rfl) ab 30 (encA { B.a with av := fun _ => .slice none 0 0, gr := fun _ => 0, rt := fun _ => 0, tk := fun _ => false, turn := fun _ => 0 }) (encA { B.a with av := fun _ => .slice none 0 0, gr := fun _ => 0, rt := fun _ => 0, tk := fun _ => false, turn := fun _ => 0, pt := fun _ => .pointer none }) #[.pointer none, .pointer none, .pointer none, .pointer none, .pointer none, .pointer none, .pointer none] 82 (by kernel_rfl) (by kernel_rfl) (by exact HV5.out.blk) (by kernel_rfl) (by rw [encA_size]; decide) (by simp [Value.oneCell']) (by rw [encA_size, encA_size]) (by exact m_pt _) ?_
                    intro U15 hU15
                    have HV15 : Hid (RI w10 ab fb (encA { B.a with av := fun _ => .slice none 0 0, gr := fun _ => 0, rt := fun _ => 0, tk := fun _ => false, turn := fun _ => 0, pt := fun _ => .pointer none }) U15) := by rw [hU15]; exact HV5.out.lay hfb _
                    clear hU15
                    simp only [Act.put]
                    refine ⟨fun _ => HV15.out.z, ?_⟩
                    refine wpAnyJ_stepJ _ _ _ _ [11] (by kernel_rfl) rfl (by kernel_rfl) ?_
                    intro i hi
                    obtain rfl : i = 11 := by simpa using hi
                    refine wpOp_list _ rfl ?_
                    simp only [List.getElem_toArray, List.getElem_cons_succ, List.getElem_cons_zero]
                    refine wpList_makeMapV (by rfl) 80 (by rfl) ?_
                    intro U16 n16 hU16 hn16
                    have HV16 : Hid (RI w10 ab fb (encA { B.a with av := fun _ => .slice none 0 0, gr := fun _ => 0, rt := fun _ => 0, tk := fun _ => false, turn := fun _ => 0, pt := fun _ => .pointer none }) U16) := by rw [hU16]; exact HV15.out.map
                    have HM16 : Hid (FMap U16 n16 (fun _ _ => none)) := by rw [hU16, hn16]; exact FMap.new _
                    have hna16 : n16 ≠ ab := fun e => by have := HV15.out.blk.lt; omega
                    have HS16 : Hid (w10.heap.size ≤ n16) := by rw [hn16]; exact HV15.out.size
                    clear hU16 hn16
                    simp only [Act.put, List.setIfInBounds_toArray, List.set_cons_succ, List.set_cons_zero]
                    refine ⟨fun _ => HV16.out.z, ?_⟩
                    refine wpAnyJ_stepJ _ _ _ _ [18] (by kernel_rfl) rfl (by kernel_rfl) ?_
                    intro i hi
                    obtain rfl : i = 18 := by simpa using hi
                    refine wpOp_list _ rfl ?_
                    go_wp2_with fail
                    refine ⟨fun _ => HV16.out.z, ?_⟩
                    refine wpAnyJ_stepJ _ _ _ _ [19] (by kernel_rfl) rfl (by kernel_rfl) ?_
                    intro i hi
                    obtain rfl : i = 19 := by simpa using hi
                    refine wpOp_list _ rfl ?_
                    go_wp2_with fail
                    refine ⟨fun _ => HV16.out.z, ?_⟩
                    refine wpAnyJ_stepJ _ _ _ _ [20] (by kernel_rfl) rfl (by kernel_rfl) ?_
                    intro i hi
                    obtain rfl : i = 20 := by simpa using hi
                    have HF17 := hid_of (HFIN.out (put U16 ab (encA { B.a with av := fun _ => .slice none 0 0, gr := fun _ => 0, rt := fun _ => 0, tk := fun _ => false, turn := fun _ => 0, pt := fun _ => .pointer none, fm := n16 }) 82) n16 (HV16.out.lay hfb _) (HM16.out.same (put_heap_ne _ _ _ _ _ hna16)) HS16.out)
                    have HZ17 : Hid (Blk (put U16 ab (encA { B.a with av := fun _ => .slice none 0 0, gr := fun _ => 0, rt := fun _ => 0, tk := fun _ => false, turn := fun _ => 0, pt := fun _ => .pointer none, fm := n16 }) 82) fb zA 82) := (HV16.out.lay hfb _).z
                    obtain ⟨V', hV', hl'⟩ := HV16.out.blk.out
                    rw [hV', put_put] at HF17 HZ17
                    clear HV16 HM16
                    subst hV'
                    refine wpOp_list _ rfl ?_
                    go_wp2_with fail
                    refine ⟨fun _ => HZ17.out, ?_⟩
                    refine wpAnyJ_end _ _ _ _ (by kernel_rfl) ?_
                    go_wp2_with fail
                    exact HKR.out _ _ _ _ _ (by kernel_rfl) (HF17)
          have e5 : (o.k == 5) = false := by simp; omega
          · have HF : Hid (AI own2 w10 ab xb pbs (stepS σ o) B acc ∧ JI (stepS σ o) B acc ∧ Ext own2 own2 SA w10 w10) := ⟨H10.out, other_ji HJ.out (by omega) (by omega) (by omega) (by omega) (by omega), Ext.refl _ _ _⟩
            clear hk01 hk3 hk4 hk5
            go_wp2_with fail
            exact HKR.out _ _ own2 B acc (by kernel_rfl) (HF)
        case rest =>
          rintro a11 w11 ⟨u2, own3, B3, acc3, rfl, hd⟩
          unfold fr27
          obtain ⟨h11, J11, hx11⟩ := hd.out
          have hbo3 := HBO.out.ext hx11 (by rw [hmo]; unfold SA; omega)
          have hbs3 := HBS.out.ext hx11 (by rw [hms]; unfold SA; omega)
          have cp0 := hbo3.cell 0
          simp only [List.getElem?_toArray, List.getElem?_cons_zero] at cp0
          have HFIN : Hid (∀ n, AI own3 (w11.drewN n) ab xb pbs (stepS σ o) B3 acc3 ∧ JI (stepS σ o) B3 acc3 ∧ Ext own own3 SA w (w11.drewN n)) := fun n => ⟨h11.below (below_drewN (Below.refl _ _)), J11, (HXX.out.trans hx11).shut (below_drewN (Below.refl _ _))⟩
          have hbk3 := h11.bk.blk
          have hol := hbo3.lt
          by_cases hk3 : o.k = 3
          · clear hbk3
            go_wp2_with fail
            refine bodyPost_end (v := .tuple #[]) (results_none rfl _ _ _) rfl ?_
            exact ⟨rfl, own3, B3, acc3, HFIN.out 0⟩
          · have hk3' : (o.k == 3) = false := by simp; exact hk3
            have n1 : w.heap.size ≠ ab := hbo3.ne_of_T hbk3 (by decide)
            have n2 : w.heap.size + 1 ≠ ab := hbs3.ne_of_T hbk3 (by decide)
            have HRG3 := hid_of (links_range h11.rr.blk)
            have n3 : B3.a.rg ≠ ab := h11.rr.blk.ne_of_T hbk3 (by decide)
            have hf0 := J11.on.f0
            have HPT3 : Hid (∀ k, k < 6 → ∃ ad cap, ∀ V : World, V.heap = w11.heap → Calls Tryd.prog 16 #[.pointer (some ⟨pbs k, 0, none⟩)] V fun e w' => e = .returned (.slice ad (σ.p k).atts.length cap) ∧ w' = V) := fun k hk => by
              obtain ⟨L, e1, e2, e3⟩ := h11.base.link k hk
              obtain ⟨ad, cap, hv⟩ := e3.form'
              refine ⟨ad, cap, fun V hV => ?_⟩
              rw [← e1, show (σ.p k).atts.length = ((stepS σ o).p k).atts.length by rw [stepS_atts σ o hk3], ← hv]
              exact attempts_any L ((stepS σ o).p k) _ (by unfold Blk at e2 ⊢; rw [hV]; exact e2)
            have HIX := hid_of (index_pagg pbs)
            have HSN := hid_of hbs3
            clear hbs3 hbo3 h11 J11 hx11 hd
            obtain ⟨w12, rfl, hl12⟩ := hbk3.out
            rw [put_cell_ne _ _ _ _ _ _ _ n1] at cp0
            rw [put_size] at hol
            have hsv : ∀ k, k < 6 → w12.cell? ⟨w.heap.size + 1, k, none⟩ = some (.int .i64 (lens σ k)) := fun k hk => by
              have := HSN.out.cell k
              rw [seen_get _ _ hk, put_cell_ne _ _ _ _ _ _ _ n2] at this
              exact this
            have HSV := hid_of hsv
            have HSL : w.heap.size + 1 < w12.heap.size := by have := HSN.out.lt; rw [put_size] at this; exact this
            clear hsv HSN
            go_upto_region 31 with fail
            refine wp_region_list ?_
            go_wp2_with ((with_reducible show wpList _ _ _ ({ dst := _, op := Op.load 47 _, type := _, pos := _, after := _, guard := _ } :: _) _ _); refine wpList_load_mid rfl 47 (.tmp 183) rfl B3.a.rg 1 rfl (links6 pbs).toList _ HRG3.out (by rfl) (by rfl) (by rfl) ?_; rw [Array.toArray_toList])
            unfold links6
            go_loopw [185] (fun i wr => ∃ k n : Nat, k ≤ 6 ∧ i = .int .i64 k ∧ wr = (put w12 ab (encA B3.a) 82).drewN n) (fun i _ => 6 - (intOf i).toNat)
            case atStart => exact ⟨0, 0, by omega, rfl, rfl⟩
            case round =>
              obtain ⟨k, n, hk, rfl, rfl⟩ := hrel
              by_cases hk6 : k < 6
              · have hix := HIX.out k hk6
                obtain ⟨ad, cap, hat⟩ := HPT3.out k hk6
                have HAT := hid_of hat
                have hse := HSV.out k hk6
                clear hat
                have hki : ((k : Nat) : Int) < 6 := by omega
                have hln : (((σ.p k).atts.length : Nat) : Int) = lens σ k := rfl
                go_wp2_with fail
                refine wp_region_qtail 16 mixed (by kernel_rfl) ?_
                simp only [List.take_succ_cons, List.take_zero, List.drop_succ_cons, List.drop_zero]
                repeat (go_big_quiet_step ((exact HAT.out ((put w12 ab (encA B3.a) 82).drewN (n + 1)) rfl _)))
                refine wpQuiet_nil ?_
                have hmeas : Hid (6 - (intOf (.int .i64 ((k : Nat) + 1))).toNat < 6 - (intOf (.int .i64 (k : Nat))).toNat) := by simp [intOf, Hid]; omega
                go_wp2_with fail
                go_roundw
                case rel => exact ⟨k + 1, n + 1, hk6, by go_num, rfl⟩
                case measure => exact hmeas.out
              · have hki : ¬ ((k : Nat) : Int) < 6 := by omega
                go_wp2_with fail
                refine bodyPost_end (v := .tuple #[]) (results_none rfl _ _ _) rfl ?_
                exact ⟨rfl, own3, B3, acc3, HFIN.out n⟩
end Go.Proofs.Qxb6500750aDoor
