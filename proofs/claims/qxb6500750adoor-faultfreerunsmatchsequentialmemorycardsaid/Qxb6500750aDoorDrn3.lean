import Derived.Test.Qxb6500750aDoorDrn2
namespace Go.Proofs.Qxb6500750aDoor
open Go.RowKit
/-! ### The drain: one measure -/
theorem ind_le (b : Bool) : 0 ≤ ind b ∧ ind b ≤ 1 := by cases b <;> decide
/-- At most one of the seven. -/
theorem one_of_seven (P : Nat → Bool) (C : Int) (hC : 0 ≤ C) (h1 : ∀ t t', t < 7 → t' < 7 → P t = true → P t' = true → t = t') (h2 : ∀ t, t < 7 → P t = true → 1 ≤ C) :
    ind (P 0) + ind (P 1) + ind (P 2) + ind (P 3) + ind (P 4) + ind (P 5) + ind (P 6) ≤ C := by
  have key : ∀ t t', t < 7 → t' < 7 → t ≠ t' → P t = true → ind (P t') = 0 := fun t t' a b c d => by
    cases e : P t'
    · rfl
    · exact absurd (h1 t t' a b d e) c
  by_cases e0 : P 0 = true
  · have := h2 0 (by omega) e0
    rw [key 0 1 (by omega) (by omega) (by omega) e0, key 0 2 (by omega) (by omega) (by omega) e0, key 0 3 (by omega) (by omega) (by omega) e0, key 0 4 (by omega) (by omega) (by omega) e0, key 0 5 (by omega) (by omega) (by omega) e0, key 0 6 (by omega) (by omega) (by omega) e0]
    have := (ind_le (P 0)).2; omega
  by_cases e1 : P 1 = true
  · have := h2 1 (by omega) e1
    rw [key 1 0 (by omega) (by omega) (by omega) e1, key 1 2 (by omega) (by omega) (by omega) e1, key 1 3 (by omega) (by omega) (by omega) e1, key 1 4 (by omega) (by omega) (by omega) e1, key 1 5 (by omega) (by omega) (by omega) e1, key 1 6 (by omega) (by omega) (by omega) e1]
    have := (ind_le (P 1)).2; omega
  by_cases e2 : P 2 = true
  · have := h2 2 (by omega) e2
    rw [key 2 0 (by omega) (by omega) (by omega) e2, key 2 1 (by omega) (by omega) (by omega) e2, key 2 3 (by omega) (by omega) (by omega) e2, key 2 4 (by omega) (by omega) (by omega) e2, key 2 5 (by omega) (by omega) (by omega) e2, key 2 6 (by omega) (by omega) (by omega) e2]
    have := (ind_le (P 2)).2; omega
  by_cases e3 : P 3 = true
  · have := h2 3 (by omega) e3
    rw [key 3 0 (by omega) (by omega) (by omega) e3, key 3 1 (by omega) (by omega) (by omega) e3, key 3 2 (by omega) (by omega) (by omega) e3, key 3 4 (by omega) (by omega) (by omega) e3, key 3 5 (by omega) (by omega) (by omega) e3, key 3 6 (by omega) (by omega) (by omega) e3]
    have := (ind_le (P 3)).2; omega
  by_cases e4 : P 4 = true
  · have := h2 4 (by omega) e4
    rw [key 4 0 (by omega) (by omega) (by omega) e4, key 4 1 (by omega) (by omega) (by omega) e4, key 4 2 (by omega) (by omega) (by omega) e4, key 4 3 (by omega) (by omega) (by omega) e4, key 4 5 (by omega) (by omega) (by omega) e4, key 4 6 (by omega) (by omega) (by omega) e4]
    have := (ind_le (P 4)).2; omega
  by_cases e5 : P 5 = true
  · have := h2 5 (by omega) e5
    rw [key 5 0 (by omega) (by omega) (by omega) e5, key 5 1 (by omega) (by omega) (by omega) e5, key 5 2 (by omega) (by omega) (by omega) e5, key 5 3 (by omega) (by omega) (by omega) e5, key 5 4 (by omega) (by omega) (by omega) e5, key 5 6 (by omega) (by omega) (by omega) e5]
    have := (ind_le (P 5)).2; omega
  · have z : ∀ t, ¬ P t = true → ind (P t) = 0 := fun t h => by
      have : P t = false := by simpa using h
      rw [this]; rfl
    rw [z 0 e0, z 1 e1, z 2 e2, z 3 e3, z 4 e4, z 5 e5]
    by_cases e6 : P 6 = true
    · have := h2 6 (by omega) e6; have := (ind_le (P 6)).2; omega
    · rw [z 6 e6]; omega
/-- Target t works for the request i places behind the first one of master m. -/
def srv (x : XS) (m i t : Nat) : Bool := (x.tp t).busy && !(x.tp t).orph && (mo x t == m) && ((x.tp t).sq == (x.mp m).rt + (i : Nat))
theorem srv_iff (x : XS) (m i t : Nat) : srv x m i t = true ↔ flying x t ∧ mo x t = m ∧ (x.tp t).sq = (x.mp m).rt + (i : Nat) := by
  unfold srv flying
  simp [and_assoc]
theorem srv_sum {N : Int} {A : Nat} {σ : SS} (h : XInv N A σ) (m : Nat) (i : Nat) :
    ind (srv σ.x m i 0) + ind (srv σ.x m i 1) + ind (srv σ.x m i 2) + ind (srv σ.x m i 3) + ind (srv σ.x m i 4) + ind (srv σ.x m i 5) + ind (srv σ.x m i 6) ≤ ind (decide ((σ.x.mp m).rt + (i : Nat) < (σ.x.mp m).gr)) := by
  refine one_of_seven (srv σ.x m i) _ (ind_le _).1 (fun t t' h7 h7' e e' => ?_) (fun t h7 e => ?_)
  · obtain ⟨a1, a2, a3⟩ := (srv_iff _ _ _ _).1 e
    obtain ⟨b1, b2, b3⟩ := (srv_iff _ _ _ _).1 e'
    exact Decidable.byContradiction fun hne => h.dist t t' h7 h7' a1 b1 hne ⟨a2.trans b2.symm, a3.trans b3.symm⟩
  · obtain ⟨a1, a2, a3⟩ := (srv_iff _ _ _ _).1 e
    obtain ⟨_, c2, _⟩ := h.fly t h7 a1
    rw [a2, a3] at c2
    rw [decide_eq_true c2]; decide
theorem srv_four (r g : Int) (h : r ≤ g) (h4 : g ≤ r + 4) : ind (decide (r + ((0 : Nat) : Int) < g)) + ind (decide (r + ((1 : Nat) : Int) < g)) + ind (decide (r + ((2 : Nat) : Int) < g)) + ind (decide (r + ((3 : Nat) : Int) < g)) = g - r := by
  have hd : g = r ∨ g = r + 1 ∨ g = r + 2 ∨ g = r + 3 ∨ g = r + 4 := by omega
  have e : ∀ (k : Nat), ind (decide (r + (k : Nat) < g)) = if r + (k : Nat) < g then 1 else 0 := fun k => by unfold ind; simp
  rw [e, e, e, e]
  rcases hd with rfl | rfl | rfl | rfl | rfl <;> simp <;> omega
/-- What a target costs at most. -/
theorem fcost_le {N : Int} {A : Nat} {σ : SS} (h : XInv N A σ) {B : BK} {acc : Nat → List Req} (J : JI σ B acc) {t : Nat} (ht : t < 7) :
    0 ≤ fcost σ.x σ.p t ∧ (flying σ.x t → 1 ≤ fcost σ.x σ.p t) ∧
    fcost σ.x σ.p t ≤ 256 * ((ind (srv σ.x 0 0 t) + ind (srv σ.x 0 1 t) + ind (srv σ.x 0 2 t) + ind (srv σ.x 0 3 t)) + (ind (srv σ.x 1 0 t) + ind (srv σ.x 1 1 t) + ind (srv σ.x 1 2 t) + ind (srv σ.x 1 3 t)) + (ind (srv σ.x 2 0 t) + ind (srv σ.x 2 1 t) + ind (srv σ.x 2 2 t) + ind (srv σ.x 2 3 t))) := by
  have nn : ∀ m i, 0 ≤ ind (srv σ.x m i t) := fun m i => (ind_le _).1
  have n00 := nn 0 0; have n01 := nn 0 1; have n02 := nn 0 2; have n03 := nn 0 3
  have n10 := nn 1 0; have n11 := nn 1 1; have n12 := nn 1 2; have n13 := nn 1 3
  have n20 := nn 2 0; have n21 := nn 2 1; have n22 := nn 2 2; have n23 := nn 2 3
  by_cases hf : flying σ.x t
  · have hb : 1 ≤ fcost σ.x σ.p t ∧ fcost σ.x σ.p t ≤ 256 := by
      have hf' : (σ.x.tp t).busy = true ∧ (σ.x.tp t).orph = false := hf
      unfold fcost
      rw [if_pos hf']
      split
      · rename_i h6
        obtain ⟨w0, w1, _⟩ := (h.port t h6).pend ((h.busy t h6).symm.trans hf.1)
        obtain ⟨b, f, _, _, _, hk⟩ := J.air t ht hf
        have e1 := hk.en
        have e2 := hk.n4
        omega
      · omega
    refine ⟨by omega, fun _ => hb.1, ?_⟩
    obtain ⟨c1, c2, _⟩ := h.fly t ht hf
    have hm := h.tm t ht
    have hm3 : mo σ.x t < 3 := by unfold mo; omega
    obtain ⟨_, d2, d3, d4, _⟩ := h.cnt _ hm3
    obtain ⟨i, hi, hi4⟩ : ∃ i : Nat, (σ.x.tp t).sq = (σ.x.mp (mo σ.x t)).rt + (i : Nat) ∧ i < 4 := ⟨((σ.x.tp t).sq - (σ.x.mp (mo σ.x t)).rt).toNat, by omega, by omega⟩
    have hs : ind (srv σ.x (mo σ.x t) i t) = 1 := by rw [(srv_iff _ _ _ _).2 ⟨hf, rfl, hi⟩]; rfl
    generalize mo σ.x t = m at *
    have hm' : m = 0 ∨ m = 1 ∨ m = 2 := by omega
    have hi' : i = 0 ∨ i = 1 ∨ i = 2 ∨ i = 3 := by omega
    rcases hm' with rfl | rfl | rfl <;> rcases hi' with rfl | rfl | rfl | rfl <;> omega
  · have : fcost σ.x σ.p t = 0 := by unfold fcost; exact if_neg hf
    refine ⟨by omega, fun h => absurd h hf, by omega⟩
theorem phi_nn {N : Int} {A : Nat} {σ : SS} (h : XInv N A σ) {B : BK} {acc : Nat → List Req} (J : JI σ B acc) : 0 ≤ phi σ := by
  have c0 := h.cnt 0 (by omega); have c1 := h.cnt 1 (by omega); have c2 := h.cnt 2 (by omega)
  have f0 := (fcost_le h J (t := 0) (by omega)).1; have f1 := (fcost_le h J (t := 1) (by omega)).1; have f2 := (fcost_le h J (t := 2) (by omega)).1
  have f3 := (fcost_le h J (t := 3) (by omega)).1; have f4 := (fcost_le h J (t := 4) (by omega)).1; have f5 := (fcost_le h J (t := 5) (by omega)).1; have f6 := (fcost_le h J (t := 6) (by omega)).1
  unfold phi; omega
theorem phi_le {N : Int} {A : Nat} {σ : SS} (h : XInv N A σ) {B : BK} {acc : Nat → List Req} (J : JI σ B acc) : phi σ ≤ 3072 := by
  obtain ⟨_, a0, b0, c0, _⟩ := h.cnt 0 (by omega)
  obtain ⟨_, a1, b1, c1, _⟩ := h.cnt 1 (by omega)
  obtain ⟨_, a2, b2, c2, _⟩ := h.cnt 2 (by omega)
  have f0 := (fcost_le h J (t := 0) (by omega)).2.2; have f1 := (fcost_le h J (t := 1) (by omega)).2.2; have f2 := (fcost_le h J (t := 2) (by omega)).2.2
  have f3 := (fcost_le h J (t := 3) (by omega)).2.2; have f4 := (fcost_le h J (t := 4) (by omega)).2.2; have f5 := (fcost_le h J (t := 5) (by omega)).2.2; have f6 := (fcost_le h J (t := 6) (by omega)).2.2
  have s0 := srv_four _ _ a0 (by omega)
  have s1 := srv_four _ _ a1 (by omega)
  have s2 := srv_four _ _ a2 (by omega)
  have q00 := srv_sum h 0 0; have q01 := srv_sum h 0 1; have q02 := srv_sum h 0 2; have q03 := srv_sum h 0 3
  have q10 := srv_sum h 1 0; have q11 := srv_sum h 1 1; have q12 := srv_sum h 1 2; have q13 := srv_sum h 1 3
  have q20 := srv_sum h 2 0; have q21 := srv_sum h 2 1; have q22 := srv_sum h 2 2; have q23 := srv_sum h 2 3
  unfold phi
  generalize fcost σ.x σ.p 0 = g0 at *; generalize fcost σ.x σ.p 1 = g1 at *; generalize fcost σ.x σ.p 2 = g2 at *; generalize fcost σ.x σ.p 3 = g3 at *
  generalize fcost σ.x σ.p 4 = g4 at *; generalize fcost σ.x σ.p 5 = g5 at *; generalize fcost σ.x σ.p 6 = g6 at *
  have tot := Int.add_le_add (Int.add_le_add (Int.add_le_add (Int.add_le_add q00 q01) (Int.add_le_add q02 q03)) (Int.add_le_add (Int.add_le_add q10 q11) (Int.add_le_add q12 q13))) (Int.add_le_add (Int.add_le_add q20 q21) (Int.add_le_add q22 q23))
  have tf := Int.add_le_add (Int.add_le_add (Int.add_le_add f0 f1) (Int.add_le_add f2 f3)) (Int.add_le_add (Int.add_le_add f4 f5) f6)
  clear q00 q01 q02 q03 q10 q11 q12 q13 q20 q21 q22 q23 f0 f1 f2 f3 f4 f5 f6
  omega
/-- What is left to do, in ticks, is at most n. -/
def Meas (σ : SS) (n : Int) : Prop := ∃ k e f l : Int, 0 ≤ k ∧ 0 ≤ e ∧ 0 ≤ l ∧ (∀ t, t < 7 → ocost σ t ≤ k) ∧ ((∃ m, m < 3 ∧ (σ.x.mp m).gr < (σ.x.mp m).iss) → (∀ t, t < 7 → ¬ flying σ.x t) → 1 ≤ e) ∧ phi σ ≤ f ∧ (∀ m, m < 3 → (σ.x.mp m).iss - (σ.x.mp m).rt ≤ l) ∧ k + e + f + l ≤ n
theorem meas_start {N : Int} {A : Nat} {σ : SS} (h : XInv N A σ) {B : BK} {acc : Nat → List Req} (J : JI σ B acc) : Meas σ 3141 :=
  ⟨64, 1, 3072, 4, by omega, by omega, by omega, fun t _ => (ocost_nn h t).2, fun _ _ => Int.le_refl _, phi_le h J, fun m hm => by have := h.cnt m hm; omega, by omega⟩
theorem busy_parts {N : Int} {A : Nat} {σ : SS} (h : XInv N A σ) (hni : idleX σ.x = false) :
    (∃ t, t < 7 ∧ 1 ≤ ocost σ t) ∨ (∃ t, t < 7 ∧ flying σ.x t) ∨ (∃ m, m < 3 ∧ (σ.x.mp m).gr < (σ.x.mp m).iss) ∨ (∃ m, m < 3 ∧ (σ.x.mp m).rt < (σ.x.mp m).iss) := by
  refine Classical.byContradiction fun hn => ?_
  have hni' : ¬ idleX σ.x = true := by rw [hni]; decide
  apply hni'
  rw [idleX_iff]
  refine ⟨fun m hm => ?_, fun t ht => ?_⟩
  · have := h.cnt m hm
    refine Decidable.byContradiction fun hne => hn (.inr (.inr (.inr ⟨m, hm, by omega⟩)))
  · cases hb : (σ.x.tp t).busy
    · rfl
    · exfalso
      cases ho : (σ.x.tp t).orph
      · exact hn (.inr (.inl ⟨t, ht, hb, ho⟩))
      · refine hn (.inl ⟨t, ht, ?_⟩)
        unfold ocost
        rw [if_pos ⟨hb, ho⟩]
        split
        · rename_i h6
          obtain ⟨w0, w1, _⟩ := (h.port t h6).pend ((h.busy t h6).symm.trans hb)
          omega
        · omega
theorem meas_zero {N : Int} {A : Nat} {σ : SS} (h : XInv N A σ) {B : BK} {acc : Nat → List Req} (J : JI σ B acc) {n : Int} (hM : Meas σ n) (hni : idleX σ.x = false) : 1 ≤ n := by
  obtain ⟨k, e, f, l, k0, e0, l0, hk, he, hf, hl, hn⟩ := hM
  have hp := phi_nn h J
  rcases busy_parts h hni with ⟨t, ht, ho⟩ | ⟨t, ht, ho⟩ | ⟨m, hm, ho⟩ | ⟨m, hm, ho⟩
  · have := hk t ht; omega
  · have : 1 ≤ phi σ := by
      have c0 := h.cnt 0 (by omega); have c1 := h.cnt 1 (by omega); have c2 := h.cnt 2 (by omega)
      have f0 := (fcost_le h J (t := 0) (by omega)).1; have f1 := (fcost_le h J (t := 1) (by omega)).1; have f2 := (fcost_le h J (t := 2) (by omega)).1
      have f3 := (fcost_le h J (t := 3) (by omega)).1; have f4 := (fcost_le h J (t := 4) (by omega)).1; have f5 := (fcost_le h J (t := 5) (by omega)).1; have f6 := (fcost_le h J (t := 6) (by omega)).1
      have fz := (fcost_le h J ht).2.1 ho
      have ht' : t = 0 ∨ t = 1 ∨ t = 2 ∨ t = 3 ∨ t = 4 ∨ t = 5 ∨ t = 6 := by omega
      unfold phi
      rcases ht' with rfl | rfl | rfl | rfl | rfl | rfl | rfl <;> omega
    omega
  · have : 256 ≤ phi σ := by
      have c0 := h.cnt 0 (by omega); have c1 := h.cnt 1 (by omega); have c2 := h.cnt 2 (by omega)
      have f0 := (fcost_le h J (t := 0) (by omega)).1; have f1 := (fcost_le h J (t := 1) (by omega)).1; have f2 := (fcost_le h J (t := 2) (by omega)).1
      have f3 := (fcost_le h J (t := 3) (by omega)).1; have f4 := (fcost_le h J (t := 4) (by omega)).1; have f5 := (fcost_le h J (t := 5) (by omega)).1; have f6 := (fcost_le h J (t := 6) (by omega)).1
      have hm' : m = 0 ∨ m = 1 ∨ m = 2 := by omega
      unfold phi
      rcases hm' with rfl | rfl | rfl <;> omega
    omega
  · have := hl m hm; omega
theorem meas_tick {N N' : Int} {A A' : Nat} {σ : SS} (h : XInv N A σ) {B : BK} {acc : Nat → List Req} (J : JI σ B acc) (p : Int) (h' : XInv N' A' (tickF p σ).1) {n : Int} (hM : Meas σ n) (hni : idleX σ.x = false) : Meas (tickF p σ).1 (n - 1) := by
  obtain ⟨k, e, f, l, k0, e0, l0, hk, he, hf, hl, hn⟩ := hM
  obtain ⟨p1, p2⟩ := phi_tick h J p
  have hlt : ∀ m, m < 3 → ((tickF p σ).1.x.mp m).iss - ((tickF p σ).1.x.mp m).rt ≤ l := fun m hm => by
    obtain ⟨a1, a2, _⟩ := land_tick h J p hm
    have := hl m hm; omega
  have hok : ∀ t, t < 7 → ocost (tickF p σ).1 t ≤ k := fun t ht => by
    have := hk t ht
    rcases ocost_tick h p ht with e | e <;> omega
  by_cases hO : ∃ t, t < 7 ∧ 1 ≤ ocost σ t
  · obtain ⟨t0, h0, h01⟩ := hO
    have hk0 := hk t0 h0
    have hok' : ∀ t, t < 7 → ocost (tickF p σ).1 t ≤ k - 1 := fun t ht => by
      have := hk t ht
      rcases ocost_tick h p ht with e | e <;> omega
    by_cases hF : ∃ t, t < 7 ∧ flying σ.x t
    · exact ⟨k - 1, e + 1, f - 1, l, by omega, by omega, l0, hok', fun _ _ => by omega, by have := p2 hF; omega, hlt, by omega⟩
    · refine ⟨k - 1, e, f, l, by omega, e0, l0, hok', fun ⟨m, hm, hw⟩ _ => ?_, by omega, hlt, by omega⟩
      refine he ⟨m, hm, ?_⟩ (fun t ht hf => hF ⟨t, ht, hf⟩)
      have T := tickTF h p
      obtain ⟨_, emp, _⟩ := handN_all ((tick2 p σ).1.x, (tick2 p σ).2) 3
      have h3 := emp m
      rw [if_pos hm] at h3
      have h3' : (tickF p σ).1.x.mp m = if hands (tick2 p σ).1.x m = true then { (tick2 p σ).1.x.mp m with tk := false, rt := ((tick2 p σ).1.x.mp m).rt + 1 } else { (tick2 p σ).1.x.mp m with tk := false } := h3
      have h2 := T.mp2 hm
      obtain ⟨a1, _⟩ := land_tick h J p hm
      have hg : ((tickF p σ).1.x.mp m).gr = ((tick2 p σ).1.x.mp m).gr := by rw [h3']; split <;> rfl
      have := h2.2.2.2.1
      rw [hg, a1] at hw; omega
  · have hno : ∀ t, t < 7 → ocost (tickF p σ).1 t = 0 := fun t ht => by
      have h1 := (ocost_nn h t).1
      have h2 := (ocost_nn h' t).1
      have h3 : ¬ 1 ≤ ocost σ t := fun e => hO ⟨t, ht, e⟩
      rcases ocost_tick h p ht with e | e <;> omega
    by_cases hF : ∃ t, t < 7 ∧ flying σ.x t
    · refine ⟨k, e, f - 1, l, k0, e0, l0, hok, fun ⟨m, hm, hw⟩ hnf => ?_, by have := p2 hF; omega, hlt, by omega⟩
      obtain ⟨t, ht, hfl⟩ := wait_fly h p hno hm hw
      exact absurd hfl (hnf t ht)
    · by_cases hW : ∃ m, m < 3 ∧ (σ.x.mp m).gr < (σ.x.mp m).iss
      · have h1 := he hW (fun t ht hf => hF ⟨t, ht, hf⟩)
        refine ⟨k, e - 1, f, l, k0, by omega, l0, hok, fun ⟨m, hm, hw⟩ hnf => ?_, by omega, hlt, by omega⟩
        obtain ⟨t, ht, hfl⟩ := wait_fly h p hno hm hw
        exact absurd hfl (hnf t ht)
      · rcases busy_parts h hni with hx | hx | hx | ⟨m0, hm0, hx⟩
        · exact absurd hx hO
        · exact absurd hx hF
        · exact absurd hx hW
        · have hl0 := hl m0 hm0
          have hgi : ∀ m, m < 3 → (σ.x.mp m).gr = (σ.x.mp m).iss := fun m hm => by
            have := h.cnt m hm
            refine Decidable.byContradiction fun hne => hW ⟨m, hm, by omega⟩
          refine ⟨k, e, f, l - 1, k0, e0, by omega, hok, fun ⟨m, hm, hw⟩ hnf => ?_, by omega, fun m hm => ?_, by omega⟩
          · obtain ⟨t, ht, hfl⟩ := wait_fly h p hno hm hw
            exact absurd hfl (hnf t ht)
          · obtain ⟨a1, a2, a3⟩ := land_tick h J p hm
            have hc := h.cnt m hm
            have hlm := hl m hm
            by_cases hr : (σ.x.mp m).rt < (σ.x.mp m).iss
            · have := a3 (fun t ht hf => hF ⟨t, ht, hf⟩) (hgi m hm) hr
              omega
            · omega
end Go.Proofs.Qxb6500750aDoor
