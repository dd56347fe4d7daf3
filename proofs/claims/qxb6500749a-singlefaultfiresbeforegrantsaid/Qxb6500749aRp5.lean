import Derived.Test.Qxb6500749aRl5
namespace Go.Proofs.Qxb6500749a
open Go.RowKit
/-! ### Law 5, plain -/
theorem R5.que {prog : List Int} {fs : List FD} {t : Nat} {Bf Br : BD} {Uf Ur : BusD} {F R : List REP} (h : R5 prog fs t Bf Br Uf Ur F R) (l : Int) : R5 prog fs t Bf Br (queF Uf l) (queF Ur l) F R := by
  have hlog : ∀ U, (queF U l).log = U.log := fun U => by unfold queF; split <;> rfl
  obtain ⟨inp, m, hr, ph, rest⟩ := h.ex
  refine ⟨h.len, h.fse, h.now, h.rl, h.re, inp, m, hr, ?_, rest⟩
  rcases ph with ⟨hs, hl, hu⟩ | ⟨hl, hp⟩
  · exact .inl ⟨hs, hl, by rw [hu]⟩
  · exact .inr ⟨hl, by rw [hlog, hlog]; exact hp⟩
theorem snd_one (f : FD) (s : Nat) (h : f.site ≠ (s : Nat)) : Snd [f] s := fun g hg => by simp at hg; subst hg; exact h
theorem R5.zero (prog : List Int) (f : FD) (hf : f.site < 46) (U : BusD) : R5 prog [f] 0 (bd0 [f]) (bd0 []) U U [] [] := by
  have hR : Ref prog (fun _ => ⟨false, false, 0⟩) 0 (bd0 []) := ⟨⟨Mn.zero _ _ _ fun s _ => snd_nil s, Sh.zero _ _ _ fun s _ _ => snd_nil s, rfl⟩, rfl, rfl⟩
  refine ⟨rfl, rfl, rfl, ⟨⟨fun s _ _ => snd_nil s, fun f h => absurd h (by simp), fun f h => absurd h (by simp), fun f h => absurd h (by simp)⟩, fun j f g hf => absurd hf (by simp)⟩, fun r hr => absurd hr (by simp), fun _ => ⟨false, false, 0⟩, 0, hR, .inl ⟨?_, rfl, rfl⟩, ⟨rfl, Nat.le_refl _, fun j f r hj => absurd hj (by omega), fun f hf => absurd hf (by simp), fun j f _ hf => absurd hf (by simp)⟩, .inl ⟨rfl, rfl⟩, ?_⟩
  · by_cases h1 : f.site < 18 ∨ 40 ≤ f.site
    · exact .inr (Sh.zero _ _ _ fun s h2 h3 => snd_one f s (by omega))
    · exact .inl (Mn.zero _ _ _ fun s h2 => snd_one f s (by omega))
  · by_cases h1 : f.site < 18
    · exact .inl ⟨⟨fun s h2 h3 => snd_one f s (by omega), fun f h => absurd h (by simp), fun f h => absurd h (by simp), fun f h => absurd h (by simp)⟩, fun j f g hf => absurd hf (by simp)⟩
    · exact .inr ⟨fun j f r hj => absurd hj (by omega), fun s h2 => snd_one f s (by omega), fun _ => ⟨rfl, fun k hk => snd_one f (0 + k) (by omega), fun _ _ => rfl⟩⟩
structure Q5 (Rf Rr : RG) : Prop where
  rel : Rel Rf Rr
  k : Rf.kc = false ∧ Rf.ko = true
  r5 : Rf.run = true → Rf.ho = true → Rf.fo.site < 46 → R5 Rf.prog [Rf.fo] Rf.reps.length Rf.BP Rr.BP Rf.uP Rr.uP Rf.reps Rr.reps
theorem Q5.cyc {Rf Rr : RG} (h : Q5 Rf Rr) : Q5 (cycR Rf) (cycR Rr) := by
  have hrun := h.rel.run
  have hrel := h.rel.cyc
  have hk : (cycR Rf).kc = Rf.kc ∧ (cycR Rf).ko = Rf.ko ∧ (cycR Rf).ho = Rf.ho ∧ (cycR Rf).fo = Rf.fo := by
    unfold cycR cy2 cy1
    by_cases hr : Rf.run = true
    · rw [if_pos hr]; exact ⟨rfl, rfl, rfl, rfl⟩
    · rw [if_neg hr]; exact ⟨rfl, rfl, rfl, rfl⟩
  refine ⟨hrel, ⟨hk.1.trans h.k.1, hk.2.1.trans h.k.2⟩, fun _ ho hfo => ?_⟩
  rw [hk.2.2.1] at ho
  rw [hk.2.2.2] at hfo ⊢
  have hQ : R5 Rf.prog [Rf.fo] (if Rf.run = true then Rf else strR Rf).reps.length (if Rf.run = true then Rf else strR Rf).BP (if Rr.run = true then Rr else strR Rr).BP (if Rf.run = true then Rf else strR Rf).uP (if Rr.run = true then Rr else strR Rr).uP (if Rf.run = true then Rf else strR Rf).reps (if Rr.run = true then Rr else strR Rr).reps ∧ (if Rf.run = true then Rf else strR Rf).prog = Rf.prog ∧ (if Rr.run = true then Rr else strR Rr).prog = Rf.prog := by
    rw [← hrun]
    by_cases hr : Rf.run = true
    · rw [if_pos hr, if_pos hr]; exact ⟨h.r5 hr ho hfo, rfl, h.rel.prog.symm⟩
    · rw [if_neg hr, if_neg hr]
      have hn := h.rel.nr (by simpa using hr)
      refine ⟨?_, rfl, h.rel.prog.symm⟩
      show R5 Rf.prog [Rf.fo] Rf.reps.length (bd0 (fsR Rf)) (bd0 (fsR Rr)) Rf.uP Rr.uP Rf.reps Rr.reps
      have hfr : fsR Rr = [] := by unfold fsR fsC fsO; rw [h.rel.kr.1, h.rel.kr.2]; simp
      have hff : fsR Rf = [Rf.fo] := by unfold fsR fsC fsO; rw [h.k.1, h.k.2, ho]; simp
      rw [hfr, hff, hn.2.2.1, hn.2.2.2, ← hn.1]
      exact R5.zero Rf.prog Rf.fo hfo Rf.uP
  unfold cycR
  generalize (if Rf.run = true then Rf else strR Rf) = Qf at *
  generalize (if Rr.run = true then Rr else strR Rr) = Qr at *
  obtain ⟨q, e1, e2⟩ := hQ
  have hs := q.step (snd_one _ _ (by omega)) (snd_one _ _ (by omega)) (snd_one _ _ (by omega))
  show R5 Qf.prog [Rf.fo] (Qf.reps ++ [(pairF Qf.prog Qf.BP Qf.uP).r]).length (pairF Qf.prog Qf.BP Qf.uP).B (pairF Qr.prog Qr.BP Qr.uP).B (pairF Qf.prog Qf.BP Qf.uP).U (pairF Qr.prog Qr.BP Qr.uP).U (Qf.reps ++ [(pairF Qf.prog Qf.BP Qf.uP).r]) (Qr.reps ++ [(pairF Qr.prog Qr.BP Qr.uP).r])
  rw [List.length_append, List.length_singleton, e1, e2]
  exact hs
theorem Q5.cycN : ∀ (n : Nat) {Rf Rr : RG}, Q5 Rf Rr → Q5 (cycN n Rf) (Go.Proofs.Qxb6500749a.cycN n Rr)
  | 0, _, _, h => h
  | n + 1, _, _, h => Q5.cycN n h.cyc
theorem q5_ite {c : Prop} [Decidable c] {a b a' b' : RG} (h1 : c → Q5 a a') (h2 : ¬ c → Q5 b b') : Q5 (if c then a else b) (if c then a' else b') := by
  split
  · rename_i q; exact h1 q
  · rename_i q; exact h2 q
theorem Q5.stp {Rf Rr : RG} (h : Q5 Rf Rr) (o : OpD) : Q5 (stpR Rf o) (stpR Rr o) := by
  have hrel := h.rel.stp o
  have norun : ∀ {x : Prop}, ¬ (Rf.run = true ∨ x) → Rf.run = false := fun q => by
    cases hr : Rf.run
    · rfl
    · exact absurd (.inl hr) q
  have vac : ∀ (A B : RG), Rel A B → A.kc = false ∧ A.ko = true → A.run = false → Q5 A B := fun A B r k q => ⟨r, k, fun z => absurd (q.symm.trans z) (by decide)⟩
  revert hrel
  unfold stpR
  rw [← h.rel.run, ← h.rel.prog, ← h.rel.hc, ← h.rel.ho]
  by_cases k0 : o.k = 0
  · rw [if_pos k0, if_pos k0]
    intro hrel
    by_cases c : Rf.run = true ∨ Rf.prog.length = 64
    · rw [if_pos c, if_pos c]; exact h
    · rw [if_neg c, if_neg c] at hrel ⊢; exact vac _ _ hrel h.k (norun c)
  rw [if_neg k0, if_neg k0]
  by_cases k1 : o.k = 1
  · rw [if_pos k1, if_pos k1]
    intro hrel
    by_cases c : Rf.run = true ∨ mapF o.a = false
    · rw [if_pos c, if_pos c]; exact h
    · rw [if_neg c, if_neg c] at hrel ⊢; exact vac _ _ hrel h.k (norun c)
  rw [if_neg k1, if_neg k1]
  by_cases k2 : o.k = 2
  · rw [if_pos k2, if_pos k2]
    intro hrel
    by_cases c : Rf.run = true ∨ o.e ≥ 4
    · rw [if_pos c, if_pos c]; exact h
    · rw [if_neg c, if_neg c] at hrel ⊢
      by_cases c2 : cmpS o.a = true ∧ Rf.hc = false
      · rw [if_pos c2, if_pos c2] at hrel ⊢; exact vac _ _ hrel h.k (norun c)
      · rw [if_neg c2, if_neg c2] at hrel ⊢
        by_cases c3 : cmpS o.a = false ∧ Rf.ho = false
        · rw [if_pos c3, if_pos c3] at hrel ⊢; exact vac _ _ hrel h.k (norun c)
        · rw [if_neg c3, if_neg c3]; exact h
  rw [if_neg k2, if_neg k2]
  by_cases k3 : o.k = 3
  · rw [if_pos k3, if_pos k3]
    intro hrel
    exact ⟨hrel, h.k, fun q1 q2 q3 => (h.r5 q1 q2 q3).que o.a⟩
  rw [if_neg k3, if_neg k3]
  by_cases k4 : o.k = 4
  · rw [if_pos k4, if_pos k4]
    intro _
    by_cases c : o.a > 400
    · rw [if_pos c, if_pos c]; exact h
    · rw [if_neg c, if_neg c]; exact h.cycN _
  rw [if_neg k4, if_neg k4]
  by_cases k5 : o.k = 5
  · rw [if_pos k5, if_pos k5]
    intro hrel
    by_cases c : Rf.run = true ∨ mapF o.a = false ∨ mapF ((o.a + 12) % 4294967296) = false
    · rw [if_pos c, if_pos c]; exact h
    · rw [if_neg c, if_neg c] at hrel ⊢; exact vac _ _ hrel h.k (norun c)
  rw [if_neg k5, if_neg k5]
  intro _
  exact h
theorem q5_play (s : Nat → OpD) : ∀ n, Q5 (plyN s false true n) (plyN s false false n)
  | 0 => ⟨rel_play s false true 0, ⟨rfl, rfl⟩, fun q => Bool.noConfusion (show false = true from q)⟩
  | n + 1 => (q5_play s n).stp (s n)
/-- What law 5 asks. -/
theorem Q5.up {Rf Rr : RG} (h : Q5 Rf Rr) (ho : Rf.ho = true) (hf : Rf.fo.site < 46) :
    ∃ m, Up m Rf.reps Rr.reps ∧ (∀ j f r g, j + 2 < m → Rf.reps[j]? = some f → Rr.reps[j]? = some r → Rf.reps[j + 2]? = some g → f.raw = r.raw) ∧ (∀ r ∈ Rr.reps, r.del = r.sha) ∧ ∃ s, Rr.uP.log = Rf.uP.log ++ s := by
  cases hr : Rf.run
  · have hn := h.rel.nr hr
    rw [hn.2.2.1, hn.2.2.2]
    exact ⟨0, ⟨rfl, Nat.le_refl _, fun j f r hj => absurd hj (by omega), fun f hf => absurd hf (by simp), fun j f _ hf => absurd hf (by simp)⟩, fun j f r g hj => absurd hj (by omega), fun r hr => absurd hr (by simp), h.rel.opens⟩
  · have h5 := h.r5 hr ho hf
    obtain ⟨inp, m, _, _, up, _, rw5⟩ := h5.ex
    refine ⟨m, up, fun j f r g hj hf' hr' hg => ?_, h5.re, h.rel.opens⟩
    rcases rw5 with ⟨_, q⟩ | ⟨q, _⟩
    · obtain ⟨g', hg'⟩ : ∃ g', Rr.reps[j + 2]? = some g' := by
        have hl : j + 2 < Rr.reps.length := by
          have h1 := up.le
          have h2 := up.len
          omega
        exact ⟨_, List.getElem?_eq_getElem hl⟩
      have e1 := q j f g hf' hg
      have e2 := h5.rl.2 j r g' hr' hg'
      have e3 := (up.same (j + 2) g g' hj hg hg').del
      rw [← e1, ← e2, e3]
    · exact q j f r (by omega) hf' hr'
/-! ### The law's two indices -/
def chg (F R : List REP) (j : Nat) : Bool := match F[j]?, R[j]? with
  | some f, some r => neB f.raw r.raw || neB f.del r.del || neB f.sha r.sha
  | _, _ => false
def nes (F : List REP) (j : Nat) : Bool := match F[j]? with
  | some f => neB f.del f.sha
  | none => false
def lst (p : Nat → Bool) (n : Nat) : Nat → Nat
  | 0 => n
  | k + 1 => if p (n - (k + 1)) = true then n - (k + 1) else lst p n k
theorem lst_spec (p : Nat → Bool) (n : Nat) : ∀ k, k ≤ n → (n - k ≤ lst p n k ∧ lst p n k ≤ n) ∧ (∀ j, n - k ≤ j → j < lst p n k → p j = false) ∧ (lst p n k < n → p (lst p n k) = true)
  | 0, _ => ⟨⟨by show n - 0 ≤ n; omega, Nat.le_refl _⟩, fun j h1 h2 => absurd h2 (by show ¬ j < n; omega), fun h => absurd h (by show ¬ n < n; omega)⟩
  | k + 1, hk => by
    have ih := lst_spec p n k (by omega)
    unfold lst
    split
    · rename_i q
      exact ⟨⟨Nat.le_refl _, by omega⟩, fun j h1 h2 => absurd h2 (by omega), fun _ => q⟩
    · rename_i q
      refine ⟨⟨by omega, ih.1.2⟩, fun j h1 h2 => ?_, ih.2.2⟩
      by_cases e : j = n - (k + 1)
      · rw [e]; exact vld_no q
      · exact ih.2.1 j (by omega) h2
theorem lst_met {F R : List REP} {m : Nat} (up : Up m F R) : lst (nes F) F.length F.length = m := by
  have h := lst_spec (nes F) F.length F.length (Nat.le_refl _)
  rcases Nat.lt_trichotomy (lst (nes F) F.length F.length) m with q | q | q
  · have hl : lst (nes F) F.length F.length < F.length := by have := up.le; omega
    have h1 := h.2.2 hl
    generalize lst (nes F) F.length F.length = x at *
    unfold nes at h1
    rw [List.getElem?_eq_getElem hl] at h1
    have hr : x < R.length := by rw [← up.len]; exact hl
    have := (up.same x _ _ q (List.getElem?_eq_getElem hl) (List.getElem?_eq_getElem hr)).eq
    simp only [this, neB_self] at h1
    cases h1
  · exact q
  · have hl : m < F.length := by omega
    have h1 := h.2.1 m (by omega) q
    unfold nes at h1
    rw [List.getElem?_eq_getElem hl] at h1
    simp only [] at h1
    rw [(up.at_ _ (List.getElem?_eq_getElem hl)).1] at h1
    cases h1
theorem chg_parts {F R : List REP} {j : Nat} {f r : REP} (hf : F[j]? = some f) (hr : R[j]? = some r) : chg F R j = (neB f.raw r.raw || neB f.del r.del || neB f.sha r.sha) := by
  unfold chg; rw [hf, hr]
/-- Nothing has changed: the reports are one. -/
theorem all_same {F R : List REP} {m : Nat} (up : Up m F R) (hre : ∀ r ∈ R, r.del = r.sha) (hc : lst (chg F R) F.length F.length = F.length) : F = R := by
  have h := lst_spec (chg F R) F.length F.length (Nat.le_refl _)
  have hno : ∀ (j : Nat) (f r : REP), F[j]? = some f → R[j]? = some r → f.raw = r.raw ∧ f.del = r.del ∧ f.sha = r.sha := fun j f r hf hr => by
    have hj : j < F.length := (List.getElem?_eq_some_iff.1 hf).1
    have h1 := h.2.1 j (by omega) (by rw [hc]; exact hj)
    rw [chg_parts hf hr] at h1
    simp only [Bool.or_eq_false_iff] at h1
    exact ⟨neB_false h1.1.1, neB_false h1.1.2, neB_false h1.2⟩
  have hm : m = F.length := by
    rcases Nat.lt_or_ge m F.length with q | q
    · exfalso
      have hr : m < R.length := by rw [← up.len]; exact q
      have h1 := hno m _ _ (List.getElem?_eq_getElem q) (List.getElem?_eq_getElem hr)
      have h2 := (up.at_ _ (List.getElem?_eq_getElem q)).1
      rw [h1.2.1, h1.2.2, hre _ (List.getElem_mem hr), neB_self] at h2
      cases h2
    · have := up.le; omega
  refine List.ext_getElem? fun j => ?_
  by_cases hj : j < F.length
  · have hr : j < R.length := by rw [← up.len]; exact hj
    have hf' := List.getElem?_eq_getElem hj
    have hr' := List.getElem?_eq_getElem hr
    have h1 := hno j _ _ hf' hr'
    have h2 := up.same j _ _ (by omega) hf' hr'
    rw [hf', hr']
    generalize F[j] = f at *
    generalize R[j] = r at *
    obtain ⟨a1, a2, a3, a4, a5, a6, a7⟩ := f
    obtain ⟨b1, b2, b3, b4, b5, b6, b7⟩ := r
    have e1 := h2.fa
    have e2 := h2.fb
    have e3 := h2.al
    have e4 := h2.gr
    simp only at h1 e1 e2 e3 e4
    rw [h1.1, h1.2.1, h1.2.2, e1, e2, e3.1, e3.2, e4]
  · rw [List.getElem?_eq_none (by omega), List.getElem?_eq_none (by rw [← up.len]; omega)]
/-- The bundles meet within two cycles of the first change. -/
theorem met_soon {F R : List REP} {m : Nat} (up : Up m F R) (hraw : ∀ (j : Nat) (f r g : REP), j + 2 < m → F[j]? = some f → R[j]? = some r → F[j + 2]? = some g → f.raw = r.raw) : m ≤ lst (chg F R) F.length F.length + 2 := by
  have h := lst_spec (chg F R) F.length F.length (Nat.le_refl _)
  generalize lst (chg F R) F.length F.length = c at *
  rcases Nat.lt_or_ge (c + 2) m with q | q
  · exfalso
    have hle := up.le
    have hc : c < F.length := by omega
    have hr : c < R.length := by rw [← up.len]; exact hc
    have hf' := List.getElem?_eq_getElem hc
    have hr' := List.getElem?_eq_getElem hr
    have h1 := h.2.2 hc
    rw [chg_parts hf' hr'] at h1
    have h2 := up.same c _ _ (by omega) hf' hr'
    have h3 := hraw c _ _ _ q hf' hr' (List.getElem?_eq_getElem (show c + 2 < F.length by omega))
    rw [h3, h2.del, h2.sha, neB_self, neB_self, neB_self] at h1
    cases h1
  · exact q
end Go.Proofs.Qxb6500749a
