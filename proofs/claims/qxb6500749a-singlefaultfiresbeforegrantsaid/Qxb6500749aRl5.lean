import Derived.Test.Qxb6500749aRl6
namespace Go.Proofs.Qxb6500749a
open Go.RowKit
/-! ### A single fault beside the play without: cycle by cycle -/
/-- The two reports of a cycle ahead of the meeting: but for what the main copy drives, they are one. -/
structure Same (f r : REP) : Prop where
  del : f.del = r.del
  sha : f.sha = r.sha
  eq : f.del = f.sha
  fa : f.fa = r.fa
  fb : f.fb = r.fb
  al : f.al = false ∧ r.al = false
  gr : f.gr = r.gr
/-- How the reports stand: m is the cycle of the meeting. -/
structure Up (m : Nat) (F R : List REP) : Prop where
  len : F.length = R.length
  le : m ≤ F.length
  same : ∀ j f r, j < m → F[j]? = some f → R[j]? = some r → Same f r
  at_ : ∀ f, F[m]? = some f → neB f.del f.sha = true ∧ f.fa = true ∧ f.fb = true
  shut : ∀ j f, m ≤ j → F[j]? = some f → f.al = true ∧ f.gr = false
/-- What binds what the main copy drives: nothing of it has changed ahead of the meeting, or the line shows it two cycles later. -/
def Raws (m : Nat) (F R : List REP) : Prop := (∀ j f r, j < m → F[j]? = some f → R[j]? = some r → f.raw = r.raw) ∨ (∀ j f g, F[j]? = some f → F[j + 2]? = some g → g.del = f.raw)
theorem get_snoc {α : Type} {l : List α} {x : α} {j : Nat} {y : α} (h : (l ++ [x])[j]? = some y) : (j < l.length ∧ l[j]? = some y) ∨ (j = l.length ∧ y = x) := by
  by_cases hj : j < l.length
  · rw [List.getElem?_append_left hj] at h; exact .inl ⟨hj, h⟩
  · right
    have : j = l.length := by
      rcases Nat.lt_or_ge j (l ++ [x]).length with q | q
      · simp at q; omega
      · rw [List.getElem?_eq_none q] at h; cases h
    subst this
    exact ⟨rfl, by simpa using h.symm⟩
/-- The output line, sound: it holds what the main copy drove. -/
structure OL (F : List REP) (B : BD) : Prop where
  snd : ∀ s, 40 ≤ s → s < 46 → Snd B.fs s
  o1 : ∀ f, 1 ≤ F.length → F[F.length - 1]? = some f → B.c 40 = f.raw.c ∧ B.c 41 = f.raw.a ∧ B.c 42 = f.raw.d
  o2 : ∀ f, 2 ≤ F.length → F[F.length - 2]? = some f → B.c 43 = f.raw.c ∧ B.c 44 = f.raw.a ∧ B.c 45 = f.raw.d
  ct : ∀ f ∈ F, ctrlOk f.raw.c
theorem OL.step {prog : List Int} {B B1 B2 : BD} {i : INP} {raw sha : BU} {F : List REP} (h : OL F B) (p : Parts prog B i B1 B2 raw sha) (al : Bool) (x : REP) (hx : x.raw = raw) :
    (∀ f, 2 ≤ F.length → F[F.length - 2]? = some f → delF B2 = f.raw) ∧ OL (F ++ [x]) (nextB (edgF B2 al raw i)) := by
  have ho := edg_out (B := B2) (fun s h1 h2 => by rw [p.fs]; exact h.snd s h1 h2) al raw i
  have hef := (edg_fs B2 al raw i).1
  have hct : ctrlOk raw.c := by have := ctrl_core prog 0 i B; rw [p.C] at this; exact this
  have hd : ∀ f, 2 ≤ F.length → F[F.length - 2]? = some f → delF B2 = f.raw := fun f h2 hf => by
    rw [p.del]
    have h9 := h.o2 f h2 hf
    unfold delF
    rw [get_snd (h.snd 43 (by omega) (by omega)), get_snd (h.snd 44 (by omega) (by omega)), get_snd (h.snd 45 (by omega) (by omega)), h9.1, h9.2.1, h9.2.2, ctrl_mask (h.ct f (List.mem_of_getElem? hf))]
  generalize edgF B2 al raw i = E at *
  refine ⟨hd, ⟨fun s h1 h2 => by rw [show (nextB E).fs = B.fs from hef.trans p.fs]; exact h.snd s h1 h2, fun f _ hf => ?_, fun f h2 hf => ?_, fun f hf => ?_⟩⟩
  · rw [List.length_append, List.length_singleton, Nat.add_sub_cancel] at hf
    rcases get_snoc hf with ⟨q, _⟩ | ⟨_, q⟩
    · omega
    · rw [q, hx]; exact ho.1
  · rw [List.length_append, List.length_singleton] at hf h2
    rcases get_snoc hf with ⟨q, hq⟩ | ⟨q, _⟩
    · have h9 := h.o1 f (by omega) (by rw [show F.length - 1 = F.length + 1 - 2 from by omega]; exact hq)
      exact ⟨ho.2.1.trans ((p.hi 40 (by omega)).trans h9.1), ho.2.2.1.trans ((p.hi 41 (by omega)).trans h9.2.1), ho.2.2.2.trans ((p.hi 42 (by omega)).trans h9.2.2)⟩
    · omega
  · rcases List.mem_append.1 hf with q | q
    · exact h.ct f q
    · simp at q; subst q; rw [hx]; exact hct
def Lnk (F : List REP) : Prop := ∀ j f g, F[j]? = some f → F[j + 2]? = some g → g.del = f.raw
theorem ol_pair {prog : List Int} {B : BD} {F : List REP} (U : BusD) (q1 : OL F B) (q2 : Lnk F) : OL (F ++ [(pairF prog B U).r]) (pairF prog B U).B ∧ Lnk (F ++ [(pairF prog B U).r]) := by
  obtain ⟨U1, i, hT⟩ : ∃ U1 i, tickF U = (U1, i) := ⟨_, _, rfl⟩
  obtain ⟨B1, B2, raw, sha, p⟩ := parts prog B i
  have e := pair_eq (U := U) hT p.C p.S
  have hs := q1.step p (alF B2 sha) (pairF prog B U).r (by rw [e])
  refine ⟨?_, fun j f g hf hg => ?_⟩
  · have h9 := hs.2
    rw [e] at h9 ⊢
    exact h9
  · rcases get_snoc hg with ⟨a1, a2⟩ | ⟨a1, a2⟩
    · rcases get_snoc hf with ⟨b1, b2⟩ | ⟨b1, _⟩
      · exact q2 j f g b2 a2
      · omega
    · rcases get_snoc hf with ⟨b1, b2⟩ | ⟨b1, _⟩
      · rw [a2, e]
        exact hs.1 f (by omega) (by rw [show F.length - 2 = j from by omega]; exact b2)
      · omega
structure R5 (prog : List Int) (fs : List FD) (t : Nat) (Bf Br : BD) (Uf Ur : BusD) (F R : List REP) : Prop where
  len : F.length = t
  fse : Bf.fs = fs
  now : Bf.now = (t : Nat)
  rl : OL R Br ∧ Lnk R
  re : ∀ r ∈ R, r.del = r.sha
  ex : ∃ inp m, Ref prog inp t Br ∧ Ph prog t Bf Uf Ur inp ∧ Up m F R ∧ ((Bf.c 48 = 0 ∧ m = t) ∨ (Bf.c 48 = 1 ∧ m < t)) ∧
    ((OL F Bf ∧ (∀ j f g, F[j]? = some f → F[j + 2]? = some g → g.del = f.raw)) ∨ ((∀ j f r, j < m → F[j]? = some f → R[j]? = some r → f.raw = r.raw) ∧ (∀ s, s < 18 → Snd fs s) ∧ (Bf.c 48 = 0 → Sim 0 Bf (runM prog inp t))))
theorem R5.step {prog : List Int} {fs : List FD} {t : Nat} {Bf Br : BD} {Uf Ur : BusD} {F R : List REP} (h : R5 prog fs t Bf Br Uf Ur F R) (h46 : Snd fs 46) (h47 : Snd fs 47) (h48 : Snd fs 48) :
    R5 prog fs (t + 1) (pairF prog Bf Uf).B (pairF prog Br Ur).B (pairF prog Bf Uf).U (pairF prog Br Ur).U (F ++ [(pairF prog Bf Uf).r]) (R ++ [(pairF prog Br Ur).r]) := by
  obtain ⟨inp, m, hr, ph, up, hm, rw5⟩ := h.ex
  have hfs := h.fse
  have hlen := h.len
  have hlenR : R.length = t := by rw [← up.len]; exact hlen
  obtain ⟨U1r, ir, hTr⟩ : ∃ U1 i, tickF Ur = (U1, i) := ⟨_, _, rfl⟩
  obtain ⟨U1f, i, hTf⟩ : ∃ U1 i, tickF Uf = (U1, i) := ⟨_, _, rfl⟩
  have hR := hr.step hTr
  obtain ⟨B1, B2, raw, sha, p⟩ := parts prog Bf i
  have e := pair_eq (U := Uf) hTf p.C p.S
  have s46 : cmpF B2 46 (delF B2) sha = neB (delF B2) sha := cmpF_snd (by rw [p.fs, hfs]; exact h46) _ _
  have s47 : cmpF B2 47 (delF B2) sha = neB (delF B2) sha := cmpF_snd (by rw [p.fs, hfs]; exact h47) _ _
  have e48 : B2.get 48 = Bf.c 48 := by rw [get_snd (by rw [p.fs, hfs]; exact h48), p.hi 48 (by omega)]
  have hlat : (edgF B2 (alF B2 sha) raw i).c 48 = flagI (alF B2 sha) := edg_latch (by rw [p.fs, hfs]; exact h48) _ _ _
  have hst := ph.step hr h.now (by rw [hfs]; exact h48) (by rw [hfs]; exact .inl h46)
  obtain ⟨inp', z1, z2, z3, _⟩ := hst
  have hal : alF B2 sha = (neB (delF B2) sha || (andB (Bf.c 48) 1 == 1)) := by
    unfold alF
    rw [s46, s47, e48]
    cases neB (delF B2) sha <;> rfl
  have hol : ∀ al, (OL F Bf → (∀ j f g, F[j]? = some f → F[j + 2]? = some g → g.del = f.raw) → OL (F ++ [(pairF prog Bf Uf).r]) (nextB (edgF B2 al raw i)) ∧ (∀ j f g, (F ++ [(pairF prog Bf Uf).r])[j]? = some f → (F ++ [(pairF prog Bf Uf).r])[j + 2]? = some g → g.del = f.raw)) := fun al q1 q2 => by
    have hs := q1.step p al (pairF prog Bf Uf).r (by rw [e])
    refine ⟨hs.2, fun j f g hf hg => ?_⟩
    rcases get_snoc hg with ⟨a1, a2⟩ | ⟨a1, a2⟩
    · rcases get_snoc hf with ⟨b1, b2⟩ | ⟨b1, _⟩
      · exact q2 j f g b2 a2
      · omega
    · rcases get_snoc hf with ⟨b1, b2⟩ | ⟨b1, _⟩
      · rw [a2, e]
        exact hs.1 f (by omega) (by rw [show F.length - 2 = j from by omega]; exact b2)
      · omega
  have hl1 : (F ++ [(pairF prog Bf Uf).r]).length = t + 1 := by rw [List.length_append, List.length_singleton, hlen]
  have hl2 : (F ++ [(pairF prog Bf Uf).r]).length = (R ++ [(pairF prog Br Ur).r]).length := by rw [List.length_append, List.length_append, up.len]; rfl
  have hre : ∀ r ∈ R ++ [(pairF prog Br Ur).r], r.del = r.sha := fun r hr' => by
    rcases List.mem_append.1 hr' with q | q
    · exact h.re r q
    · simp at q; subst q; rw [hR.2.1]
  rcases hm with ⟨hz, hmt⟩ | ⟨hz, hmt⟩
  · have hmt2 : t = m := hmt.symm
    subst hmt2
    have hu : Uf = Ur := by
      rcases ph with ⟨_, _, q⟩ | ⟨q, _⟩
      · exact q
      · rw [hz] at q; cases q
    subst hu
    rw [hTr] at hTf
    injection hTf with q1 q2
    subst q1; subst q2
    rw [hz, lat_zero, Bool.or_false] at hal
    have hal2 := hal
    cases hne : neB (delF B2) sha
    · rw [hne] at hal
      have hds : delF B2 = sha := neB_false hne
      have hdue : delF B2 = dueM prog inp t := by
        rcases ph with ⟨hs, _, _⟩ | ⟨q, _⟩
        · rcases hs with q | q
          · rw [p.del]; exact q.del
          · have hC := p.C
            rw [← ext1_same inp t ir] at hC
            have := (q.congr (ext1_lt inp t ir)).step h.now hC p.S false
            rw [hds, this.1]
            unfold dueM
            split
            · rfl
            · exact (rawM_congr prog (t - 2) fun k hk => ext1_lt inp t ir k (by omega)).symm
        · rw [hz] at q; cases q
      have hgo : goF B2 sha = vld (dueM prog inp t) := by unfold goF vld; rw [hal, hdue]; simp
      have hsame : Same (pairF prog Bf Uf).r (pairF prog Br Uf).r := by
        rw [e, hR.2.1]
        exact ⟨hdue, hds.symm.trans hdue, hds, by rw [s46, hne], by rw [s47, hne], ⟨hal, rfl⟩, by show (goF B2 sha && !U1r.busy) = _; rw [hgo]⟩
      have hc0 : (pairF prog Bf Uf).B.c 48 = 0 := by rw [e]; show (edgF B2 (alF B2 sha) raw ir).c 48 = 0; rw [hlat, hal]; rfl
      refine ⟨hl1, z3.1.trans hfs, z3.2, ol_pair _ h.rl.1 h.rl.2, hre, ext1 inp t ir, t + 1, hR.1, ?_, ⟨hl2, by omega, fun j f r hj hf hr' => ?_, fun f hf => ?_, fun j f hj hf => ?_⟩, .inl ⟨hc0, rfl⟩, ?_⟩
      · have : Ph prog (t + 1) (pairF prog Bf Uf).B (pairF prog Bf Uf).U (pairF prog Br Uf).U (ext1 inp t ir) := by
          rcases ph with ⟨hs, _, _⟩ | ⟨q, _⟩
          · refine .inl ⟨?_, hc0, ?_⟩
            · rw [e]
              have hC := p.C
              rw [← ext1_same inp t ir] at hC
              rcases hs with q | q
              · have := ((q.congr (ext1_lt inp t ir)).step hC p.S (alF B2 sha)).2
                rw [ext1_same] at this
                exact .inl this
              · have := ((q.congr (ext1_lt inp t ir)).step h.now hC p.S (alF B2 sha)).2
                rw [ext1_same] at this
                exact .inr this
            · rw [e, hR.2.2]
              show (if goF B2 sha = true then _ else _) = _
              rw [hgo, hdue]
          · rw [hz] at q; cases q
        exact this
      · rcases get_snoc hf with ⟨a1, a2⟩ | ⟨a1, a2⟩
        · rcases get_snoc hr' with ⟨b1, b2⟩ | ⟨b1, _⟩
          · exact up.same j f r (by omega) a2 b2
          · omega
        · rcases get_snoc hr' with ⟨b1, _⟩ | ⟨_, b2⟩
          · omega
          · rw [a2, b2]; exact hsame
      · rcases get_snoc hf with ⟨a1, _⟩ | ⟨a1, _⟩ <;> omega
      · rcases get_snoc hf with ⟨a1, _⟩ | ⟨a1, _⟩ <;> omega
      · rcases rw5 with ⟨q1, q2⟩ | ⟨q1, q2, q3⟩
        · have := hol (alF B2 sha) q1 q2
          left
          refine ⟨?_, this.2⟩
          have h9 := this.1
          rw [e] at h9 ⊢
          exact h9
        · right
          have hsim := q3 hz
          have hrc := sim_core hsim prog ir
          rw [p.C] at hrc
          refine ⟨fun j f r hj hf hr' => ?_, q2, fun _ => ?_⟩
          · rcases get_snoc hf with ⟨a1, a2⟩ | ⟨a1, a2⟩
            · rcases get_snoc hr' with ⟨b1, b2⟩ | ⟨b1, _⟩
              · exact q1 j f r (by omega) a2 b2
              · omega
            · rcases get_snoc hr' with ⟨b1, _⟩ | ⟨_, b2⟩
              · omega
              · rw [a2, b2, e, hR.2.1]
                show raw = rawM prog (ext1 inp t ir) t
                unfold rawM
                rw [ext1_same, ← runM_congr prog t (ext1_lt inp t ir)]
                exact hrc.o
          · rw [run_next, e]
            have hso := fun j hj => sha_out prog B1 j hj
            rw [p.S] at hso
            have hef := (edg_fs B2 (alF B2 sha) raw ir).1
            have hlow := fun j hj => edg_low B2 (alF B2 sha) raw ir j hj
            have hfk := (coreF_keep prog 0 ir Bf).1
            rw [p.C] at hfk
            simp only [] at hfk hso
            generalize edgF B2 (alF B2 sha) raw ir = E at *
            exact hrc.s.keep (B' := nextB E) (hef.trans (p.fs.trans hfk.symm)) fun k hk => (hlow (0 + k) (by omega)).trans (hso (0 + k) (.inl (by omega)))
    · rw [hne] at hal
      have hgo : goF B2 sha = false := by unfold goF; rw [hal]; simp
      have hc1 : (pairF prog Bf Uf).B.c 48 = 1 := by rw [e]; show (edgF B2 (alF B2 sha) raw ir).c 48 = 1; rw [hlat, hal]; rfl
      have hshut : (pairF prog Bf Uf).r.al = true ∧ (pairF prog Bf Uf).r.gr = false := by rw [e]; exact ⟨hal, by show (goF B2 sha && !U1r.busy) = false; rw [hgo]; rfl⟩
      have hph : Ph prog (t + 1) (pairF prog Bf Uf).B (pairF prog Bf Uf).U (pairF prog Br Uf).U inp' := z2
      refine ⟨hl1, z3.1.trans hfs, z3.2, ol_pair _ h.rl.1 h.rl.2, hre, inp', t, z1, hph, ⟨hl2, by omega, fun j f r hj hf hr' => ?_, fun f hf => ?_, fun j f hj hf => ?_⟩, .inr ⟨hc1, by omega⟩, ?_⟩
      · rcases get_snoc hf with ⟨a1, a2⟩ | ⟨a1, _⟩
        · rcases get_snoc hr' with ⟨b1, b2⟩ | ⟨b1, _⟩
          · exact up.same j f r hj a2 b2
          · omega
        · omega
      · rcases get_snoc hf with ⟨a1, _⟩ | ⟨_, a2⟩
        · omega
        · rw [a2, e]; exact ⟨hne, by rw [s46]; exact hne, by rw [s47]; exact hne⟩
      · rcases get_snoc hf with ⟨a1, a2⟩ | ⟨_, a2⟩
        · omega
        · rw [a2]; exact hshut
      · rcases rw5 with ⟨q1, q2⟩ | ⟨q1, q2, q3⟩
        · have := hol (alF B2 sha) q1 q2
          left
          refine ⟨?_, this.2⟩
          have h9 := this.1
          rw [e] at h9 ⊢
          exact h9
        · right
          refine ⟨fun j f r hj hf hr' => ?_, q2, fun q => by rw [hc1] at q; cases q⟩
          rcases get_snoc hf with ⟨a1, a2⟩ | ⟨a1, _⟩
          · rcases get_snoc hr' with ⟨b1, b2⟩ | ⟨b1, _⟩
            · exact q1 j f r hj a2 b2
            · omega
          · omega
  · rw [hz, lat_one, Bool.or_true] at hal
    have hgo : goF B2 sha = false := by unfold goF; rw [hal]; simp
    have hc1 : (pairF prog Bf Uf).B.c 48 = 1 := by rw [e]; show (edgF B2 (alF B2 sha) raw i).c 48 = 1; rw [hlat, hal]; rfl
    have hshut : (pairF prog Bf Uf).r.al = true ∧ (pairF prog Bf Uf).r.gr = false := by rw [e]; exact ⟨hal, by show (goF B2 sha && !U1f.busy) = false; rw [hgo]; rfl⟩
    refine ⟨hl1, z3.1.trans hfs, z3.2, ol_pair _ h.rl.1 h.rl.2, hre, inp', m, z1, z2, ⟨hl2, by omega, fun j f r hj hf hr' => ?_, fun f hf => ?_, fun j f hj hf => ?_⟩, .inr ⟨hc1, by omega⟩, ?_⟩
    · rcases get_snoc hf with ⟨a1, a2⟩ | ⟨a1, _⟩
      · rcases get_snoc hr' with ⟨b1, b2⟩ | ⟨b1, _⟩
        · exact up.same j f r hj a2 b2
        · omega
      · omega
    · rcases get_snoc hf with ⟨_, a2⟩ | ⟨a1, _⟩
      · exact up.at_ f a2
      · omega
    · rcases get_snoc hf with ⟨_, a2⟩ | ⟨_, a2⟩
      · exact up.shut j f hj a2
      · rw [a2]; exact hshut
    · rcases rw5 with ⟨q1, q2⟩ | ⟨q1, q2, q3⟩
      · have := hol (alF B2 sha) q1 q2
        left
        refine ⟨?_, this.2⟩
        have h9 := this.1
        rw [e] at h9 ⊢
        exact h9
      · right
        refine ⟨fun j f r hj hf hr' => ?_, q2, fun q => by rw [hc1] at q; cases q⟩
        rcases get_snoc hf with ⟨a1, a2⟩ | ⟨a1, _⟩
        · rcases get_snoc hr' with ⟨b1, b2⟩ | ⟨b1, _⟩
          · exact q1 j f r hj a2 b2
          · omega
        · omega
end Go.Proofs.Qxb6500749a
