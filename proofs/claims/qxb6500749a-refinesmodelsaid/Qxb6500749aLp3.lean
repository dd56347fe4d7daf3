import Derived.Test.Qxb6500749aSy4
import Derived.Test.Qxb6500749aRl6
namespace Go.Proofs.Qxb6500749a
open Go.RowKit
/-! ### Law 3, the plain part -/
def Na (reps : List REP) : Prop := ∀ r ∈ reps, r.al = false
/-- As long as no alarm was shown: the pair with faults beside the pair without. -/
structure N3 (prog : List Int) (t : Nat) (Bf Br : BD) (Uf Ur : BusD) (lf lr : REP) : Prop where
  u : Uf = Ur
  now : Bf.now = (t : Nat)
  cp : Snd Bf.fs 46 ∨ Snd Bf.fs 47
  dl : lf.del = lr.del
  sh : lf.sha = lr.sha
  ex : ∃ inp, Ref prog inp t Br ∧ (Mn prog inp t Bf ∨ Sh prog inp t Bf)
theorem N3.step {prog : List Int} {t : Nat} {Bf Br : BD} {Uf Ur : BusD} {lf lr : REP} (h : N3 prog t Bf Br Uf Ur lf lr) (hal0 : (pairF prog Bf Uf).r.al = false) :
    N3 prog (t + 1) (pairF prog Bf Uf).B (pairF prog Br Ur).B (pairF prog Bf Uf).U (pairF prog Br Ur).U (pairF prog Bf Uf).r (pairF prog Br Ur).r := by
  obtain ⟨inp, hr, hs⟩ := h.ex
  have hu := h.u
  subst hu
  have hnow := h.now
  obtain ⟨U1r, ir, hTr⟩ : ∃ U1 i, tickF Uf = (U1, i) := ⟨_, _, rfl⟩
  have hR := hr.step hTr
  obtain ⟨B1, B2, raw, sha, p⟩ := parts prog Bf ir
  have e := pair_eq (U := Uf) hTr p.C p.S
  have s46 : Snd Bf.fs 46 → cmpF B2 46 (delF B2) sha = neB (delF B2) sha := fun q => cmpF_snd (by rw [p.fs]; exact q) _ _
  have s47 : Snd Bf.fs 47 → cmpF B2 47 (delF B2) sha = neB (delF B2) sha := fun q => cmpF_snd (by rw [p.fs]; exact q) _ _
  have hne : neB (delF B2) sha = true → alF B2 sha = true := fun q => by
    unfold alF
    rcases h.cp with z | z
    · rw [s46 z, q]; rfl
    · rw [s47 z, q]; simp
  have hal : alF B2 sha = false := by rw [e] at hal0; exact hal0
  have hn0 : neB (delF B2) sha = false := by
    cases q : neB (delF B2) sha
    · rfl
    · rw [hne q] at hal; cases hal
  have hds : delF B2 = sha := neB_false hn0
  have hdue : delF B2 = dueM prog inp t := by
    rcases hs with q | q
    · rw [p.del]; exact q.del
    · have hC := p.C
      rw [← ext1_same inp t ir] at hC
      have := (q.congr (ext1_lt inp t ir)).step hnow hC p.S false
      rw [hds, this.1]
      unfold dueM
      split
      · rfl
      · exact (rawM_congr prog (t - 2) fun k hk => ext1_lt inp t ir k (by omega)).symm
  have hgo : goF B2 sha = vld (dueM prog inp t) := by unfold goF vld; rw [hal, hdue]; simp
  have hfs : (nextB (edgF B2 (alF B2 sha) raw ir)).fs = Bf.fs := by
    show (edgF B2 (alF B2 sha) raw ir).fs = Bf.fs
    rw [(edg_fs B2 (alF B2 sha) raw ir).1]; exact p.fs
  have hnw : (nextB (edgF B2 (alF B2 sha) raw ir)).now = ((t + 1 : Nat) : Int) := by
    show (edgF B2 (alF B2 sha) raw ir).now + 1 = _
    rw [(edg_fs _ _ _ _).2, p.now, hnow]; omega
  refine ⟨?_, ?_, ?_, ?_, ?_, ext1 inp t ir, hR.1, ?_⟩
  · rw [hR.2.2, e]
    show (if goF B2 sha = true then _ else _) = _
    rw [hgo, hdue]
  · rw [e]; exact hnw
  · rw [e]; show Snd (nextB (edgF B2 (alF B2 sha) raw ir)).fs 46 ∨ _; rw [hfs]; exact h.cp
  · rw [hR.2.1, e]; exact hdue
  · rw [hR.2.1, e]; exact hds.symm.trans hdue
  · rw [e, hal]
    have hC := p.C
    rw [← ext1_same inp t ir] at hC
    rcases hs with q | q
    · have := ((q.congr (ext1_lt inp t ir)).step hC p.S false).2
      rw [ext1_same] at this
      exact .inl this
    · have := ((q.congr (ext1_lt inp t ir)).step hnow hC p.S false).2
      rw [ext1_same] at this
      exact .inr this
structure X3 (Rf Rr : RG) : Prop where
  len : Rf.reps.length = Rr.reps.length
  na : Rf.run = true → Na Rf.reps → N3 Rf.prog Rf.reps.length Rf.BP Rr.BP Rf.uP Rr.uP Rf.last Rr.last
  ff : Rf.run = true → Rf.hc = false → Rf.ho = false → Rf.BP = Rr.BP ∧ Rf.uP = Rr.uP
theorem X3.cyc {Rf Rr : RG} (g : Rel Rf Rr) (h : X3 Rf Rr) : X3 (cycR Rf) (cycR Rr) := by
  have hcl := cls_of g.cf g.of
  have hQ : X3 (if Rf.run = true then Rf else strR Rf) (if Rr.run = true then Rr else strR Rr) ∧ (if Rf.run = true then Rf else strR Rf).run = true ∧ (if Rf.run = true then Rf else strR Rf).prog = (if Rr.run = true then Rr else strR Rr).prog := by
    rw [← g.run]
    by_cases hr : Rf.run = true
    · rw [if_pos hr, if_pos hr]; exact ⟨h, hr, g.prog⟩
    · rw [if_neg hr, if_neg hr]
      have hn := g.nr (by simpa using hr)
      have hfr : fsR Rr = [] := by unfold fsR fsC fsO; rw [g.kr.1, g.kr.2]; simp
      refine ⟨⟨h.len, fun _ _ => ?_, fun _ h1 h2 => ⟨?_, hn.1⟩⟩, rfl, g.prog⟩
      · show N3 Rf.prog Rf.reps.length (bd0 (fsR Rf)) (bd0 (fsR Rr)) Rf.uP Rr.uP rep0 rep0
        rw [hfr, hn.2.2.1, ← hn.1]
        refine ⟨rfl, rfl, hcl.cmp, rfl, rfl, fun _ => ⟨false, false, 0⟩, ⟨⟨Mn.zero _ _ _ fun s _ => snd_nil s, Sh.zero _ _ _ fun s _ _ => snd_nil s, rfl⟩, rfl, rfl⟩, ?_⟩
        rcases hcl.side with q | ⟨_, z | z⟩
        · exact .inl (Mn.zero _ _ _ fun s hs => q s (by omega))
        · exact .inl (Mn.zero _ _ _ z)
        · exact .inr (Sh.zero _ _ _ z)
      · show bd0 (fsR Rf) = bd0 (fsR Rr)
        rw [hfr]
        have : fsR Rf = [] := by unfold fsR fsC fsO; rw [show Rf.hc = false from h1, show Rf.ho = false from h2]; simp
        rw [this]
  unfold cycR
  generalize (if Rf.run = true then Rf else strR Rf) = Qf at *
  generalize (if Rr.run = true then Rr else strR Rr) = Qr at *
  obtain ⟨q, hr, hp⟩ := hQ
  refine ⟨?_, fun _ ha => ?_, fun _ h1 h2 => ?_⟩
  · show (Qf.reps ++ [_]).length = (Qr.reps ++ [_]).length
    rw [List.length_append, List.length_append, q.len]; rfl
  · have ha' : Na (Qf.reps ++ [(pairF Qf.prog Qf.BP Qf.uP).r]) := ha
    have := (q.na hr fun r hm => ha' r (List.mem_append_left _ hm)).step (ha' _ (List.mem_append_right _ (by simp)))
    show N3 Qf.prog (Qf.reps ++ [(pairF Qf.prog Qf.BP Qf.uP).r]).length (pairF Qf.prog Qf.BP Qf.uP).B (pairF Qr.prog Qr.BP Qr.uP).B (pairF Qf.prog Qf.BP Qf.uP).U (pairF Qr.prog Qr.BP Qr.uP).U (pairF Qf.prog Qf.BP Qf.uP).r (pairF Qr.prog Qr.BP Qr.uP).r
    rw [List.length_append, List.length_singleton, ← hp]
    exact this
  · obtain ⟨e1, e2⟩ := q.ff hr h1 h2
    show (pairF Qf.prog Qf.BP Qf.uP).B = (pairF Qr.prog Qr.BP Qr.uP).B ∧ (pairF Qf.prog Qf.BP Qf.uP).U = (pairF Qr.prog Qr.BP Qr.uP).U
    rw [hp, e1, e2]; exact ⟨rfl, rfl⟩
theorem X3.cycN : ∀ (n : Nat) {Rf Rr : RG}, Rel Rf Rr → X3 Rf Rr → X3 (cycN n Rf) (Go.Proofs.Qxb6500749a.cycN n Rr)
  | 0, _, _, _, h => h
  | n + 1, _, _, g, h => X3.cycN n g.cyc (h.cyc g)
theorem x3_ite {c : Prop} [Decidable c] {a b a' b' : RG} (h1 : c → X3 a a') (h2 : ¬ c → X3 b b') : X3 (if c then a else b) (if c then a' else b') := by
  split
  · rename_i q; exact h1 q
  · rename_i q; exact h2 q
theorem X3.off {Rf Rr : RG} (hl : Rf.reps.length = Rr.reps.length) (hr : Rf.run = false) : X3 Rf Rr :=
  ⟨hl, fun q => absurd (hr.symm.trans q) (by decide), fun q => absurd (hr.symm.trans q) (by decide)⟩
theorem X3.stp {Rf Rr : RG} (g : Rel Rf Rr) (h : X3 Rf Rr) (o : OpD) : X3 (stpR Rf o) (stpR Rr o) := by
  have norun : ∀ {x : Prop}, ¬ (Rf.run = true ∨ x) → Rf.run = false := fun q => by
    cases hr : Rf.run
    · rfl
    · exact absurd (.inl hr) q
  unfold stpR
  rw [← g.run, ← g.prog, ← g.hc, ← g.ho]
  refine x3_ite (fun _ => x3_ite (fun _ => h) (fun q => .off h.len (norun q))) fun _ => x3_ite (fun _ => x3_ite (fun _ => h) (fun q => .off h.len (norun q))) fun _ => x3_ite (fun _ => x3_ite (fun _ => h) (fun q => x3_ite (fun z => .off h.len (norun q)) fun _ => x3_ite (fun z => .off h.len (norun q)) (fun _ => h))) fun _ => x3_ite (fun _ => ?_) fun _ => x3_ite (fun _ => x3_ite (fun _ => h) (fun _ => h.cycN _ g)) fun _ => x3_ite (fun _ => x3_ite (fun _ => h) (fun q => .off h.len (norun q))) (fun _ => h)
  refine ⟨h.len, fun q ha => ?_, fun q h1 h2 => ⟨(h.ff q h1 h2).1, ?_⟩⟩
  · have n := h.na q ha
    exact ⟨by show queF Rf.uP o.a = queF Rr.uP o.a; rw [n.u], n.now, n.cp, n.dl, n.sh, n.ex⟩
  · show queF Rf.uP o.a = queF Rr.uP o.a
    rw [(h.ff q h1 h2).2]
theorem x3_play (s : Nat → OpD) (kc ko : Bool) : ∀ n, X3 (plyN s kc ko n) (plyN s false false n)
  | 0 => .off rfl rfl
  | n + 1 => (x3_play s kc ko n).stp (rel_play s kc ko n) (s n)
/-! ### What law 3 asks of the pair -/
theorem itN_stop {prog : List Int} {A : IM} {n : Nat} (h : ¬ fnl (itN prog A n)) : ∀ k, itN prog A (n + k) = itN prog A n
  | 0 => rfl
  | k + 1 => by
    show itF prog (itN prog A (n + k)) = _
    rw [itN_stop h k]
    unfold itF
    rw [if_pos]
    cases h1 : (itN prog A n).hal
    · cases h2 : (itN prog A n).tra
      · exact absurd ⟨h1, h2⟩ h
      · rfl
    · rfl
theorem f3_fin {R : RG} (h : PF R) (hr : R.run = true) (hst : (halR R || traR R) = true) : ∃ k, k ≤ R.reps.length ∧ ¬ fnl (itN R.prog (im0 R.img) k) ∧ ∀ j, j < k → fnl (itN R.prog (im0 R.img) j) := by
  obtain ⟨he, inp, k, href, hs⟩ := h.go hr
  have no : nfl R.last.del → False := fun q => by
    obtain ⟨z1, z2⟩ := fl_nfl he q
    rw [z1, z2] at hst
    cases hst
  rcases hs.st with s | s | s | s | s
  · obtain ⟨_, _, _, _, _, q, _⟩ := s
    exact (no q).elim
  · obtain ⟨_, _, _, _, _, _, _, q, _⟩ := s
    exact (no q).elim
  · obtain ⟨_, _, _, _, _, _, _, q, _⟩ := s
    exact (no q).elim
  · obtain ⟨_, _, _, _, _, _, _, q, _⟩ := s
    exact (no q).elim
  · obtain ⟨S, hS, _⟩ := s
    exact ⟨k, hs.le, shw_no hS, hs.bef⟩
theorem f3_pre {Rf Rr : RG} (g : Rel Rf Rr) (h : X3 Rf Rr) (hi : Rf.img = Rr.img) (p : PF Rr) : ∃ l, (itN Rf.prog (im0 Rf.img) Rf.reps.length).log = Rf.uP.log ++ l := by
  obtain ⟨l, hl⟩ := f4_unf p Rf.reps.length (by rw [h.len]; exact Nat.le_refl _)
  obtain ⟨s, hs⟩ := g.opens
  rw [← g.prog, ← hi, hs] at hl
  exact ⟨s ++ l, by rw [hl, List.append_assoc]⟩
theorem f3_end {Rf Rr : RG} (g : Rel Rf Rr) (h : X3 Rf Rr) (hi : Rf.img = Rr.img) (p : PF Rr) (hr : Rf.run = true) (ha : Na Rf.reps) (hst : (halR Rf || traR Rf) = true) :
    halR Rf = (itN Rf.prog (im0 Rf.img) Rf.reps.length).hal ∧ traR Rf = (itN Rf.prog (im0 Rf.img) Rf.reps.length).tra ∧ Rf.uP.log = (itN Rf.prog (im0 Rf.img) Rf.reps.length).log ∧
    (Rf.hc = false → Rf.ho = false → (∀ j, j < 16 → Rf.BP.get j = (itN Rf.prog (im0 Rf.img) Rf.reps.length).r j ∧ Rf.BP.get (18 + j) = (itN Rf.prog (im0 Rf.img) Rf.reps.length).r j) ∧ Rf.BP.get 16 = (itN Rf.prog (im0 Rf.img) Rf.reps.length).pc ∧ Rf.BP.get 34 = (itN Rf.prog (im0 Rf.img) Rf.reps.length).pc) := by
  have n := h.na hr ha
  have eh : halR Rf = halR Rr := by unfold halR; rw [n.dl, n.sh]
  have et : traR Rf = traR Rr := by unfold traR; rw [n.dl, n.sh]
  have hrr : Rr.run = true := by rw [← g.run]; exact hr
  rw [eh, et] at hst
  obtain ⟨k, k1, k2, k3⟩ := f3_fin p hrr hst
  have hk : itN Rr.prog (im0 Rr.img) Rf.reps.length = itN Rr.prog (im0 Rr.img) k := by
    obtain ⟨d, hd⟩ := Nat.exists_eq_add_of_le k1
    rw [h.len, hd]
    exact itN_stop k2 d
  obtain ⟨z1, z2, z3, z4, z5, z6⟩ := f4_end p hrr k2 k3 hst
  rw [eh, et, n.u, g.prog, hi, hk]
  exact ⟨z1, z2, z3, fun q1 q2 => by rw [(h.ff hr q1 q2).1]; exact ⟨z4, z5, z6⟩⟩
theorem f3_none {Rf Rr : RG} {μ : Nat} (g : Rel Rf Rr) (p : PF Rr) (q : PI μ Rf) (hr : Rf.run = false) : Rf.uP.log = [] ∧ Rf.uD.log = [] := by
  rw [(g.nr hr).1]
  exact ⟨(p.pre (g.run ▸ hr)).2.1, (q.pre hr).2.1⟩
/-! ### What law 3 asks of the master -/
def inD (R : RG) : Bool := R.ho && decide (49 ≤ R.fo.site) && decide (R.fo.site < 55)
theorem f3_dma {μ : Nat} {R : RG} (h : PI μ R) (hrun : R.run = true) (hd : R.hd = true) (hk : R.ko = true) (hs : inD R = true → sndM R.img R.desc) {k : Nat} (hst : (asN (as0 R.img R.desc) k).D.st ≠ 1) :
    (∃ l, (asN (as0 R.img R.desc) k).log = R.uD.log ++ l) ∧
    (R.DM.st = 1 ∨ (inD R = true ∧ (R.DM.st = 3 ∨ R.DM.st = 5)) ∨ (R.DM.st = (asN (as0 R.img R.desc) k).D.st ∧ R.uD.log = (asN (as0 R.img R.desc) k).log)) := by
  have hz : 49 ≤ zR R → zR R < 55 → inD R = true := fun q1 q2 => by
    unfold zR at q1 q2
    unfold inD
    rw [hk] at q1 q2
    cases ho : R.ho
    · rw [ho, if_neg (by decide)] at q1; exact absurd q1 (by decide)
    · rw [ho, if_pos (by decide)] at q1 q2
      rw [decide_eq_true (by omega), decide_eq_true (by omega)]; rfl
  obtain ⟨n, h1 | h1 | h1 | h1⟩ := h.go hrun hd fun q1 q2 => hs (hz q1 q2)
  · obtain ⟨l, hl⟩ := asN_pre (a := n + 1) hst
    refine ⟨⟨l, by rw [hl, h1.2.2.2.2.2.2.1]⟩, .inl ?_⟩
    rw [h1.1]; exact h1.2.1
  · obtain ⟨l, hl⟩ := asN_pre (a := 0) hst
    refine ⟨⟨l, by rw [hl, h1.2.2.2.2.2.2.1]; rfl⟩, .inl ?_⟩
    rw [h1.2.1]; exact h1.2.2.1
  · have hn : (asN (as0 R.img R.desc) n).D.st ≠ 1 := by rw [← h1.1]; exact h1.2.1
    have e := asN_same hst hn
    rw [e]
    exact ⟨⟨[], by rw [h1.2.2.2]; simp⟩, .inr (.inr ⟨h1.1, h1.2.2.2⟩)⟩
  · obtain ⟨l, hl⟩ := asN_pre (a := n) hst
    exact ⟨⟨l, by rw [hl, h1.2.2.2]⟩, .inr (.inl ⟨hz h1.2.1 h1.2.2.1, h1.1⟩)⟩
end Go.Proofs.Qxb6500749a
