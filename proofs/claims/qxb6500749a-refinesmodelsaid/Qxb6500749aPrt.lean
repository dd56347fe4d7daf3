import Derived.Test.Qxb6500749aPhs
namespace Go.Proofs.Qxb6500749a
open Go.RowKit
/-! ### One request at a time: the bus protocol of a sound pair -/
def waitM (M : BD) : Prop := M.get (0 + 17) % 4 = 1
theorem vld_zero : vld zBU = false := by kernel_rfl
theorem core_sit (prog : List Int) (M : BD) (i : INP) (hw : waitM M) (hv : i.v = false) : coreF prog 0 i M = (M, zBU) := by
  unfold waitM at hw
  unfold coreF
  rw [if_neg (by rw [hw]; decide), if_neg (by rw [hw]; decide), if_pos hw]
  unfold awaitF
  rw [if_pos hv]
theorem vld_four : vld ⟨4, 0, 0⟩ = false := by kernel_rfl
theorem vld_eight : vld ⟨8, 0, 0⟩ = false := by kernel_rfl
theorem core_end (prog : List Int) (M : BD) (i : INP) (hw : waitM M) : vld (coreF prog 0 i M).2 = false := by
  unfold waitM at hw
  unfold coreF
  rw [if_neg (by rw [hw]; decide), if_neg (by rw [hw]; decide), if_pos hw]
  unfold awaitF
  repeat' split
  all_goals first | exact vld_zero | exact vld_eight
theorem or_wait (r : Nat) (h : r < 16) : bits BinOp.or IntKind.u32 5 ((r : Nat) * 16) % 4 = 1 := by
  have : ∀ r : Fin 16, bits BinOp.or IntKind.u32 5 ((r.val : Nat) * 16) % 4 = 1 := by decide
  exact this ⟨r, h⟩
theorem core_req (prog : List Int) (M : BD) (hf : M.fs = []) (i : INP) (hv : vld (coreF prog 0 i M).2 = true) : waitM (coreF prog 0 i M).1 ∨ waitM M := by
  by_cases hw : waitM M
  · exact .inr hw
  left
  have sn : ∀ s, Snd M.fs s := fun s => by rw [hf]; exact snd_nil s
  have key : ∀ (x y : BD × BU) (c : Prop) [Decidable c], (vld x.2 = true → waitM x.1) → (vld y.2 = true → waitM y.1) → vld (if c then x else y).2 = true → waitM (if c then x else y).1 := by
    intro x y c _ hx hy
    split
    · exact hx
    · exact hy
  have nz : ∀ B' : BD, vld ((B', zBU) : BD × BU).2 = true → waitM B' := fun B' q => by rw [show vld ((B', zBU) : BD × BU).2 = false from vld_zero] at q; cases q
  have n4 : ∀ B' : BD, vld ((B', (⟨4, 0, 0⟩ : BU)) : BD × BU).2 = true → waitM B' := fun B' q => by rw [show vld ((B', (⟨4, 0, 0⟩ : BU)) : BD × BU).2 = false from vld_four] at q; cases q
  have n8 : ∀ B' : BD, vld ((B', (⟨8, 0, 0⟩ : BU)) : BD × BU).2 = true → waitM B' := fun B' q => by rw [show vld ((B', (⟨8, 0, 0⟩ : BU)) : BD × BU).2 = false from vld_eight] at q; cases q
  have hset : ∀ (m pc : Int), m % 4 = 1 → waitM ((M.set (0 + 17) m).set (0 + 16) pc) := fun m pc hm => by
    unfold waitM
    rw [get_snd (show Snd ((M.set (0 + 17) m).set (0 + 16) pc).fs (0 + 17) from sn _), set_c_ne _ _ _ _ (by decide), set_c_same (sn _)]
    exact hm
  revert hv
  unfold coreF
  refine key _ _ _ (n4 _) (key _ _ _ (n8 _) (key _ _ _ ?_ ?_))
  · intro q
    unfold awaitF at q ⊢
    revert q
    exact key _ _ _ (nz _) (key _ _ _ (n8 _) (key _ _ _ (nz _) (nz _)))
  · unfold execF
    have hd := (dec_lt (fetF prog (M.get (0 + 16)))).1
    generalize decF (fetF prog (M.get (0 + 16))) = I at hd
    unfold execI finF
    exact key _ _ _ (nz _) (key _ _ _ (n4 _) (key _ _ _ (nz _) (key _ _ _ (nz _) (key _ _ _ (nz _) (key _ _ _ (nz _) (key _ _ _ (nz _) (key _ _ _ (fun _ => hset _ _ (or_wait I.rd hd)) (key _ _ _ (fun _ => hset _ _ (by decide)) (key _ _ _ (nz _) (key _ _ _ (nz _) (key _ _ _ (nz _) (key _ _ _ (nz _) (n8 _)))))))))))))
def ltM (prog : List Int) (inp : Nat → INP) (t : Nat) : BU := if t = 0 then zBU else rawM prog inp (t - 1)
structure Prot (prog : List Int) (inp : Nat → INP) (t : Nat) (U : BusD) : Prop where
  b : U.busy = true → waitM (runM prog inp t) ∧ vld (ltM prog inp t) = false ∧ vld (dueM prog inp t) = false
  r1 : vld (ltM prog inp t) = true → waitM (runM prog inp t) ∧ U.busy = false ∧ vld (dueM prog inp t) = false
  r2 : vld (dueM prog inp t) = true → waitM (runM prog inp t) ∧ U.busy = false ∧ vld (ltM prog inp t) = false
structure Dead (prog : List Int) (inp : Nat → INP) (t : Nat) (U : BusD) : Prop where
  b : U.busy = false
  w : waitM (runM prog inp t)
  r1 : vld (ltM prog inp t) = false
  r2 : vld (dueM prog inp t) = false
theorem lt_next (prog : List Int) (inp : Nat → INP) (t : Nat) (i : INP) : ltM prog (ext1 inp t i) (t + 1) = (coreF prog 0 i (runM prog inp t)).2 := by
  unfold ltM
  rw [if_neg (by omega), show t + 1 - 1 = t from by omega]
  unfold rawM
  rw [ext1_same, ← runM_congr prog t (ext1_lt inp t i)]
theorem run_next (prog : List Int) (inp : Nat → INP) (t : Nat) (i : INP) : runM prog (ext1 inp t i) (t + 1) = (coreF prog 0 i (runM prog inp t)).1 := by
  show (coreF prog 0 (ext1 inp t i t) (runM prog (ext1 inp t i) t)).1 = _
  rw [ext1_same, ← runM_congr prog t (ext1_lt inp t i)]
theorem due_next (prog : List Int) (inp : Nat → INP) (t : Nat) (i : INP) : dueM prog (ext1 inp t i) (t + 1) = ltM prog inp t := by
  unfold dueM ltM
  by_cases ht : t = 0
  · rw [if_pos (by omega), if_pos ht]
  · rw [if_neg (by omega), if_neg ht, show t + 1 - 2 = t - 1 from by omega]
    exact (rawM_congr prog (t - 1) fun k hk => ext1_lt inp t i k (by omega)).symm
theorem tick_idle' (U : BusD) (h : U.busy = false) : tickF U = (U, ⟨false, false, 0⟩) := by unfold tickF; rw [if_neg (by rw [h]; decide)]
theorem tick_cases (U : BusD) (h : U.busy = true) : ((tickF U).1.busy = true ∧ (tickF U).2.v = false) ∨ ((tickF U).1.busy = false ∧ (tickF U).2.v = true) := by
  unfold tickF
  rw [if_pos h]
  split
  · exact .inl ⟨h, rfl⟩
  · exact .inr ⟨rfl, rfl⟩
theorem vld_no {b : Bool} (h : ¬ b = true) : b = false := by cases b; rfl; exact absurd rfl h
theorem Dead.step {prog : List Int} {inp : Nat → INP} {t : Nat} {U U1 : BusD} {i : INP} (h : Dead prog inp t U) (hT : tickF U = (U1, i)) : U1 = U ∧ Dead prog (ext1 inp t i) (t + 1) U := by
  rw [tick_idle' U h.b] at hT
  injection hT with e1 e2
  have hs := core_sit prog (runM prog inp t) i h.w (by rw [← e2])
  refine ⟨e1.symm, h.b, ?_, ?_, ?_⟩
  · rw [run_next, hs]; exact h.w
  · rw [lt_next, hs]; exact vld_zero
  · rw [due_next]; exact h.r1
/-- The request due is not let out: no other will ever come. -/
theorem Prot.drop {prog : List Int} {inp : Nat → INP} {t : Nat} {U U1 : BusD} {i : INP} (h : Prot prog inp t U) (hT : tickF U = (U1, i)) (hv : vld (dueM prog inp t) = true) : Dead prog (ext1 inp t i) (t + 1) U1 := by
  have h2 := h.r2 hv
  rw [tick_idle' U h2.2.1] at hT
  injection hT with e1 e2
  have hs := core_sit prog (runM prog inp t) i h2.1 (by rw [← e2])
  refine ⟨by rw [← e1]; exact h2.2.1, ?_, ?_, ?_⟩
  · rw [run_next, hs]; exact h2.1
  · rw [lt_next, hs]; exact vld_zero
  · rw [due_next]; exact h2.2.2
theorem Prot.step {prog : List Int} {inp : Nat → INP} {t : Nat} {U U1 : BusD} {i : INP} (h : Prot prog inp t U) (hT : tickF U = (U1, i)) (rw' : Bool) (a d : Int) :
    Prot prog (ext1 inp t i) (t + 1) (if vld (dueM prog inp t) = true then issF U1 rw' a d else U1) := by
  have hlt := lt_next prog inp t i
  have hrun := run_next prog inp t i
  have hdue := due_next prog inp t i
  have hfs := runM_fs prog inp t
  by_cases hv : vld (dueM prog inp t) = true
  · have h2 := h.r2 hv
    have hT2 := hT
    rw [tick_idle' U h2.2.1] at hT
    injection hT with e1 e2
    have hs := core_sit prog (runM prog inp t) i h2.1 (by rw [← e2])
    rw [hs] at hlt hrun
    rw [if_pos hv]
    refine ⟨fun _ => ?_, fun q => ?_, fun q => ?_⟩
    · rw [hrun, hlt, hdue]; exact ⟨h2.1, vld_zero, h2.2.2⟩
    · rw [hlt, vld_zero] at q; cases q
    · rw [hdue, h2.2.2] at q; cases q
  · rw [if_neg hv]
    have hv := vld_no hv
    cases hb : U.busy
    · rw [tick_idle' U hb] at hT
      injection hT with e1 e2
      have hb1 : U1.busy = false := by rw [← e1]; exact hb
      by_cases hw : waitM (runM prog inp t)
      · have hs := core_sit prog (runM prog inp t) i hw (by rw [← e2])
        rw [hs] at hlt hrun
        refine ⟨fun q => (by rw [hb1] at q; cases q), fun q => ?_, fun q => ?_⟩
        · rw [hlt, vld_zero] at q; cases q
        · rw [hrun, hlt]; exact ⟨hw, hb1, vld_zero⟩
      · have hl : vld (ltM prog inp t) = false := vld_no fun q => hw (h.r1 q).1
        refine ⟨fun q => (by rw [hb1] at q; cases q), fun q => ?_, fun q => ?_⟩
        · rw [hrun, hdue]
          rw [hlt] at q
          refine ⟨?_, hb1, hl⟩
          rcases core_req prog _ hfs i q with z | z
          · exact z
          · exact absurd z hw
        · rw [hdue, hl] at q; cases q
    · have hB := h.b hb
      have hc := tick_cases U hb
      rw [hT] at hc
      simp only [] at hc
      rcases hc with ⟨c1, c2⟩ | ⟨c1, c2⟩
      · have hs := core_sit prog (runM prog inp t) i hB.1 c2
        rw [hs] at hlt hrun
        refine ⟨fun _ => ?_, fun q => ?_, fun q => ?_⟩
        · rw [hrun, hlt, hdue]; exact ⟨hB.1, vld_zero, hB.2.1⟩
        · rw [hlt, vld_zero] at q; cases q
        · rw [hdue, hB.2.1] at q; cases q
      · have he := core_end prog (runM prog inp t) i hB.1
        refine ⟨fun q => (by rw [c1] at q; cases q), fun q => ?_, fun q => ?_⟩
        · rw [hlt, he] at q; cases q
        · rw [hdue, hB.2.1] at q; cases q
theorem Prot.zero (prog : List Int) (inp : Nat → INP) (U : BusD) (h : U.busy = false) : Prot prog inp 0 U :=
  ⟨fun q => (by rw [h] at q; cases q), fun q => (by rw [show vld (ltM prog inp 0) = false from vld_zero] at q; cases q), fun q => by rw [show vld (dueM prog inp 0) = false from vld_zero] at q; cases q⟩
/-- Sound copies beside a fault in the latch or in a comparator: in step, or dead. -/
def Pl (prog : List Int) (t : Nat) (Bf : BD) (Uf Ur : BusD) (inp : Nat → INP) : Prop :=
  (Whole prog inp t Bf ∧ Uf = Ur ∧ Prot prog inp t Ur) ∨ (∃ inpf, Whole prog inpf t Bf ∧ Dead prog inpf t Uf ∧ ∃ s, Ur.log = Uf.log ++ s)
theorem Pl.step {prog : List Int} {inp : Nat → INP} {t : Nat} {Bf Br : BD} {Uf Ur : BusD} (hr : Ref prog inp t Br) (h : Pl prog t Bf Uf Ur inp) :
    ∃ inp', Ref prog inp' (t + 1) (pairF prog Br Ur).B ∧ Pl prog (t + 1) (pairF prog Bf Uf).B (pairF prog Bf Uf).U (pairF prog Br Ur).U inp' ∧
      (pairF prog Bf Uf).B.fs = Bf.fs ∧ neB (pairF prog Bf Uf).r.del (pairF prog Bf Uf).r.sha = false ∧
      (Snd Bf.fs 46 → (pairF prog Bf Uf).r.fa = false) ∧ (Snd Bf.fs 47 → (pairF prog Bf Uf).r.fb = false) := by
  obtain ⟨U1r, ir, hTr⟩ : ∃ U1 i, tickF Ur = (U1, i) := ⟨_, _, rfl⟩
  have hR := hr.step hTr
  have h1r := tick_log Ur
  rw [hTr] at h1r
  simp only [] at h1r
  have logr : ∃ s, (pairF prog Br Ur).U.log = Ur.log ++ s := by
    rw [hR.2.2]
    split
    · obtain ⟨s, hs⟩ := iss_log U1r (andB (dueM prog inp t).c 2 != 0) (dueM prog inp t).a (dueM prog inp t).d
      exact ⟨s, by rw [hs, h1r]⟩
    · exact ⟨[], by rw [h1r]; simp⟩
  refine ⟨ext1 inp t ir, hR.1, ?_⟩
  rcases h with ⟨hw, hu, hp⟩ | ⟨inpf, hw, hd, hp⟩
  · subst hu
    obtain ⟨B1, B2, raw, sha, p⟩ := parts prog Bf ir
    have e := pair_eq (U := Uf) hTr p.C p.S
    have hs := hw.step p (alF B2 sha)
    have hne : neB (delF B2) sha = false := by rw [hs.2.1, hs.2.2.1, neB_self]
    have hfs : (pairF prog Bf Uf).B.fs = Bf.fs := by
      rw [e]
      show (edgF B2 (alF B2 sha) raw ir).fs = Bf.fs
      rw [(edg_fs B2 (alF B2 sha) raw ir).1]; exact p.fs
    refine ⟨?_, hfs, by rw [e]; exact hne, fun q => ?_, fun q => ?_⟩
    · have hgo : goF B2 sha = (vld (dueM prog inp t) && !alF B2 sha) := by unfold goF vld; rw [hs.2.2.1]
      rw [e]
      by_cases hdrop : vld (dueM prog inp t) = true ∧ alF B2 sha = true
      · refine .inr ⟨ext1 inp t ir, hs.2.2.2, ?_, ?_⟩
        · show Dead prog _ _ (if goF B2 sha = true then _ else U1r)
          rw [hgo, hdrop.1, hdrop.2]
          exact hp.drop hTr hdrop.1
        · show ∃ s, _ = (if goF B2 sha = true then _ else U1r).log ++ s
          rw [hgo, hdrop.1, hdrop.2, if_neg (by decide), h1r]
          exact logr
      · have hgo2 : goF B2 sha = vld (dueM prog inp t) := by
          rw [hgo]
          cases hv : vld (dueM prog inp t)
          · rfl
          · cases ha : alF B2 sha
            · rfl
            · exact absurd ⟨hv, ha⟩ hdrop
        refine .inl ⟨hs.2.2.2, ?_, ?_⟩
        · show (if goF B2 sha = true then _ else _) = _
          rw [hR.2.2, hgo2, hs.2.2.1]
        · rw [hR.2.2]; exact hp.step hTr _ _ _
    · rw [e]; show cmpF B2 46 (delF B2) sha = false; rw [cmpF_snd (by rw [p.fs]; exact q)]; exact hne
    · rw [e]; show cmpF B2 47 (delF B2) sha = false; rw [cmpF_snd (by rw [p.fs]; exact q)]; exact hne
  · obtain ⟨U1f, i, hTf⟩ : ∃ U1 i, tickF Uf = (U1, i) := ⟨_, _, rfl⟩
    obtain ⟨B1, B2, raw, sha, p⟩ := parts prog Bf i
    have e := pair_eq (U := Uf) hTf p.C p.S
    have hs := hw.step p (alF B2 sha)
    have hds := hd.step hTf
    have hne : neB (delF B2) sha = false := by rw [hs.2.1, hs.2.2.1, neB_self]
    have hfs : (pairF prog Bf Uf).B.fs = Bf.fs := by
      rw [e]
      show (edgF B2 (alF B2 sha) raw i).fs = Bf.fs
      rw [(edg_fs B2 (alF B2 sha) raw i).1]; exact p.fs
    have hgo : goF B2 sha = false := by
      have : goF B2 sha = (vld (dueM prog inpf t) && !alF B2 sha) := by unfold goF vld; rw [hs.2.2.1]
      rw [this, hd.r2]; rfl
    refine ⟨?_, hfs, by rw [e]; exact hne, fun q => ?_, fun q => ?_⟩
    · rw [e]
      refine .inr ⟨ext1 inpf t i, hs.2.2.2, ?_, ?_⟩
      · show Dead prog _ _ (if goF B2 sha = true then _ else U1f)
        rw [hgo, if_neg (by decide), hds.1]
        exact hds.2
      · show ∃ s, _ = (if goF B2 sha = true then _ else U1f).log ++ s
        rw [hgo, if_neg (by decide), hds.1]
        obtain ⟨s, hs'⟩ := hp
        obtain ⟨s2, hs2⟩ := logr
        exact ⟨s ++ s2, by rw [hs2, hs', List.append_assoc]⟩
    · rw [e]; show cmpF B2 46 (delF B2) sha = false; rw [cmpF_snd (by rw [p.fs]; exact q)]; exact hne
    · rw [e]; show cmpF B2 47 (delF B2) sha = false; rw [cmpF_snd (by rw [p.fs]; exact q)]; exact hne
end Go.Proofs.Qxb6500749a
