import Derived.Test.Qxb6500749aLks
namespace Go.Proofs.Qxb6500749a
open Go.RowKit
/-! ### A cycle of the pair, taken apart -/
theorem pair_eq {prog : List Int} {B B1 B2 : BD} {U U1 : BusD} {i : INP} {raw sha : BU} (hT : tickF U = (U1, i)) (hC : coreF prog 0 i B = (B1, raw)) (hS : shaF prog B1 = (B2, sha)) :
    pairF prog B U = ⟨nextB (edgF B2 (alF B2 sha) raw i), if goF B2 sha = true then issF U1 (andB (delF B2).c 2 != 0) (delF B2).a (delF B2).d else U1, ⟨raw, delF B2, sha, cmpF B2 46 (delF B2) sha, cmpF B2 47 (delF B2) sha, alF B2 sha, goF B2 sha && !U1.busy⟩⟩ := by
  unfold pairF
  rw [hT]
  simp only []
  rw [hC]
  simp only []
  rw [hS]
theorem del_keep {B B2 : BD} (hf : B2.fs = B.fs) (hn : B2.now = B.now) (hc : ∀ j, 36 ≤ j → B2.c j = B.c j) : delF B2 = delF B := by
  unfold delF BD.get
  rw [hf, hn, hc 43 (by omega), hc 44 (by omega), hc 45 (by omega)]
structure Parts (prog : List Int) (B : BD) (i : INP) (B1 B2 : BD) (raw sha : BU) : Prop where
  C : coreF prog 0 i B = (B1, raw)
  S : shaF prog B1 = (B2, sha)
  fs : B2.fs = B.fs
  now : B2.now = B.now
  hi : ∀ j, 36 ≤ j → B2.c j = B.c j
theorem parts (prog : List Int) (B : BD) (i : INP) : ∃ B1 B2 raw sha, Parts prog B i B1 B2 raw sha := by
  obtain ⟨B1, raw, hC⟩ : ∃ B1 raw, coreF prog 0 i B = (B1, raw) := ⟨_, _, rfl⟩
  obtain ⟨B2, sha, hS⟩ : ∃ B2 sha, shaF prog B1 = (B2, sha) := ⟨_, _, rfl⟩
  refine ⟨B1, B2, raw, sha, hC, hS, ?_, ?_, fun j hj => ?_⟩
  · have h1 := (shaF_keep prog B1).1; have h2 := (coreF_keep prog 0 i B).1; rw [hS] at h1; rw [hC] at h2; exact h1.trans h2
  · have h1 := (shaF_keep prog B1).2; have h2 := (coreF_keep prog 0 i B).2; rw [hS] at h1; rw [hC] at h2; exact h1.trans h2
  · have h1 := sha_out prog B1 j (.inr hj); have h2 := main_out prog 0 i B j (.inr (by omega)); rw [hS] at h1; rw [hC] at h2; exact h1.trans h2
theorem Parts.del {prog : List Int} {B B1 B2 : BD} {i : INP} {raw sha : BU} (p : Parts prog B i B1 B2 raw sha) : delF B2 = delF B := del_keep p.fs p.now p.hi
theorem tick_log (U : BusD) : (tickF U).1.log = U.log := by
  unfold tickF
  repeat' split
  all_goals rfl
theorem iss_log (U : BusD) (rw : Bool) (a d : Int) : ∃ s, (issF U rw a d).log = U.log ++ s := by
  unfold issF
  split
  · exact ⟨[], by simp⟩
  · exact ⟨_, rfl⟩
def ext1 (inp : Nat → INP) (t : Nat) (i : INP) : Nat → INP := fun k => if k = t then i else inp k
theorem ext1_same (inp : Nat → INP) (t : Nat) (i : INP) : ext1 inp t i t = i := if_pos rfl
theorem ext1_lt (inp : Nat → INP) (t : Nat) (i : INP) : ∀ k, k < t → inp k = ext1 inp t i k := fun k hk => (if_neg (by omega)).symm
/-- The whole of a sound pair: both sides, the latch clear. -/
structure Whole (prog : List Int) (inp : Nat → INP) (t : Nat) (B : BD) : Prop where
  mn : Mn prog inp t B
  sh : Sh prog inp t B
  now : B.now = (t : Nat)
theorem Whole.step {prog : List Int} {inp : Nat → INP} {t : Nat} {B B1 B2 : BD} {i : INP} {raw sha : BU} (h : Whole prog inp t B) (p : Parts prog B i B1 B2 raw sha) (al : Bool) :
    raw = rawM prog (ext1 inp t i) t ∧ sha = dueM prog inp t ∧ delF B2 = dueM prog inp t ∧ Whole prog (ext1 inp t i) (t + 1) (nextB (edgF B2 al raw i)) := by
  have m := h.mn.congr (ext1_lt inp t i)
  have s := h.sh.congr (ext1_lt inp t i)
  have hC := p.C
  rw [← ext1_same inp t i] at hC
  have hm := m.step hC p.S al
  have hs := s.step h.now hC p.S al
  have hd : dueM prog inp t = dueM prog (ext1 inp t i) t := by
    unfold dueM
    split
    · rfl
    · exact rawM_congr prog (t - 2) fun k hk => ext1_lt inp t i k (by omega)
  have hnow : (nextB (edgF B2 al raw i)).now = ((t + 1 : Nat) : Int) := by
    show (edgF B2 al raw i).now + 1 = _
    rw [(edg_fs B2 al raw i).2, p.now, h.now]; omega
  rw [ext1_same inp t i] at hm hs
  exact ⟨hm.1, by rw [hd]; exact hs.1, by rw [p.del]; exact h.mn.del, hm.2, hs.2, hnow⟩
def vld (b : BU) : Bool := andB b.c 1 != 0
/-- The fault-free pair. -/
structure Ref (prog : List Int) (inp : Nat → INP) (t : Nat) (B : BD) : Prop where
  w : Whole prog inp t B
  fs : B.fs = []
  l : B.c 48 = 0
theorem lat_zero : (andB 0 1 == 1) = false := by kernel_rfl
theorem lat_one : (andB 1 1 == 1) = true := by kernel_rfl
theorem Ref.step {prog : List Int} {inp : Nat → INP} {t : Nat} {B : BD} {U U1 : BusD} {i : INP} (h : Ref prog inp t B) (hT : tickF U = (U1, i)) :
    Ref prog (ext1 inp t i) (t + 1) (pairF prog B U).B ∧ (pairF prog B U).r = ⟨rawM prog (ext1 inp t i) t, dueM prog inp t, dueM prog inp t, false, false, false, vld (dueM prog inp t) && !U1.busy⟩ ∧
      (pairF prog B U).U = (if vld (dueM prog inp t) = true then issF U1 (andB (dueM prog inp t).c 2 != 0) (dueM prog inp t).a (dueM prog inp t).d else U1) := by
  obtain ⟨B1, B2, raw, sha, p⟩ := parts prog B i
  have hw := h.w.step p (alF B2 sha)
  have hf2 : B2.fs = [] := p.fs.trans h.fs
  have e46 : cmpF B2 46 (delF B2) sha = false := by rw [cmpF_snd (by rw [hf2]; exact snd_nil _), hw.2.1, hw.2.2.1, neB_self]
  have e47 : cmpF B2 47 (delF B2) sha = false := by rw [cmpF_snd (by rw [hf2]; exact snd_nil _), hw.2.1, hw.2.2.1, neB_self]
  have e48 : B2.get 48 = 0 := by rw [get_snd (by rw [hf2]; exact snd_nil _), p.hi 48 (by omega), h.l]
  have hal : alF B2 sha = false := by unfold alF; rw [e46, e47, e48, lat_zero]; rfl
  have hgo : goF B2 sha = vld (dueM prog inp t) := by unfold goF vld; rw [hal, hw.2.2.1]; simp
  have e := pair_eq (U := U) hT p.C p.S
  rw [e, hal, hgo, hw.2.2.1, hw.2.1]
  rw [hw.2.2.1, hw.2.1] at e46 e47
  refine ⟨⟨by rw [hal] at hw; exact hw.2.2.2, ?_, ?_⟩, ?_, rfl⟩
  · show (edgF B2 false raw i).fs = []
    rw [(edg_fs _ _ _ _).1]; exact hf2
  · show (edgF B2 false raw i).c 48 = 0
    rw [edg_latch (by rw [hf2]; exact snd_nil _)]; rfl
  · simp only [e46, e47, hw.1]
/-- The pair with a fault beside the fault-free one: in step so far, or shut. -/
def Ph (prog : List Int) (t : Nat) (Bf : BD) (Uf Ur : BusD) (inp : Nat → INP) : Prop :=
  ((Mn prog inp t Bf ∨ Sh prog inp t Bf) ∧ Bf.c 48 = 0 ∧ Uf = Ur) ∨ (Bf.c 48 = 1 ∧ ∃ s, Ur.log = Uf.log ++ s)
theorem Ph.step {prog : List Int} {inp : Nat → INP} {t : Nat} {Bf Br : BD} {Uf Ur : BusD} (hr : Ref prog inp t Br) (h : Ph prog t Bf Uf Ur inp) (hnow : Bf.now = (t : Nat)) (h48 : Snd Bf.fs 48) (hcmp : Snd Bf.fs 46 ∨ Snd Bf.fs 47) :
    ∃ inp', Ref prog inp' (t + 1) (pairF prog Br Ur).B ∧ Ph prog (t + 1) (pairF prog Bf Uf).B (pairF prog Bf Uf).U (pairF prog Br Ur).U inp' ∧
      ((pairF prog Bf Uf).B.fs = Bf.fs ∧ (pairF prog Bf Uf).B.now = ((t + 1 : Nat) : Int)) ∧
      (Snd Bf.fs 46 → (pairF prog Bf Uf).r.fa = neB (pairF prog Bf Uf).r.del (pairF prog Bf Uf).r.sha) ∧ (Snd Bf.fs 47 → (pairF prog Bf Uf).r.fb = neB (pairF prog Bf Uf).r.del (pairF prog Bf Uf).r.sha) ∧
      (((pairF prog Bf Uf).B.c 48 = 0 ∧ neB (pairF prog Bf Uf).r.del (pairF prog Bf Uf).r.sha = false) ∨ ((pairF prog Bf Uf).B.c 48 = 1 ∧ (pairF prog Bf Uf).r.al = true ∧ (pairF prog Bf Uf).r.gr = false)) ∧
      (Bf.c 48 = 1 → (pairF prog Bf Uf).B.c 48 = 1) := by
  obtain ⟨U1r, ir, hTr⟩ : ∃ U1 i, tickF Ur = (U1, i) := ⟨_, _, rfl⟩
  obtain ⟨U1f, i, hTf⟩ : ∃ U1 i, tickF Uf = (U1, i) := ⟨_, _, rfl⟩
  have hR := hr.step hTr
  obtain ⟨B1, B2, raw, sha, p⟩ := parts prog Bf i
  have e := pair_eq (U := Uf) hTf p.C p.S
  have s46 : Snd Bf.fs 46 → cmpF B2 46 (delF B2) sha = neB (delF B2) sha := fun q => cmpF_snd (by rw [p.fs]; exact q) _ _
  have s47 : Snd Bf.fs 47 → cmpF B2 47 (delF B2) sha = neB (delF B2) sha := fun q => cmpF_snd (by rw [p.fs]; exact q) _ _
  have e48 : B2.get 48 = Bf.c 48 := by rw [get_snd (by rw [p.fs]; exact h48), p.hi 48 (by omega)]
  have hlat : (edgF B2 (alF B2 sha) raw i).c 48 = flagI (alF B2 sha) := edg_latch (by rw [p.fs]; exact h48) _ _ _
  have hfs : (nextB (edgF B2 (alF B2 sha) raw i)).fs = Bf.fs := by
    show (edgF B2 (alF B2 sha) raw i).fs = Bf.fs
    rw [(edg_fs B2 (alF B2 sha) raw i).1]; exact p.fs
  have hnw : (nextB (edgF B2 (alF B2 sha) raw i)).now = ((t + 1 : Nat) : Int) := by
    show (edgF B2 (alF B2 sha) raw i).now + 1 = _
    rw [(edg_fs _ _ _ _).2, p.now, hnow]; omega
  have hne : neB (delF B2) sha = true → alF B2 sha = true := fun q => by
    unfold alF
    rcases hcmp with z | z
    · rw [s46 z, q]; rfl
    · rw [s47 z, q]; simp
  have hgr : alF B2 sha = true → goF B2 sha = false := fun q => by unfold goF; rw [q]; simp
  have logr : ∃ s, (pairF prog Br Ur).U.log = Ur.log ++ s := by
    have h1 := tick_log Ur
    rw [hTr] at h1
    rw [hR.2.2]
    split
    · obtain ⟨s, hs⟩ := iss_log U1r (andB (dueM prog inp t).c 2 != 0) (dueM prog inp t).a (dueM prog inp t).d
      exact ⟨s, by rw [hs, h1]⟩
    · exact ⟨[], by rw [h1]; simp⟩
  have h1f := tick_log Uf
  rw [hTf] at h1f
  simp only [] at h1f
  refine ⟨ext1 inp t ir, hR.1, ?_⟩
  rw [e]
  cases hal : alF B2 sha
  · -- no alarm
    have hn0 : neB (delF B2) sha = false := by
      cases q : neB (delF B2) sha
      · rfl
      · rw [hne q] at hal; cases hal
    rw [hal] at hlat hfs hnw
    have hz : Bf.c 48 = 0 := by
      rcases h with ⟨_, hl, _⟩ | ⟨hl, _⟩
      · exact hl
      · exfalso
        unfold alF at hal
        rw [e48, hl, lat_one] at hal
        simp at hal
    refine ⟨?_, ⟨hfs, hnw⟩, s46, s47, .inl ⟨hlat, hn0⟩, fun q => by rw [hz] at q; cases q⟩
    rcases h with ⟨hs, hl, hu⟩ | ⟨hl, _⟩
    case inr => rw [hz] at hl; cases hl
    case inl =>
      subst hu
      rw [hTr] at hTf
      injection hTf with q1 q2
      subst q1; subst q2
      have hds : delF B2 = sha := neB_false hn0
      have hdue : delF B2 = dueM prog inp t := by
        rcases hs with q | q
        · rw [p.del]; exact q.del
        · have hC := p.C
          rw [← ext1_same inp t ir] at hC
          have := (q.congr (ext1_lt inp t ir)).step hnow hC p.S false
          rw [hds, this.1]
          unfold dueM
          split
          · rfl
          · exact (rawM_congr prog (t - 2) fun k hk => ext1_lt inp t ir k (by omega)).symm
      have hgo : goF B2 sha = vld (dueM prog inp t) := by unfold goF vld; rw [hal, hdue]; simp
      refine .inl ⟨?_, hlat, ?_⟩
      · have hC := p.C
        rw [← ext1_same inp t ir] at hC
        rcases hs with q | q
        · have := ((q.congr (ext1_lt inp t ir)).step hC p.S false).2
          rw [ext1_same] at this
          exact .inl this
        · have := ((q.congr (ext1_lt inp t ir)).step hnow hC p.S false).2
          rw [ext1_same] at this
          exact .inr this
      · show (if goF B2 sha = true then _ else _) = _
        rw [hR.2.2, hgo, hdue]
  · rw [hal] at hlat hfs hnw
    have hg := hgr hal
    refine ⟨?_, ⟨hfs, hnw⟩, s46, s47, .inr ⟨hlat, rfl, by show (goF B2 sha && !U1f.busy) = false; rw [hg]; rfl⟩, fun _ => hlat⟩
    refine .inr ⟨hlat, ?_⟩
    show ∃ s, (pairF prog Br Ur).U.log = (if goF B2 sha = true then _ else U1f).log ++ s
    rw [hg, if_neg (by decide), h1f]
    obtain ⟨s, hs⟩ := logr
    rcases h with ⟨_, _, hu⟩ | ⟨_, hp⟩
    · rw [hu]; exact ⟨s, hs⟩
    · obtain ⟨s', hs'⟩ := hp
      exact ⟨s' ++ s, by rw [hs, hs', List.append_assoc]⟩
end Go.Proofs.Qxb6500749a
