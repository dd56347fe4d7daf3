import Derived.Test.Qxb6500749aPrt
import Derived.Test.Qxb6500749aPly
namespace Go.Proofs.Qxb6500749a
open Go.RowKit
/-! ### A play with faults beside the play without -/
def Gd (fs : List FD) (reps : List REP) : Prop := ∀ r ∈ reps, (Snd fs 46 → r.fa = neB r.del r.sha) ∧ (Snd fs 47 → r.fb = neB r.del r.sha)
def D2 (reps : List REP) : Prop := ∀ (j : Nat) (r : REP), reps[j]? = some r → (∃ i, i ≤ j ∧ ∃ r', reps[i]? = some r' ∧ neB r'.del r'.sha = true) → r.al = true ∧ r.gr = false
def Eqs (reps : List REP) : Prop := ∀ r ∈ reps, neB r.del r.sha = false
theorem D2.snoc {reps : List REP} (h : D2 reps) (r : REP) (hr : (Eqs reps ∧ neB r.del r.sha = false) ∨ (r.al = true ∧ r.gr = false)) : D2 (reps ++ [r]) := by
  intro j x hj hx
  by_cases hl : j < reps.length
  · rw [List.getElem?_append_left hl] at hj
    refine h j x hj ?_
    obtain ⟨i, hi, r', hr', hn⟩ := hx
    rw [List.getElem?_append_left (by omega)] at hr'
    exact ⟨i, hi, r', hr', hn⟩
  · have hj2 : j = reps.length := by
      rcases Nat.lt_or_ge j (reps ++ [r]).length with q | q
      · simp at q; omega
      · rw [List.getElem?_eq_none q] at hj; cases hj
    subst hj2
    have hxr : x = r := by simpa using hj.symm
    subst hxr
    rcases hr with ⟨h1, h2⟩ | h2
    · exfalso
      obtain ⟨i, hi, r', hr', hn⟩ := hx
      by_cases hi2 : i < reps.length
      · rw [List.getElem?_append_left hi2] at hr'
        rw [h1 r' (List.mem_of_getElem? hr')] at hn; cases hn
      · have : i = reps.length := by omega
        subst this
        have e : r' = x := by simpa using hr'.symm
        rw [e, h2] at hn; cases hn
    · exact h2
theorem Eqs.snoc {reps : List REP} (h : Eqs reps) (r : REP) (hr : neB r.del r.sha = false) : Eqs (reps ++ [r]) := fun x hx => by
  rcases List.mem_append.1 hx with q | q
  · exact h x q
  · simp at q; subst q; exact hr
theorem Gd.snoc {fs : List FD} {reps : List REP} (h : Gd fs reps) (r : REP) (hr : (Snd fs 46 → r.fa = neB r.del r.sha) ∧ (Snd fs 47 → r.fb = neB r.del r.sha)) : Gd fs (reps ++ [r]) := fun x hx => by
  rcases List.mem_append.1 hx with q | q
  · exact h x q
  · simp at q; subst q; exact hr
structure Rn (prog : List Int) (fs : List FD) (t : Nat) (Bf Br : BD) (Uf Ur : BusD) (reps : List REP) : Prop where
  ex : ∃ inp, Ref prog inp t Br ∧ ((Ph prog t Bf Uf Ur inp ∧ Snd fs 48 ∧ (Bf.c 48 = 0 → Eqs reps) ∧ (Bf.c 48 = 0 ∨ Bf.c 48 = 1)) ∨ (Pl prog t Bf Uf Ur inp ∧ Eqs reps))
  fse : Bf.fs = fs
  now : Bf.now = (t : Nat)
  g : Gd fs reps
  d : D2 reps
theorem Rn.step {prog : List Int} {fs : List FD} {t : Nat} {Bf Br : BD} {Uf Ur : BusD} {reps : List REP} (h : Rn prog fs t Bf Br Uf Ur reps) (hc : Snd fs 46 ∨ Snd fs 47) :
    Rn prog fs (t + 1) (pairF prog Bf Uf).B (pairF prog Br Ur).B (pairF prog Bf Uf).U (pairF prog Br Ur).U (reps ++ [(pairF prog Bf Uf).r]) := by
  obtain ⟨inp, hr, hph⟩ := h.ex
  have hfs := h.fse
  rcases hph with ⟨ph, h48, he, hz⟩ | ⟨pl, he⟩
  · obtain ⟨inp', r1, r2, ⟨r3, r4⟩, r5, r6, r7, r8⟩ := ph.step hr h.now (by rw [hfs]; exact h48) (by rw [hfs]; exact hc)
    rw [hfs] at r3 r5 r6
    have hold : (pairF prog Bf Uf).B.c 48 = 0 → Bf.c 48 = 0 := fun q => by
      rcases hz with z | z
      · exact z
      · rw [r8 z] at q; cases q
    refine ⟨⟨inp', r1, .inl ⟨r2, h48, fun q => ?_, ?_⟩⟩, r3, r4, h.g.snoc _ ⟨r5, r6⟩, h.d.snoc _ ?_⟩
    · refine (he (hold q)).snoc _ ?_
      rcases r7 with z | z
      · exact z.2
      · rw [z.1] at q; cases q
    · rcases r7 with z | z
      · exact .inl z.1
      · exact .inr z.1
    · rcases r7 with z | z
      · exact .inl ⟨he (hold z.1), z.2⟩
      · exact .inr z.2
  · obtain ⟨inp', r1, r2, r3, r4, r5, r6⟩ := pl.step hr
    rw [hfs] at r3 r5 r6
    refine ⟨⟨inp', r1, .inr ⟨r2, he.snoc _ r4⟩⟩, r3, ?_, h.g.snoc _ ⟨fun q => by rw [r4]; exact r5 q, fun q => by rw [r4]; exact r6 q⟩, h.d.snoc _ (.inl ⟨he, r4⟩)⟩
    rcases r2 with ⟨hw, _⟩ | ⟨_, hw, _⟩
    · exact hw.now
    · exact hw.now
theorem Rn.que {prog : List Int} {fs : List FD} {t : Nat} {Bf Br : BD} {Uf Ur : BusD} {reps : List REP} (h : Rn prog fs t Bf Br Uf Ur reps) (l : Int) : Rn prog fs t Bf Br (queF Uf l) (queF Ur l) reps := by
  have hlog : ∀ U, (queF U l).log = U.log := fun U => by unfold queF; split <;> rfl
  have hbusy : ∀ U, (queF U l).busy = U.busy := fun U => by unfold queF; split <;> rfl
  obtain ⟨inp, hr, hph⟩ := h.ex
  refine ⟨⟨inp, hr, ?_⟩, h.fse, h.now, h.g, h.d⟩
  rcases hph with ⟨ph, h2⟩ | ⟨pl, h2⟩
  · refine .inl ⟨?_, h2⟩
    rcases ph with ⟨hs, hl, hu⟩ | ⟨hl, hp⟩
    · exact .inl ⟨hs, hl, by rw [hu]⟩
    · exact .inr ⟨hl, by rw [hlog, hlog]; exact hp⟩
  · refine .inr ⟨?_, h2⟩
    rcases pl with ⟨hw, hu, hp⟩ | ⟨inpf, hw, hd, hp⟩
    · exact .inl ⟨hw, by rw [hu], ⟨fun q => hp.b (by rw [← hbusy Ur]; exact q), fun q => by have := hp.r1 q; rw [hbusy]; exact this, fun q => by have := hp.r2 q; rw [hbusy]; exact this⟩⟩
    · exact .inr ⟨inpf, hw, ⟨by rw [hbusy]; exact hd.b, hd.w, hd.r1, hd.r2⟩, by rw [hlog, hlog]; exact hp⟩
/-- How the faults lie. -/
structure Cls (fs : List FD) : Prop where
  cmp : Snd fs 46 ∨ Snd fs 47
  side : (∀ s, s < 46 → Snd fs s) ∨ (Snd fs 48 ∧ ((∀ s, s < 18 ∨ (40 ≤ s ∧ s < 46) → Snd fs s) ∨ (∀ s, 18 ≤ s → s < 40 → Snd fs s)))
theorem Rn.zero (prog : List Int) (fs : List FD) (hc : Cls fs) (U : BusD) (hb : U.busy = false) : Rn prog fs 0 (bd0 fs) (bd0 []) U U [] := by
  have e0 : Eqs [] := fun r hr => absurd hr (by simp)
  have hR : Ref prog (fun _ => ⟨false, false, 0⟩) 0 (bd0 []) := ⟨⟨Mn.zero _ _ _ fun s _ => snd_nil s, Sh.zero _ _ _ fun s _ _ => snd_nil s, rfl⟩, rfl, rfl⟩
  refine ⟨⟨fun _ => ⟨false, false, 0⟩, hR, ?_⟩, rfl, rfl, fun r hr => absurd hr (by simp), fun j r hj => absurd hj (by simp)⟩
  rcases hc.side with q | ⟨q1, q2⟩
  · exact .inr ⟨.inl ⟨⟨Mn.zero _ _ _ fun s hs => q s (by omega), Sh.zero _ _ _ fun s _ h2 => q s (by omega), rfl⟩, rfl, Prot.zero _ _ _ hb⟩, e0⟩
  · refine .inl ⟨.inl ⟨?_, rfl, rfl⟩, q1, fun _ => e0, .inl rfl⟩
    rcases q2 with z | z
    · exact .inl (Mn.zero _ _ _ z)
    · exact .inr (Sh.zero _ _ _ z)
structure Rel (Rf Rr : RG) : Prop where
  prog : Rf.prog = Rr.prog
  run : Rf.run = Rr.run
  hc : Rf.hc = Rr.hc
  ho : Rf.ho = Rr.ho
  fc : Rf.fc = Rr.fc
  fo : Rf.fo = Rr.fo
  kr : Rr.kc = false ∧ Rr.ko = false
  cf : Rf.hc = true → cmpS Rf.fc.site = true
  of : Rf.ho = true → cmpS Rf.fo.site = false
  nr : Rf.run = false → Rf.uP = Rr.uP ∧ Rf.uP.busy = false ∧ Rf.reps = [] ∧ Rr.reps = []
  rn : Rf.run = true → Rn Rf.prog (fsR Rf) Rf.reps.length Rf.BP Rr.BP Rf.uP Rr.uP Rf.reps
theorem cmpS_iff (s : Int) : cmpS s = true ↔ s = 46 ∨ s = 47 := by unfold cmpS; simp
theorem fsR_mem {R : RG} {f : FD} (h : f ∈ fsR R) : (f = R.fc ∧ R.hc = true) ∨ (f = R.fo ∧ R.ho = true) := by
  unfold fsR fsC fsO at h
  rcases List.mem_append.1 h with q | q
  · split at q
    · rename_i z; simp at q z; exact .inl ⟨q, z.1⟩
    · simp at q
  · split at q
    · rename_i z; simp at q z; exact .inr ⟨q, z.1⟩
    · simp at q
theorem cls_of {R : RG} (hc : R.hc = true → cmpS R.fc.site = true) (ho : R.ho = true → cmpS R.fo.site = false) : Cls (fsR R) := by
  have hfo : R.ho = true → R.fo.site ≠ 46 ∧ R.fo.site ≠ 47 := fun q => by
    have := ho q
    unfold cmpS at this
    simpa using this
  have key : ∀ s : Nat, s ≠ 46 → s ≠ 47 → (R.ho = true → R.fo.site ≠ (s : Nat)) → Snd (fsR R) s := fun s h1 h2 h3 f hf => by
    rcases fsR_mem hf with ⟨e, q⟩ | ⟨e, q⟩
    · rw [e]
      have := (cmpS_iff _).1 (hc q)
      omega
    · rw [e]; exact h3 q
  refine ⟨?_, ?_⟩
  · by_cases h6 : R.fc.site = 46
    · right
      intro f hf
      rcases fsR_mem hf with ⟨e, q⟩ | ⟨e, q⟩
      · rw [e, h6]; decide
      · rw [e]; exact (hfo q).2
    · left
      intro f hf
      rcases fsR_mem hf with ⟨e, q⟩ | ⟨e, q⟩
      · rw [e]; exact h6
      · rw [e]; exact (hfo q).1
  · by_cases h4 : R.ho = true ∧ R.fo.site < 46 ∧ 0 ≤ R.fo.site
    · right
      refine ⟨key 48 (by decide) (by decide) (fun _ e => by omega), ?_⟩
      by_cases hs : R.fo.site < 18 ∨ 40 ≤ R.fo.site
      · right
        intro s h1 h2
        exact key s (by omega) (by omega) (fun _ e => by omega)
      · left
        intro s h1
        exact key s (by omega) (by omega) (fun _ e => by omega)
    · left
      intro s h1
      exact key s (by omega) (by omega) (fun q e => h4 ⟨q, by omega, by omega⟩)
theorem Rel.cyc {Rf Rr : RG} (h : Rel Rf Rr) : Rel (cycR Rf) (cycR Rr) := by
  have hcl := cls_of h.cf h.of
  have hQ : Rel (if Rf.run = true then Rf else strR Rf) (if Rr.run = true then Rr else strR Rr) ∧ (if Rf.run = true then Rf else strR Rf).run = true ∧ fsR (if Rf.run = true then Rf else strR Rf) = fsR Rf := by
    rw [← h.run]
    by_cases hr : Rf.run = true
    · rw [if_pos hr, if_pos hr]; exact ⟨h, hr, rfl⟩
    · rw [if_neg hr, if_neg hr]
      have hn := h.nr (by simpa using hr)
      refine ⟨⟨h.prog, rfl, h.hc, h.ho, h.fc, h.fo, h.kr, h.cf, h.of, fun q => Bool.noConfusion (show true = false from q), fun _ => ?_⟩, rfl, rfl⟩
      show Rn Rf.prog (fsR Rf) Rf.reps.length (bd0 (fsR Rf)) (bd0 (fsR Rr)) Rf.uP Rr.uP Rf.reps
      have hfr : fsR Rr = [] := by unfold fsR fsC fsO; rw [h.kr.1, h.kr.2]; simp
      rw [hfr, hn.2.2.1, ← hn.1]
      exact Rn.zero Rf.prog (fsR Rf) hcl Rf.uP hn.2.1
  unfold cycR
  generalize (if Rf.run = true then Rf else strR Rf) = Qf at *
  generalize (if Rr.run = true then Rr else strR Rr) = Qr at *
  obtain ⟨q, hr, hf⟩ := hQ
  have hs := (q.rn hr).step (by rw [hf]; exact hcl.cmp)
  refine ⟨q.prog, q.run, q.hc, q.ho, q.fc, q.fo, q.kr, q.cf, q.of, fun z => ?_, fun _ => ?_⟩
  · exact absurd (hr.symm.trans (show Qf.run = false from z)) (by decide)
  · show Rn Qf.prog (fsR Qf) (Qf.reps ++ [(pairF Qf.prog Qf.BP Qf.uP).r]).length (pairF Qf.prog Qf.BP Qf.uP).B (pairF Qr.prog Qr.BP Qr.uP).B (pairF Qf.prog Qf.BP Qf.uP).U (pairF Qr.prog Qr.BP Qr.uP).U (Qf.reps ++ [(pairF Qf.prog Qf.BP Qf.uP).r])
    rw [List.length_append, List.length_singleton, ← q.prog]
    exact hs
theorem Rel.cycN : ∀ (n : Nat) {Rf Rr : RG}, Rel Rf Rr → Rel (cycN n Rf) (Go.Proofs.Qxb6500749a.cycN n Rr)
  | 0, _, _, h => h
  | n + 1, _, _, h => Rel.cycN n h.cyc
theorem rel_ite {c : Prop} [Decidable c] {a b a' b' : RG} (h1 : c → Rel a a') (h2 : ¬ c → Rel b b') : Rel (if c then a else b) (if c then a' else b') := by
  split
  · rename_i q; exact h1 q
  · rename_i q; exact h2 q
theorem pok_busy (U : BusD) (a d : Int) : (pokF U a d).busy = U.busy := by unfold pokF; split <;> rfl
theorem Rel.pok {Rf Rr : RG} (h : Rel Rf Rr) (hr : Rf.run = false) (a d : Int) : Rel (pokR Rf a d) (pokR Rr a d) := by
  have hn := h.nr hr
  exact ⟨h.prog, h.run, h.hc, h.ho, h.fc, h.fo, h.kr, h.cf, h.of, fun _ => ⟨by show pokF Rf.uP a d = pokF Rr.uP a d; rw [hn.1], by show (pokF Rf.uP a d).busy = false; rw [pok_busy]; exact hn.2.1, hn.2.2⟩, fun q => absurd (hr.symm.trans (show Rf.run = true from q)) (by decide)⟩
theorem Rel.stp {Rf Rr : RG} (h : Rel Rf Rr) (o : OpD) : Rel (stpR Rf o) (stpR Rr o) := by
  have norun : ∀ {x : Prop}, ¬ (Rf.run = true ∨ x) → Rf.run = false := fun q => by
    cases hr : Rf.run
    · rfl
    · exact absurd (.inl hr) q
  unfold stpR
  rw [← h.run, ← h.prog, ← h.hc, ← h.ho]
  refine rel_ite (fun _ => rel_ite (fun _ => h) (fun q => ?_)) fun _ => rel_ite (fun _ => rel_ite (fun _ => h) (fun q => h.pok (norun q) _ _)) fun _ => rel_ite (fun _ => rel_ite (fun _ => h) (fun q => rel_ite (fun z => ?_) fun _ => rel_ite (fun z => ?_) (fun _ => h))) fun _ => rel_ite (fun _ => ?_) fun _ => rel_ite (fun _ => rel_ite (fun _ => h) (fun _ => h.cycN _)) fun _ => rel_ite (fun _ => rel_ite (fun _ => h) (fun q => ?_)) (fun _ => h)
  · have hr := norun q
    exact ⟨rfl, (by first | rfl | exact h.run), (by first | rfl | exact h.hc), (by first | rfl | exact h.ho), h.fc, h.fo, h.kr, h.cf, h.of, h.nr, fun q => absurd (hr.symm.trans (show Rf.run = true from q)) (by decide)⟩
  · have hr := norun q
    exact ⟨(by first | rfl | exact h.prog), (by first | rfl | exact h.run), rfl, (by first | rfl | exact h.ho), rfl, h.fo, h.kr, fun _ => z.1, h.of, h.nr, fun q => absurd (hr.symm.trans (show Rf.run = true from q)) (by decide)⟩
  · have hr := norun q
    exact ⟨(by first | rfl | exact h.prog), (by first | rfl | exact h.run), (by first | rfl | exact h.hc), rfl, h.fc, rfl, h.kr, h.cf, fun _ => z.1, h.nr, fun q => absurd (hr.symm.trans (show Rf.run = true from q)) (by decide)⟩
  · refine ⟨(by first | rfl | exact h.prog), (by first | rfl | exact h.run), (by first | rfl | exact h.hc), (by first | rfl | exact h.ho), h.fc, h.fo, h.kr, h.cf, h.of, fun q => ?_, fun q => (h.rn q).que o.a⟩
    have hn := h.nr q
    refine ⟨by show queF Rf.uP o.a = queF Rr.uP o.a; rw [hn.1], ?_, hn.2.2⟩
    show (queF Rf.uP o.a).busy = false
    unfold queF
    split
    · exact hn.2.1
    · exact hn.2.1
  · have hr := norun q
    have h4 := (((h.pok hr o.a o.b).pok hr (o.a + 4) o.c).pok hr (o.a + 8) o.d).pok hr (o.a + 12) ((crcF o.b o.c o.d + o.e) % 4294967296)
    exact ⟨h4.prog, h4.run, h4.hc, h4.ho, h4.fc, h4.fo, h4.kr, h4.cf, h4.of, h4.nr, fun q => absurd (hr.symm.trans (show Rf.run = true from q)) (by decide)⟩
theorem rel_play (s : Nat → OpD) (kc ko : Bool) : ∀ n, Rel (plyN s kc ko n) (plyN s false false n)
  | 0 => ⟨rfl, rfl, rfl, rfl, rfl, rfl, ⟨rfl, rfl⟩, fun q => Bool.noConfusion (show false = true from q), fun q => Bool.noConfusion (show false = true from q), fun _ => ⟨rfl, rfl, rfl, rfl⟩, fun q => Bool.noConfusion (show false = true from q)⟩
  | n + 1 => (rel_play s kc ko n).stp (s n)
/-! ### What law 6 asks -/
theorem Rel.opens {Rf Rr : RG} (h : Rel Rf Rr) : ∃ s, Rr.uP.log = Rf.uP.log ++ s := by
  cases hr : Rf.run
  · exact ⟨[], by rw [(h.nr hr).1]; simp⟩
  · obtain ⟨inp, _, ph⟩ := (h.rn hr).ex
    rcases ph with ⟨ph, _⟩ | ⟨pl, _⟩
    · rcases ph with ⟨_, _, hu⟩ | ⟨_, hp⟩
      · exact ⟨[], by rw [hu]; simp⟩
      · exact hp
    · rcases pl with ⟨_, hu, _⟩ | ⟨_, _, _, hp⟩
      · exact ⟨[], by rw [hu]; simp⟩
      · exact hp
theorem Rel.reps {Rf Rr : RG} (h : Rel Rf Rr) : Gd (fsR Rf) Rf.reps ∧ D2 Rf.reps := by
  cases hr : Rf.run
  · rw [(h.nr hr).2.2.1]
    exact ⟨fun r hr => absurd hr (by simp), fun j r hj => absurd hj (by simp)⟩
  · exact ⟨(h.rn hr).g, (h.rn hr).d⟩
theorem Rel.sound {Rf Rr : RG} (h : Rel Rf Rr) (hc : Rf.hc = true) : ∀ r ∈ Rf.reps, (if Rf.fc.site = 46 then r.fb else r.fa) = neB r.del r.sha := fun r hr => by
  have hg := h.reps.1 r hr
  have hfo : Rf.ho = true → Rf.fo.site ≠ 46 ∧ Rf.fo.site ≠ 47 := fun q => by
    have := h.of q
    unfold cmpS at this
    simpa using this
  have hcf := (cmpS_iff _).1 (h.cf hc)
  split
  · rename_i h6
    refine hg.2 fun f hf => ?_
    rcases fsR_mem hf with ⟨e, q⟩ | ⟨e, q⟩
    · rw [e, h6]; decide
    · rw [e]; exact (hfo q).2
  · rename_i h6
    refine hg.1 fun f hf => ?_
    rcases fsR_mem hf with ⟨e, q⟩ | ⟨e, q⟩
    · rw [e]; exact h6
    · rw [e]; exact (hfo q).1
end Go.Proofs.Qxb6500749a
