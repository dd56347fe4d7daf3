import Derived.Test.Qxb6500749aSy2
import Derived.Test.Qxb6500749aDpp
namespace Go.Proofs.Qxb6500749a
open Go.RowKit
/-! ### The fault-free play beside the interpreter -/
def im0 (img : Int → Int) : IM := ⟨fun _ => 0, 0, false, false, img, []⟩
theorem runM_now (prog : List Int) (inp : Nat → INP) : ∀ t, (runM prog inp t).now = 0
  | 0 => rfl
  | t + 1 => (coreF_keep prog 0 (inp t) (runM prog inp t)).2.trans (runM_now prog inp t)
theorem runM_nfs (prog : List Int) (inp : Nat → INP) (t : Nat) : runM prog inp t = nfs (runM prog inp t).c := by
  have h1 := runM_fs prog inp t
  have h2 := runM_now prog inp t
  cases hX : runM prog inp t with
  | mk c fs now =>
    rw [hX] at h1 h2
    simp only [] at h1 h2
    subst h1
    subst h2
    rfl
theorem Syn.same {prog : List Int} {A0 : IM} {t k : Nat} {c c1 c2 : Nat → Int} {lt du ls : BU} {U U' : BusD} (h : Syn prog A0 t k c c1 c2 lt du ls U) (h1 : U'.busy = U.busy) (h2 : U'.m = U.m) (h3 : U'.log = U.log) (h4 : U'.left = U.left) : Syn prog A0 t k c c1 c2 lt du ls U' := by
  refine ⟨h.bef, h.le, ?_⟩
  have hs := h.st
  unfold StA StB1 StB2 StB3 StZ Idl at hs ⊢
  rw [h1, h2, h3, h4]
  exact hs
structure GRep (r : REP) : Prop where
  fa : r.fa = false
  fb : r.fb = false
  al : r.al = false
  eq : r.del = r.sha
structure PF (R : RG) : Prop where
  ok : ROk R
  kr : R.kc = false ∧ R.ko = false
  wi : ∀ a, W32 (R.img a)
  pre : R.run = false → R.uP.m = R.img ∧ R.uP.log = [] ∧ R.uP.busy = false
  good : ∀ r ∈ R.reps, GRep r
  go : R.run = true → R.last.sha = R.last.del ∧ ∃ inp k, Ref R.prog inp R.reps.length R.BP ∧ Syn R.prog (im0 R.img) R.reps.length k (runM R.prog inp R.reps.length).c (runM R.prog inp (R.reps.length - 1)).c (runM R.prog inp (R.reps.length - 2)).c (ltM R.prog inp R.reps.length) (dueM R.prog inp R.reps.length) R.last.del R.uP
section
variable {R : RG}
theorem PF.str (h : PF R) (hr : R.run = false) : PF (strR R) := by
  obtain ⟨p1, p2, p3⟩ := h.pre hr
  have h0 := h.ok.reps0 hr
  have hfs : fsR R = [] := by unfold fsR fsC fsO; rw [h.kr.1, h.kr.2]; simp
  refine ⟨h.ok.str hr, h.kr, h.wi, fun q => Bool.noConfusion (show true = false from q), h.good, fun _ => ⟨rfl, fun _ => ⟨false, false, 0⟩, 0, ?_, ?_⟩⟩
  · show Ref R.prog _ R.reps.length (bd0 (fsR R))
    rw [h0, hfs]
    exact ⟨⟨Mn.zero _ _ _ (fun _ _ => snd_nil _), Sh.zero _ _ _ (fun _ _ _ => snd_nil _), rfl⟩, rfl, rfl⟩
  · show Syn R.prog (im0 R.img) R.reps.length 0 (runM R.prog _ R.reps.length).c (runM R.prog _ (R.reps.length - 1)).c (runM R.prog _ (R.reps.length - 2)).c (ltM R.prog _ R.reps.length) (dueM R.prog _ R.reps.length) rep0.del R.uP
    rw [h0]
    refine ⟨fun j hj => absurd hj (by omega), Nat.le_refl _, .inl ⟨rfl, ⟨fun _ _ => rfl, rfl⟩, ⟨rfl, rfl⟩, rfl, rfl, nfl_z, ⟨p3, p1, p2⟩, Nat.zero_le _⟩⟩
theorem PF.cyc (h : PF R) : PF (cycR R) := by
  have hok := h.ok.cyc
  have hQ : PF (if R.run = true then R else strR R) ∧ (if R.run = true then R else strR R).run = true := by
    by_cases hr : R.run = true
    · rw [if_pos hr]; exact ⟨h, hr⟩
    · rw [if_neg hr]; exact ⟨h.str (by simpa using hr), rfl⟩
  unfold cycR at hok ⊢
  generalize (if R.run = true then R else strR R) = Q at *
  obtain ⟨q, hr⟩ := hQ
  obtain ⟨hl, inp, k, href, hsyn⟩ := q.go hr
  obtain ⟨U1, i, hT⟩ : ∃ U1 i, tickF Q.uP = (U1, i) := ⟨_, _, rfl⟩
  obtain ⟨r1, r2, r3⟩ := href.step hT
  obtain ⟨k', c', hc', hs'⟩ := hsyn.step q.ok.uP hT
  have hlen : (cy2 (cy1 Q)).reps.length = Q.reps.length + 1 := by
    show (Q.reps ++ [_]).length = _
    simp
  have hgr : GRep (pairF Q.prog Q.BP Q.uP).r := by rw [r2]; exact ⟨rfl, rfl, rfl, rfl⟩
  have hnf := runM_nfs Q.prog inp Q.reps.length
  refine ⟨hok, q.kr, q.wi, fun z => absurd (hr.symm.trans (show Q.run = false from z)) (by decide), fun r hm => ?_, fun _ => ⟨?_, ext1 inp Q.reps.length i, k', ?_, ?_⟩⟩
  · rcases List.mem_append.1 (show r ∈ Q.reps ++ [(pairF Q.prog Q.BP Q.uP).r] from hm) with z | z
    · exact q.good r z
    · simp at z; rw [z]; exact hgr
  · show (pairF Q.prog Q.BP Q.uP).r.sha = (pairF Q.prog Q.BP Q.uP).r.del
    exact hgr.eq.symm
  · rw [hlen]; exact r1
  · rw [hlen]
    show Syn Q.prog (im0 Q.img) (Q.reps.length + 1) k' (runM Q.prog (ext1 inp Q.reps.length i) (Q.reps.length + 1)).c (runM Q.prog (ext1 inp Q.reps.length i) (Q.reps.length + 1 - 1)).c (runM Q.prog (ext1 inp Q.reps.length i) (Q.reps.length + 1 - 2)).c (ltM Q.prog (ext1 inp Q.reps.length i) (Q.reps.length + 1)) (dueM Q.prog (ext1 inp Q.reps.length i) (Q.reps.length + 1)) (pairF Q.prog Q.BP Q.uP).r.del (pairF Q.prog Q.BP Q.uP).U
    have e1 : (runM Q.prog (ext1 inp Q.reps.length i) (Q.reps.length + 1)).c = c' := by
      rw [run_next, hnf, hc']; rfl
    have cg : ∀ n, n ≤ Q.reps.length → runM Q.prog (ext1 inp Q.reps.length i) n = runM Q.prog inp n := fun n hn => (runM_congr Q.prog n fun j hj => ext1_lt inp Q.reps.length i j (by omega)).symm
    rw [e1, cg _ (by omega), cg _ (by omega), lt_next, due_next, r2, r3, hnf, Nat.add_sub_cancel, show Q.reps.length + 1 - 2 = Q.reps.length - 1 by omega]
    exact hs'
theorem PF.cycN : ∀ (n : Nat) {R : RG}, PF R → PF (cycN n R)
  | 0, _, h => h
  | n + 1, _, h => PF.cycN n h.cyc
theorem PF.pok (h : PF R) (hr : R.run = false) (a d : Int) (hm : mapF a = true) (hd : W32 d) : PF (pokR R a d) := by
  obtain ⟨p1, p2, p3⟩ := h.pre hr
  refine ⟨h.ok.poke a d hd, h.kr, fun x => w32_ite hd (h.wi x), fun _ => ?_, h.good, fun q => absurd (hr.symm.trans (show R.run = true from q)) (by decide)⟩
  show (pokF R.uP a d).m = (fun x => if x = a then d else R.img x) ∧ (pokF R.uP a d).log = [] ∧ (pokF R.uP a d).busy = false
  unfold pokF
  rw [if_pos hm]
  exact ⟨by show (fun x => if x = a then d else R.uP.m x) = _; rw [p1], p2, p3⟩
theorem PF.stp (h : PF R) (o : OpD) (ho : o.Ok) : PF (stpR R o) := by
  have hok := (h.ok.stp o ho).1
  revert hok
  unfold stpR
  by_cases k0 : o.k = 0
  · rw [if_pos k0]
    split
    · intro _; exact h
    · rename_i q
      simp only [not_or, Bool.not_eq_true] at q
      intro hok; exact ⟨hok, h.kr, h.wi, h.pre, h.good, fun z => absurd (q.1.symm.trans (show R.run = true from z)) (by decide)⟩
  rw [if_neg k0]
  by_cases k1 : o.k = 1
  · rw [if_pos k1]
    split
    · intro _; exact h
    · rename_i q
      intro _
      simp only [not_or, Bool.not_eq_true, Bool.not_eq_false] at q
      exact h.pok q.1 _ _ q.2 ho.b
  rw [if_neg k1]
  by_cases k2 : o.k = 2
  · rw [if_pos k2]
    split
    · intro _; exact h
    · rename_i q
      simp only [not_or, Bool.not_eq_true] at q
      have hr := q.1
      split
      · intro hok
        exact ⟨hok, h.kr, h.wi, h.pre, h.good, fun z => absurd (hr.symm.trans (show R.run = true from z)) (by decide)⟩
      · split
        · intro hok
          exact ⟨hok, h.kr, h.wi, h.pre, h.good, fun z => absurd (hr.symm.trans (show R.run = true from z)) (by decide)⟩
        · intro _; exact h
  rw [if_neg k2]
  by_cases k3 : o.k = 3
  · rw [if_pos k3]
    intro hok
    obtain ⟨e1, e2, e3, e4⟩ := queF_keep R.uP o.a
    exact ⟨hok, h.kr, h.wi, fun q => by show (queF R.uP o.a).m = R.img ∧ (queF R.uP o.a).log = [] ∧ (queF R.uP o.a).busy = false; rw [e1, e2, e3]; exact h.pre q, h.good, fun q => by
      obtain ⟨a1, inp, k, a2, a3⟩ := h.go q
      exact ⟨a1, inp, k, a2, a3.same e3 e1 e2 e4⟩⟩
  rw [if_neg k3]
  by_cases k4 : o.k = 4
  · rw [if_pos k4]
    intro _
    split
    · exact h
    · exact h.cycN _
  rw [if_neg k4]
  by_cases k5 : o.k = 5
  · rw [if_pos k5]
    split
    · intro _; exact h
    · rename_i q
      intro hok
      simp only [not_or, Bool.not_eq_true, Bool.not_eq_false] at q
      obtain ⟨hr, m1, m2⟩ := q
      have ha := ho.a
      rw [mapF_iff] at m1 m2
      have hb : o.a + 12 < 4096 := by have := ha.1; omega
      have h4 := (((h.pok hr o.a o.b ((mapF_iff _).2 m1) ho.b).pok hr (o.a + 4) o.c ((mapF_iff _).2 (by omega)) ho.c).pok hr (o.a + 8) o.d ((mapF_iff _).2 (by omega)) ho.d).pok hr (o.a + 12) ((crcF o.b o.c o.d + o.e) % 4294967296) ((mapF_iff _).2 (by omega)) (W32.emod _)
      exact ⟨hok, h4.kr, h4.wi, h4.pre, h4.good, fun z => absurd (hr.symm.trans (show R.run = true from z)) (by decide)⟩
  rw [if_neg k5]
  intro _
  exact h
theorem pf_play (s : Nat → OpD) : ∀ n : Nat, (∀ k, k < n → (s k).Ok) → PF (plyN s false false n)
  | 0, _ => ⟨rg0_ok false false, ⟨rfl, rfl⟩, fun _ => w32_zero, fun _ => ⟨rfl, rfl, rfl⟩, fun r hr => absurd hr (by simp [plyN, rg0]), fun q => Bool.noConfusion (show false = true from q)⟩
  | n + 1, h => (pf_play s n fun k hk => h k (by omega)).stp (s n) (h n (by omega))
end
end Go.Proofs.Qxb6500749a
