import Derived.Test.Qxb6500749aDpi
namespace Go.Proofs.Qxb6500749a
open Go.RowKit
/-! ### The DMA master in the whole play -/
def zR (R : RG) : Nat := if (R.ho && R.ko) = true then R.fo.site.toNat else 0
structure PI (μ : Nat) (R : RG) : Prop where
  ok : ROk R
  cs : R.hc = true → cmpS R.fc.site = true
  wi : ∀ a, W32 (R.img a)
  pre : R.run = false → R.uD.m = R.img ∧ R.uD.log = [] ∧ R.uD.busy = false
  idle : R.run = true → R.hd = false → R.DM.st = 0 ∧ R.uD.log = [] ∧ R.uD.busy = false
  go : R.run = true → R.hd = true → (49 ≤ zR R → zR R < 55 → sndM R.img R.desc) → DI (zR R) (as0 R.img R.desc) μ R.DM R.BM R.uD
section
variable {μ ν : Nat} {R : RG}
theorem PI.mono (h : PI μ R) (hl : μ ≤ ν) : PI ν R := ⟨h.ok, h.cs, h.wi, h.pre, h.idle, fun a b c => (h.go a b c).mono hl⟩
theorem fsR_mem2 {R : RG} {f : FD} (h : f ∈ fsR R) : (f = R.fc ∧ R.hc = true) ∨ (f = R.fo ∧ (R.ho && R.ko) = true) := by
  unfold fsR fsC fsO at h
  rcases List.mem_append.1 h with q | q
  · split at q
    · rename_i z; simp at q z; exact .inl ⟨q, z.1⟩
    · simp at q
  · split at q
    · rename_i z; simp at q; exact .inr ⟨q, z⟩
    · simp at q
theorem cmpS_or {s : Int} (h : cmpS s = true) : s = 46 ∨ s = 47 := by unfold cmpS at h; simpa using h
theorem bn_start (h : PI μ R) : BN (zR R) (idxF (bd0 (fsR R)) 0) (fun _ => 0) := by
  have h0 : BN (zR R) (bd0 (fsR R)) (fun _ => 0) := by
    refine ⟨bd0_ok _, fun _ => w32_zero, fun s h1 h2 h3 => ⟨fun f hf => ?_, rfl⟩, fun z1 z2 => ⟨R.fo.bit, fun f hf hs => ?_, Nr.refl _ _⟩⟩
    · rcases fsR_mem2 hf with ⟨e, q⟩ | ⟨e, q⟩
      · rw [e]; have := cmpS_or (h.cs q); omega
      · rw [e]
        intro h9
        apply h3
        unfold zR
        rw [if_pos q, h9]
        omega
    · rcases fsR_mem2 hf with ⟨e, q⟩ | ⟨e, q⟩
      · rw [e] at hs; have := cmpS_or (h.cs q); omega
      · rw [e]
  have h2 := (h0.set 53 w32_zero w32_zero (by decide) (by decide) (fun _ => rfl)).set 54 w32_zero w32_zero (by decide) (by decide) (fun _ => rfl)
  have e : upd (upd (fun _ => (0 : Int)) 53 0) 54 0 = fun _ => 0 := by
    funext s
    unfold upd
    repeat' split
    all_goals rfl
  rw [e] at h2
  exact h2
theorem PI.str (h : PI μ R) (hr : R.run = false) : PI 2305 (strR R) := by
  obtain ⟨p1, p2, p3⟩ := h.pre hr
  refine ⟨h.ok.str hr, h.cs, h.wi, fun q => Bool.noConfusion (show true = false from q), fun _ hd => ⟨?_, p2, p3⟩, fun _ hd _ => ⟨0, .inr (.inl ⟨rfl, ?_, rfl, ?_, p3, p1, p2, Nat.le_refl _⟩)⟩⟩
  · show (if R.hd = true then strD dd0 R.desc else dd0).st = 0
    rw [if_neg (by rw [show R.hd = false from hd]; decide)]; rfl
  · show (if R.hd = true then strD dd0 R.desc else dd0) = strD dd0 R.desc
    rw [if_pos (show R.hd = true from hd)]
  · show BN (zR R) (if R.hd = true then idxF (bd0 (fsR R)) 0 else bd0 (fsR R)) (fun _ => 0)
    rw [if_pos (show R.hd = true from hd)]
    exact bn_start h
theorem dma_still {D : DD} {B : BD} {U : BusD} (q : D.st ≠ 1) (hb : U.busy = false) : (dmaF D B U).D = D ∧ (dmaF D B U).U = U := by
  have q1 : (D.st == 1) = false := by simpa using q
  have ht : ∀ i, takes D i = false := fun i => by unfold takes; rw [q1]; rfl
  have hdu : dues D = false := by unfold dues; rw [q1]; rfl
  have hT : tickF U = (U, ⟨false, false, 0⟩) := by unfold tickF; rw [if_neg (by rw [hb]; decide)]
  rw [dmaF_eq D B U _ _ hT, ht, if_neg (by decide), if_neg (by decide)]
  unfold gosF
  rw [hdu, if_neg (by decide)]
  exact ⟨rfl, rfl⟩
theorem PI.cyc1 (h : PI (μ + 1) R) (hr : R.run = true) : PI μ (cycR R) := by
  have hok := h.ok.cyc
  have e : cycR R = cy2 (cy1 R) := by unfold cycR; rw [if_pos hr]
  rw [e] at hok ⊢
  refine ⟨hok, h.cs, h.wi, fun q => absurd (hr.symm.trans (show R.run = false from q)) (by decide), fun _ hd => ?_, fun _ hd hs => ?_⟩
  · obtain ⟨i1, i2, i3⟩ := h.idle hr hd
    obtain ⟨k1, k2⟩ := dma_still (D := R.DM) (B := R.BM) (U := R.uD) (by rw [i1]; decide) i3
    show (dmaF R.DM R.BM R.uD).D.st = 0 ∧ (dmaF R.DM R.BM R.uD).U.log = [] ∧ (dmaF R.DM R.BM R.uD).U.busy = false
    rw [k1, k2]
    exact ⟨i1, i2, i3⟩
  · exact DI.step h.wi hs h.ok.uD (h.go hr hd hs)
theorem PI.cyc0 (h : PI μ R) (hr : R.run = false) : PI 2304 (cycR R) := by
  have h1 := (h.str hr).cyc1 (μ := 2304) rfl
  have e : cycR (strR R) = cycR R := by unfold cycR; rw [if_pos (show (strR R).run = true from rfl), if_neg (by rw [hr]; decide)]
  rw [e] at h1
  exact h1
theorem PI.cyc (h : PI 2305 R) : PI 2305 (cycR R) := by
  cases hr : R.run
  · exact (h.cyc0 hr).mono (by decide)
  · exact (PI.cyc1 (μ := 2304) h hr).mono (by decide)
theorem PI.cycN : ∀ (n : Nat) {R : RG}, PI 2305 R → PI 2305 (cycN n R)
  | 0, _, h => h
  | n + 1, _, h => PI.cycN n h.cyc
theorem PI.pok (h : PI μ R) (hr : R.run = false) (a d : Int) (hm : mapF a = true) (hd : W32 d) : PI μ (pokR R a d) := by
  obtain ⟨p1, p2, p3⟩ := h.pre hr
  refine ⟨h.ok.poke a d hd, h.cs, fun x => w32_ite hd (h.wi x), fun _ => ?_, fun q => absurd (hr.symm.trans (show R.run = true from q)) (by decide), fun q => absurd (hr.symm.trans (show R.run = true from q)) (by decide)⟩
  show (pokF R.uD a d).m = (fun x => if x = a then d else R.img x) ∧ (pokF R.uD a d).log = [] ∧ (pokF R.uD a d).busy = false
  unfold pokF
  rw [if_pos hm]
  exact ⟨by show (fun x => if x = a then d else R.uD.m x) = _; rw [p1], p2, p3⟩
theorem queF_keep (U : BusD) (l : Int) : (queF U l).m = U.m ∧ (queF U l).log = U.log ∧ (queF U l).busy = U.busy ∧ (queF U l).left = U.left := by
  unfold queF
  split <;> exact ⟨rfl, rfl, rfl, rfl⟩
theorem DI.que {z : Nat} {A0 : AS} {D : DD} {B : BD} {U : BusD} (h : DI z A0 μ D B U) (l : Int) : DI z A0 μ D B (queF U l) := by
  obtain ⟨e1, e2, e3, e4⟩ := queF_keep U l
  unfold DI
  rw [e1, e2, e3, e4]
  exact h
theorem mapF_iff (a : Int) : mapF a = true ↔ a < 4096 ∧ a % 4 = 0 := by unfold mapF; simp
theorem PI.stp (h : PI 2305 R) (o : OpD) (ho : o.Ok) : PI 2305 (stpR R o) := by
  have hok := (h.ok.stp o ho).1
  revert hok
  unfold stpR
  have nr : ∀ {X : RG}, R.run = false → X.run = R.run → X.run = true → False := fun a b c => by rw [a] at b; rw [b] at c; cases c
  by_cases k0 : o.k = 0
  · rw [if_pos k0]
    split
    · intro _; exact h
    · intro hok; exact ⟨hok, h.cs, h.wi, h.pre, h.idle, h.go⟩
  rw [if_neg k0]
  by_cases k1 : o.k = 1
  · rw [if_pos k1]
    split
    · intro _; exact h
    · rename_i q
      intro _
      simp only [not_or, Bool.not_eq_true, Bool.not_eq_false] at q
      exact h.pok q.1 _ _ q.2 ho.b
  rw [if_neg k1]
  by_cases k2 : o.k = 2
  · rw [if_pos k2]
    split
    · intro _; exact h
    · rename_i q
      simp only [not_or, Bool.not_eq_true] at q
      have hr := q.1
      split
      · rename_i q2
        intro hok
        exact ⟨hok, fun _ => q2.1, h.wi, h.pre, h.idle, fun z => absurd (hr.symm.trans (show R.run = true from z)) (by decide)⟩
      · split
        · intro hok
          exact ⟨hok, h.cs, h.wi, h.pre, h.idle, fun z => absurd (hr.symm.trans (show R.run = true from z)) (by decide)⟩
        · intro _; exact h
  rw [if_neg k2]
  by_cases k3 : o.k = 3
  · rw [if_pos k3]
    intro hok
    obtain ⟨e1, e2, e3, e4⟩ := queF_keep R.uD o.a
    exact ⟨hok, h.cs, h.wi, fun q => by show (queF R.uD o.a).m = R.img ∧ (queF R.uD o.a).log = [] ∧ (queF R.uD o.a).busy = false; rw [e1, e2, e3]; exact h.pre q,
      fun q d => by show R.DM.st = 0 ∧ (queF R.uD o.a).log = [] ∧ (queF R.uD o.a).busy = false; rw [e2, e3]; exact h.idle q d, fun q d s => (h.go q d s).que o.a⟩
  rw [if_neg k3]
  by_cases k4 : o.k = 4
  · rw [if_pos k4]
    intro _
    split
    · exact h
    · exact h.cycN _
  rw [if_neg k4]
  by_cases k5 : o.k = 5
  · rw [if_pos k5]
    split
    · intro _; exact h
    · rename_i q
      intro hok
      simp only [not_or, Bool.not_eq_true, Bool.not_eq_false] at q
      obtain ⟨hr, m1, m2⟩ := q
      have ha := ho.a
      rw [mapF_iff] at m1 m2
      have hb : o.a + 12 < 4096 := by have := ha.1; omega
      have h4 := (((h.pok hr o.a o.b ((mapF_iff _).2 m1) ho.b).pok hr (o.a + 4) o.c ((mapF_iff _).2 (by omega)) ho.c).pok hr (o.a + 8) o.d ((mapF_iff _).2 (by omega)) ho.d).pok hr (o.a + 12) ((crcF o.b o.c o.d + o.e) % 4294967296) ((mapF_iff _).2 (by omega)) (W32.emod _)
      exact ⟨hok, h4.cs, h4.wi, h4.pre, fun z => absurd (hr.symm.trans (show R.run = true from z)) (by decide), fun z => absurd (hr.symm.trans (show R.run = true from z)) (by decide)⟩
  rw [if_neg k5]
  intro _
  exact h
theorem pi_play (s : Nat → OpD) (kc ko : Bool) : ∀ n : Nat, (∀ k, k < n → (s k).Ok) → PI 2305 (plyN s kc ko n)
  | 0, _ => ⟨rg0_ok kc ko, fun q => Bool.noConfusion (show false = true from q), fun _ => w32_zero, fun _ => ⟨rfl, rfl, rfl⟩, fun q => Bool.noConfusion (show false = true from q), fun q => Bool.noConfusion (show false = true from q)⟩
  | n + 1, h => (pi_play s kc ko n fun k hk => h k (by omega)).stp (s n) (h n (by omega))
end
/-! ### Two plays of one script -/
structure Sc (Rf Rr : RG) : Prop where
  img : Rf.img = Rr.img
  hd : Rf.hd = Rr.hd
  desc : Rf.desc = Rr.desc
  run : Rf.run = Rr.run
  hc : Rf.hc = Rr.hc
  ho : Rf.ho = Rr.ho
  fc : Rf.fc = Rr.fc
  fo : Rf.fo = Rr.fo
  len : Rf.prog = Rr.prog
structure Kp (R R' : RG) : Prop where
  img : R'.img = R.img
  hd : R'.hd = R.hd
  desc : R'.desc = R.desc
  hc : R'.hc = R.hc
  ho : R'.ho = R.ho
  fc : R'.fc = R.fc
  fo : R'.fo = R.fo
  kc : R'.kc = R.kc
  ko : R'.ko = R.ko
  len : R'.prog = R.prog
theorem cyc_kp (R : RG) : Kp R (cycR R) ∧ (cycR R).run = true := by
  unfold cycR
  by_cases hr : R.run = true
  · rw [if_pos hr]
    exact ⟨⟨rfl, rfl, rfl, rfl, rfl, rfl, rfl, rfl, rfl, rfl⟩, hr⟩
  · rw [if_neg hr]
    exact ⟨⟨rfl, rfl, rfl, rfl, rfl, rfl, rfl, rfl, rfl, rfl⟩, rfl⟩
theorem Kp.refl (R : RG) : Kp R R := ⟨rfl, rfl, rfl, rfl, rfl, rfl, rfl, rfl, rfl, rfl⟩
theorem Kp.trans {R R' R'' : RG} (h : Kp R R') (g : Kp R' R'') : Kp R R'' := ⟨g.img.trans h.img, g.hd.trans h.hd, g.desc.trans h.desc, g.hc.trans h.hc, g.ho.trans h.ho, g.fc.trans h.fc, g.fo.trans h.fo, g.kc.trans h.kc, g.ko.trans h.ko, g.len.trans h.len⟩
theorem Kp.zR {R R' : RG} (h : Kp R R') : zR R' = Go.Proofs.Qxb6500749a.zR R := by unfold Go.Proofs.Qxb6500749a.zR; rw [h.ho, h.ko, h.fo]
theorem cycN_kp : ∀ (n : Nat) (R : RG), Kp R (cycN n R)
  | 0, R => Kp.refl R
  | n + 1, R => (cyc_kp R).1.trans (cycN_kp n (cycR R))
theorem Sc.kp {Rf Rr Rf' Rr' : RG} (h : Sc Rf Rr) (f : Kp Rf Rf') (g : Kp Rr Rr') (hr : Rf'.run = Rr'.run) : Sc Rf' Rr' :=
  ⟨f.img.trans (h.img.trans g.img.symm), f.hd.trans (h.hd.trans g.hd.symm), f.desc.trans (h.desc.trans g.desc.symm), hr, f.hc.trans (h.hc.trans g.hc.symm), f.ho.trans (h.ho.trans g.ho.symm), f.fc.trans (h.fc.trans g.fc.symm), f.fo.trans (h.fo.trans g.fo.symm), f.len.trans (h.len.trans g.len.symm)⟩
theorem Sc.cyc {Rf Rr : RG} (h : Sc Rf Rr) : Sc (cycR Rf) (cycR Rr) := h.kp (cyc_kp Rf).1 (cyc_kp Rr).1 ((cyc_kp Rf).2.trans (cyc_kp Rr).2.symm)
theorem Sc.cycN : ∀ (n : Nat) {Rf Rr : RG}, Sc Rf Rr → Sc (cycN n Rf) (Go.Proofs.Qxb6500749a.cycN n Rr)
  | 0, _, _, h => h
  | n + 1, _, _, h => Sc.cycN n h.cyc
theorem Sc.pok {Rf Rr : RG} (h : Sc Rf Rr) (a d : Int) : Sc (pokR Rf a d) (pokR Rr a d) :=
  ⟨by show (fun x => if x = a then d else Rf.img x) = (fun x => if x = a then d else Rr.img x); rw [h.img], h.hd, h.desc, h.run, h.hc, h.ho, h.fc, h.fo, h.len⟩
theorem Sc.stp {Rf Rr : RG} (h : Sc Rf Rr) (o : OpD) : Sc (stpR Rf o) (stpR Rr o) := by
  have hrel : ∀ {c : Prop} [Decidable c] {a b a' b' : RG}, (c → Sc a a') → (¬ c → Sc b b') → Sc (if c then a else b) (if c then a' else b') := by
    intro c _ a b a' b' h1 h2
    split
    · rename_i q; exact h1 q
    · rename_i q; exact h2 q
  unfold stpR
  rw [← h.run, ← h.len, ← h.hc, ← h.ho]
  refine hrel (fun _ => hrel (fun _ => h) (fun _ => ?_)) (fun _ => hrel (fun _ => hrel (fun _ => h) (fun _ => h.pok _ _)) (fun _ => hrel (fun _ => hrel (fun _ => h) (fun _ => hrel (fun _ => ?_) (fun _ => hrel (fun _ => ?_) (fun _ => h)))) (fun _ => hrel (fun _ => ?_) (fun _ => hrel (fun _ => hrel (fun _ => h) (fun _ => h.cycN _)) (fun _ => hrel (fun _ => hrel (fun _ => h) (fun _ => ?_)) (fun _ => h))))))
  all_goals try exact ⟨by first | rfl | exact h.img, by first | rfl | exact h.hd, by first | rfl | exact h.desc, by first | rfl | exact h.run, by first | rfl | exact h.hc, by first | rfl | exact h.ho, by first | rfl | exact h.fc, by first | rfl | exact h.fo, by first | rfl | exact h.len | (show Rf.prog ++ [o.a] = Rr.prog ++ [o.a]; rw [h.len])⟩
  · have h4 := (((h.pok o.a o.b).pok (o.a + 4) o.c).pok (o.a + 8) o.d).pok (o.a + 12) ((crcF o.b o.c o.d + o.e) % 4294967296)
    exact ⟨h4.img, rfl, rfl, h4.run, h4.hc, h4.ho, h4.fc, h4.fo, h4.len⟩
theorem sc_play (s : Nat → OpD) (kc ko kc' ko' : Bool) : ∀ n : Nat, Sc (plyN s kc ko n) (plyN s kc' ko' n)
  | 0 => ⟨rfl, rfl, rfl, rfl, rfl, rfl, rfl, rfl, rfl⟩
  | n + 1 => (sc_play s kc ko kc' ko' n).stp (s n)
theorem kk_stp (R : RG) (o : OpD) : (stpR R o).kc = R.kc ∧ (stpR R o).ko = R.ko := by
  have hc := cycN_kp o.a.toNat R
  unfold stpR
  repeat' split
  all_goals first | exact ⟨rfl, rfl⟩ | exact ⟨hc.kc, hc.ko⟩
theorem kk_play (s : Nat → OpD) (kc ko : Bool) : ∀ n : Nat, (plyN s kc ko n).kc = kc ∧ (plyN s kc ko n).ko = ko
  | 0 => ⟨rfl, rfl⟩
  | n + 1 => by
    have h := kk_play s kc ko n
    have h2 := kk_stp (plyN s kc ko n) (s n)
    exact ⟨h2.1.trans h.1, h2.2.trans h.2⟩
theorem zR_no {R : RG} (h : R.ko = false) : zR R = 0 := by unfold zR; rw [h]; simp
/-! ### The law of a single fault in the master, plain -/
theorem f10_plain {μ ν : Nat} {Rf Rr : RG} (hf : PI μ Rf) (hr : PI ν Rr) (sc : Sc Rf Rr) (hrun : Rf.run = true) (hd : Rf.hd = true) (hk : Rr.ko = false) (hs : sndM Rf.img Rf.desc) (sf : Rf.DM.st ≠ 1) (sr : Rr.DM.st ≠ 1) :
    ∃ l, Rr.uD.log = Rf.uD.log ++ l ∧ ((Rf.DM.st = 3 ∨ Rf.DM.st = 5) ∨ (Rf.DM.st = Rr.DM.st ∧ l = [])) := by
  obtain ⟨a, ha⟩ := (hf.go hrun hd fun _ _ => hs).out sf
  have hz := zR_no hk
  obtain ⟨b, hb⟩ := (hr.go (sc.run ▸ hrun) (sc.hd ▸ hd) fun q => by rw [hz] at q; exact absurd q (by decide)).out sr
  rw [← sc.img, ← sc.desc] at hb
  rcases hb with ⟨b1, b2, b3⟩ | ⟨_, q, _⟩
  case inr => rw [hz] at q; exact absurd q (by decide)
  have hbs : (asN (as0 Rf.img Rf.desc) b).D.st ≠ 1 := by rw [← b1]; exact sr
  rcases ha with ⟨a1, a2, a3⟩ | ⟨a1, _, _, a3⟩
  · have has : (asN (as0 Rf.img Rf.desc) a).D.st ≠ 1 := by rw [← a1]; exact sf
    have e := asN_same has hbs
    refine ⟨[], by rw [b3, a3, e]; simp, .inr ⟨by rw [a1, b1, e], rfl⟩⟩
  · obtain ⟨l, hl⟩ := asN_pre (A := as0 Rf.img Rf.desc) (a := a) hbs
    exact ⟨l, by rw [b3, a3, hl], .inl a1⟩
end Go.Proofs.Qxb6500749a
