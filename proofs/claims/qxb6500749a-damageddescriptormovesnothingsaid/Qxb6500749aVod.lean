import Derived.Test.Qxb6500749aLks
import Derived.Test.Qxb6500749aPly
namespace Go.Proofs.Qxb6500749a
open Go.RowKit
/-! ### Faults that name nothing -/
def VoidF (f : FD) : Prop := ∀ (now : Int) (s : Nat), s < 55 → actF now s f = false
theorem void_site (f : FD) (h : f.site ≥ 55) : VoidF f := fun now s hs => act_snd (by omega) now
theorem void_bit (f : FD) (h : 32 ≤ f.bit) : VoidF f := fun now s _ => by
  unfold actF
  rw [decide_eq_false (by omega : ¬ f.bit < 32)]
  simp
theorem void_dur (f : FD) (h : f.dur = 0) : VoidF f := fun now s _ => by
  unfold actF
  rw [h]
  by_cases hc : f.cyc ≤ now
  · rw [decide_eq_false (by omega : ¬ now - f.cyc < 0)]
    simp
  · rw [decide_eq_false hc]
    simp
structure BV (B B' : BD) : Prop where
  c : B.c = B'.c
  now : B.now = B'.now
  v : ∀ f ∈ B.fs, VoidF f
  no : B'.fs = []
theorem void_wire {fs : List FD} (h : ∀ f ∈ fs, VoidF f) (now : Int) (s : Nat) (hs : s < 55) : ∀ v, wireF now s fs v = v := by
  unfold wireF
  induction fs with
  | nil => intro v; rfl
  | cons f fs ih =>
    intro v
    rw [List.foldl_cons, h f (by simp) now s hs, if_neg (by decide)]
    exact ih (fun g hg => h g (List.mem_cons_of_mem _ hg)) v
theorem void_drop {fs : List FD} (h : ∀ f ∈ fs, VoidF f) (now : Int) (s : Nat) (hs : s < 55) : ∀ v, dropF now s fs v = v := by
  unfold dropF
  induction fs with
  | nil => intro v; rfl
  | cons f fs ih =>
    intro v
    rw [List.foldl_cons, h f (by simp) now s hs, if_neg (by simp)]
    exact ih (fun g hg => h g (List.mem_cons_of_mem _ hg)) v
theorem void_keep {fs : List FD} (h : ∀ f ∈ fs, VoidF f) (now : Int) (s : Nat) (hs : s < 55) (c0 : Int) : ∀ v, keepF now s c0 fs v = v := by
  unfold keepF
  induction fs with
  | nil => intro v; rfl
  | cons f fs ih =>
    intro v
    rw [List.foldl_cons, h f (by simp) now s hs, if_neg (by simp)]
    exact ih (fun g hg => h g (List.mem_cons_of_mem _ hg)) v
section
variable {B B' : BD}
theorem BV.get (h : BV B B') (s : Nat) (hs : s < 55) : B.get s = B'.get s := by
  unfold BD.get
  rw [void_wire h.v _ s hs, h.no, h.c]
  rfl
theorem BV.pass (h : BV B B') (s : Nat) (hs : s < 55) (v : Int) : B.pass s v = B'.pass s v := by
  unfold BD.pass
  rw [void_wire h.v _ s hs, void_drop h.v _ s hs, h.no]
  rfl
theorem BV.set (h : BV B B') (s : Nat) (hs : s < 55) (v : Int) : BV (B.set s v) (B'.set s v) := by
  refine ⟨?_, h.now, h.v, h.no⟩
  show upd B.c s (keepF B.now s (B.c s) B.fs v) = upd B'.c s (keepF B'.now s (B'.c s) B'.fs v)
  rw [void_keep h.v _ s hs, h.no, h.c]
  rfl
end
structure RV (x y : BD × BU) : Prop where
  b : BV x.1 y.1
  o : x.2 = y.2
theorem rv_ite {c : Prop} [Decidable c] {x y x' y' : BD × BU} (h1 : RV x x') (h2 : RV y y') : RV (if c then x else y) (if c then x' else y') := by
  split
  · exact h1
  · exact h2
theorem rv_execI {B B' : BD} (h : BV B B') (base : Nat) (hb : base ≤ 18) (pc : Int) (i : IN) (hd : i.rd < 16) (ha : i.ra < 16) (hrb : i.rb < 16) : RV (execI base pc i B) (execI base pc i B') := by
  have gd := h.get (base + i.rd) (by omega)
  have ga := h.get (base + i.ra) (by omega)
  have gb := h.get (base + i.rb) (by omega)
  unfold execI finF
  rw [gd, ga, gb]
  have f1 := fun (v x : Int) (o : BU) => (⟨(h.set (base + i.rd) (by omega) v).set (base + 16) (by omega) x, rfl⟩ : RV ((B.set (base + i.rd) v).set (base + 16) x, o) ((B'.set (base + i.rd) v).set (base + 16) x, o))
  have f0 := fun (x : Int) (o : BU) => (⟨h.set (base + 16) (by omega) x, rfl⟩ : RV (B.set (base + 16) x, o) (B'.set (base + 16) x, o))
  have f7 := fun (x : Int) (o : BU) => (⟨h.set (base + 17) (by omega) x, rfl⟩ : RV (B.set (base + 17) x, o) (B'.set (base + 17) x, o))
  have f76 := fun (v x : Int) (o : BU) => (⟨(h.set (base + 17) (by omega) v).set (base + 16) (by omega) x, rfl⟩ : RV ((B.set (base + 17) v).set (base + 16) x, o) ((B'.set (base + 17) v).set (base + 16) x, o))
  exact rv_ite (f0 _ _) (rv_ite (f7 _ _) (rv_ite (f1 _ _ _) (rv_ite (f1 _ _ _) (rv_ite (f1 _ _ _) (rv_ite (f1 _ _ _) (rv_ite (f1 _ _ _) (rv_ite (f76 _ _ _) (rv_ite (f76 _ _ _) (rv_ite (f0 _ _) (rv_ite (f1 _ _ _) (rv_ite (f0 _ _) (rv_ite (f1 _ _ _) (f7 _ _)))))))))))))
theorem rv_core {B B' : BD} (h : BV B B') (prog : List Int) (base : Nat) (hb : base ≤ 18) (i : INP) : RV (coreF prog base i B) (coreF prog base i B') := by
  have g7 := h.get (base + 17) (by omega)
  have s7 := fun (x : Int) (o : BU) => (⟨h.set (base + 17) (by omega) x, rfl⟩ : RV (B.set (base + 17) x, o) (B'.set (base + 17) x, o))
  unfold coreF
  rw [g7]
  refine rv_ite ⟨h, rfl⟩ (rv_ite ⟨h, rfl⟩ (rv_ite ?_ ?_))
  · unfold awaitF
    have hm : base + (B'.get (base + 17) / 16 % 16).toNat < 55 := by omega
    exact rv_ite ⟨h, rfl⟩ (rv_ite (s7 _ _) (rv_ite ⟨(h.set _ hm _).set _ (by omega) _, rfl⟩ (s7 _ _)))
  · unfold execF
    rw [h.get (base + 16) (by omega)]
    have := dec_lt (fetF prog (B'.get (base + 16)))
    exact rv_execI h base hb _ _ this.1 this.2.1 this.2.2
theorem rv_sha {B B' : BD} (h : BV B B') (prog : List Int) : RV (shaF prog B) (shaF prog B') := by
  unfold shaF shaI
  rw [h.now, h.get 38 (by omega), h.get 39 (by omega)]
  exact rv_ite (rv_core h prog 18 (by decide) _) ⟨h, rfl⟩
theorem bv_del {B B' : BD} (h : BV B B') : delF B = delF B' := by
  unfold delF
  rw [h.get 43 (by omega), h.get 44 (by omega), h.get 45 (by omega)]
theorem bv_cmp {B B' : BD} (h : BV B B') (s : Nat) (hs : s < 55) (a b : BU) : cmpF B s a b = cmpF B' s a b := by
  unfold cmpF
  rw [h.pass s hs]
theorem bv_al {B B' : BD} (h : BV B B') (sha : BU) : alF B sha = alF B' sha := by
  unfold alF
  rw [bv_del h, bv_cmp h 46 (by omega), bv_cmp h 47 (by omega), h.get 48 (by omega)]
theorem bv_go {B B' : BD} (h : BV B B') (sha : BU) : goF B sha = goF B' sha := by
  unfold goF
  rw [bv_del h, bv_al h]
theorem bv_edg {B B' : BD} (h : BV B B') (al : Bool) (raw : BU) (i : INP) : BV (edgF B al raw i) (edgF B' al raw i) := by
  unfold edgF shiI shiO
  have a0 := h.set 48 (by omega) (flagI al)
  generalize B.set 48 (flagI al) = C at *
  generalize B'.set 48 (flagI al) = C' at *
  have a1 := a0.set 43 (by omega) (C'.get 40)
  rw [a0.get 40 (by omega)]
  generalize C.set 43 (C'.get 40) = D at *
  generalize C'.set 43 (C'.get 40) = D' at *
  have a2 := a1.set 44 (by omega) (D'.get 41)
  rw [a1.get 41 (by omega)]
  generalize D.set 44 (D'.get 41) = E at *
  generalize D'.set 44 (D'.get 41) = E' at *
  have a3 := (((a2.set 45 (by omega) (E'.get 42)).set 40 (by omega) raw.c).set 41 (by omega) raw.a).set 42 (by omega) raw.d
  rw [a2.get 42 (by omega)]
  generalize (((E.set 45 (E'.get 42)).set 40 raw.c).set 41 raw.a).set 42 raw.d = F at *
  generalize (((E'.set 45 (E'.get 42)).set 40 raw.c).set 41 raw.a).set 42 raw.d = F' at *
  have a4 := a3.set 38 (by omega) (F'.get 36)
  rw [a3.get 36 (by omega)]
  generalize F.set 38 (F'.get 36) = G at *
  generalize F'.set 38 (F'.get 36) = G' at *
  rw [a4.get 37 (by omega)]
  exact ((a4.set 39 (by omega) (G'.get 37)).set 36 (by omega) (inFl i)).set 37 (by omega) i.d
theorem bv_next {B B' : BD} (h : BV B B') : BV (nextB B) (nextB B') := ⟨h.c, by show B.now + 1 = B'.now + 1; rw [h.now], h.v, h.no⟩
theorem bv_pair {B B' : BD} (h : BV B B') (prog : List Int) (U : BusD) : BV (pairF prog B U).B (pairF prog B' U).B ∧ (pairF prog B U).U = (pairF prog B' U).U ∧ (pairF prog B U).r = (pairF prog B' U).r := by
  unfold pairF
  simp only []
  generalize tickF U = T
  have hc := rv_core h prog 0 (by decide) T.2
  generalize coreF prog 0 T.2 B = M at *
  generalize coreF prog 0 T.2 B' = M' at *
  obtain ⟨M1, raw⟩ := M
  obtain ⟨M1', raw'⟩ := M'
  have hb := hc.b
  have ho := hc.o
  simp only [] at hb ho
  subst ho
  have hs := rv_sha hb prog
  simp only []
  generalize shaF prog M1 = S at *
  generalize shaF prog M1' = S' at *
  obtain ⟨S1, sha⟩ := S
  obtain ⟨S1', sha'⟩ := S'
  have hsb := hs.b
  have hso := hs.o
  simp only [] at hsb hso
  subst hso
  simp only []
  rw [bv_al hsb, bv_go hsb, bv_del hsb, bv_cmp hsb 46 (by omega), bv_cmp hsb 47 (by omega)]
  exact ⟨bv_next (bv_edg hsb _ _ _), rfl, rfl⟩
theorem bv_abs {B B' : BD} (h : BV B B') (D : DD) (hf : D.fet ≤ 4) (x : Int) : BV (absB D B x) (absB D B' x) := by
  unfold absB
  split
  · exact h.set _ (by omega) _
  · split
    · exact h
    · rw [h.get 53 (by omega)]
      have a := h.set 53 (by omega) ((B'.get 53 + 1) % 4294967296)
      generalize B.set 53 ((B'.get 53 + 1) % 4294967296) = C at *
      generalize B'.set 53 ((B'.get 53 + 1) % 4294967296) = C' at *
      rw [a.get 54 (by omega)]
      exact a.set 54 (by omega) _
theorem bv_nex {B B' : BD} (h : BV B B') (D : DD) : nexF D B = nexF D B' := by
  unfold nexF badF
  rw [h.get 49 (by omega), h.get 50 (by omega), h.get 51 (by omega), h.get 52 (by omega), h.get 53 (by omega), h.get 54 (by omega)]
theorem bv_dma {B B' : BD} (h : BV B B') (D : DD) (hD : D.Ok) (U : BusD) : BV (dmaF D B U).B (dmaF D B' U).B ∧ (dmaF D B U).U = (dmaF D B' U).U ∧ (dmaF D B U).D = (dmaF D B' U).D := by
  unfold dmaF
  simp only []
  generalize tickF U = T
  have hb : BV (if takes D T.2 = true then takB D B T.2 else B) (if takes D T.2 = true then takB D B' T.2 else B') := by
    split
    · unfold takB
      split
      · exact h
      · exact bv_abs h D hD.fet _
    · exact h
  generalize (if takes D T.2 = true then takB D B T.2 else B) = C at *
  generalize (if takes D T.2 = true then takB D B' T.2 else B') = C' at *
  generalize (if takes D T.2 = true then takD D T.2 else D) = D1
  rw [gosF_keep, gosF_keep]
  refine ⟨bv_next hb, ?_, ?_⟩
  · unfold gosF; rw [bv_nex hb]; repeat' split
    all_goals rfl
  · unfold gosF; rw [bv_nex hb]; repeat' split
    all_goals rfl
/-! ### A play whose faults name nothing beside the play without -/
structure V7 (Rf Rr : RG) : Prop where
  prog : Rf.prog = Rr.prog
  img : Rf.img = Rr.img
  uP : Rf.uP = Rr.uP
  uD : Rf.uD = Rr.uD
  hd : Rf.hd = Rr.hd
  desc : Rf.desc = Rr.desc
  run : Rf.run = Rr.run
  reps : Rf.reps = Rr.reps
  kr : Rr.kc = false ∧ Rr.ko = false
  vc : Rf.hc = true → VoidF Rf.fc
  vo : Rf.ho = true → VoidF Rf.fo
  ok : ROk Rr
  rn : Rf.run = true → BV Rf.BP Rr.BP ∧ BV Rf.BM Rr.BM ∧ Rf.DM = Rr.DM
theorem V7.str {Rf Rr : RG} (h : V7 Rf Rr) (hr : Rf.run = false) : V7 (strR Rf) (strR Rr) := by
  have hfr : fsR Rr = [] := by unfold fsR fsC fsO; rw [h.kr.1, h.kr.2]; simp
  have hv : ∀ f ∈ fsR Rf, VoidF f := fun f hf => by
    unfold fsR fsC fsO at hf
    rcases List.mem_append.1 hf with q | q
    · split at q
      · rename_i z; simp at q z; rw [q]; exact h.vc z.1
      · simp at q
    · split at q
      · rename_i z; simp at q z; rw [q]; exact h.vo z.1
      · simp at q
  have hb : BV (bd0 (fsR Rf)) (bd0 (fsR Rr)) := by rw [hfr]; exact ⟨rfl, rfl, hv, rfl⟩
  refine ⟨h.prog, h.img, h.uP, h.uD, h.hd, h.desc, rfl, h.reps, h.kr, h.vc, h.vo, h.ok.str (by rw [← h.run]; exact hr), fun _ => ⟨hb, ?_, ?_⟩⟩
  · show BV (if Rf.hd = true then idxF (bd0 (fsR Rf)) 0 else bd0 (fsR Rf)) (if Rr.hd = true then idxF (bd0 (fsR Rr)) 0 else bd0 (fsR Rr))
    rw [h.hd]
    split
    · exact (hb.set 53 (by omega) 0).set 54 (by omega) 0
    · exact hb
  · show (if Rf.hd = true then strD dd0 Rf.desc else dd0) = (if Rr.hd = true then strD dd0 Rr.desc else dd0)
    rw [h.hd, h.desc]
theorem V7.cyc {Rf Rr : RG} (h : V7 Rf Rr) : V7 (cycR Rf) (cycR Rr) := by
  have hok := h.ok.cyc
  have hQ : V7 (if Rf.run = true then Rf else strR Rf) (if Rr.run = true then Rr else strR Rr) ∧ (if Rf.run = true then Rf else strR Rf).run = true := by
    rw [← h.run]
    by_cases hr : Rf.run = true
    · rw [if_pos hr, if_pos hr]; exact ⟨h, hr⟩
    · rw [if_neg hr, if_neg hr]; exact ⟨h.str (by simpa using hr), rfl⟩
  unfold cycR at hok ⊢
  generalize (if Rf.run = true then Rf else strR Rf) = Qf at *
  generalize (if Rr.run = true then Rr else strR Rr) = Qr at *
  obtain ⟨q, hr⟩ := hQ
  have hrn := q.rn hr
  have hp := bv_pair hrn.1 Qr.prog Qr.uP
  have hd := bv_dma hrn.2.1 Qr.DM (q.ok.DM (by rw [← q.run]; exact hr)) Qr.uD
  refine ⟨q.prog, q.img, ?_, ?_, q.hd, q.desc, q.run, ?_, q.kr, q.vc, q.vo, hok, fun _ => ⟨?_, ?_, ?_⟩⟩
  · show (pairF Qf.prog Qf.BP Qf.uP).U = (pairF Qr.prog Qr.BP Qr.uP).U
    rw [q.prog, q.uP]; exact hp.2.1
  · show (dmaF Qf.DM Qf.BM Qf.uD).U = (dmaF Qr.DM Qr.BM Qr.uD).U
    rw [hrn.2.2, q.uD]; exact hd.2.1
  · show Qf.reps ++ [(pairF Qf.prog Qf.BP Qf.uP).r] = Qr.reps ++ [(pairF Qr.prog Qr.BP Qr.uP).r]
    rw [q.prog, q.uP, q.reps, hp.2.2]
  · show BV (pairF Qf.prog Qf.BP Qf.uP).B (pairF Qr.prog Qr.BP Qr.uP).B
    rw [q.prog, q.uP]; exact hp.1
  · show BV (dmaF Qf.DM Qf.BM Qf.uD).B (dmaF Qr.DM Qr.BM Qr.uD).B
    rw [hrn.2.2, q.uD]; exact hd.1
  · show (dmaF Qf.DM Qf.BM Qf.uD).D = (dmaF Qr.DM Qr.BM Qr.uD).D
    rw [hrn.2.2, q.uD]; exact hd.2.2
theorem V7.cycN : ∀ (n : Nat) {Rf Rr : RG}, V7 Rf Rr → V7 (cycN n Rf) (Go.Proofs.Qxb6500749a.cycN n Rr)
  | 0, _, _, h => h
  | n + 1, _, _, h => V7.cycN n h.cyc
theorem V7.pok {Rf Rr : RG} (h : V7 Rf Rr) (a d : Int) (hd : W32 d) : V7 (pokR Rf a d) (pokR Rr a d) :=
  ⟨h.prog, by show (fun x => if x = a then d else Rf.img x) = _; rw [h.img]; rfl, by show pokF Rf.uP a d = pokF Rr.uP a d; rw [h.uP], by show pokF Rf.uD a d = pokF Rr.uD a d; rw [h.uD], h.hd, h.desc, h.run, h.reps, h.kr, h.vc, h.vo, h.ok.poke a d hd, h.rn⟩
/-- A script's step and the same step with its fault voided. -/
structure Vop (o o' : OpD) : Prop where
  k : o'.k = o.k
  same : o.k ≠ 2 → o' = o
  void : o.k = 2 → VoidF (fdO o')
theorem V7.stp {Rf Rr : RG} (h : V7 Rf Rr) (o o' : OpD) (ho : o.Ok) (hv : Vop o o') : V7 (stpR Rf o') (stpR Rr o) := by
  have hok := (h.ok.stp o ho).1
  by_cases k2 : o.k = 2
  · have h2 := hv.void k2
    have hr2 : V7 (stpR Rf o') Rr := by
      unfold stpR
      rw [hv.k, if_neg (by omega), if_neg (by omega), if_pos k2]
      split
      · exact h
      · rename_i q
        have hr : Rf.run = false := by
          cases z : Rf.run
          · rfl
          · exact absurd (.inl z) q
        split
        · exact ⟨h.prog, h.img, h.uP, h.uD, h.hd, h.desc, h.run, h.reps, h.kr, fun _ => h2, h.vo, h.ok, fun q => absurd (hr.symm.trans (show Rf.run = true from q)) (by decide)⟩
        · split
          · exact ⟨h.prog, h.img, h.uP, h.uD, h.hd, h.desc, h.run, h.reps, h.kr, h.vc, fun _ => h2, h.ok, fun q => absurd (hr.symm.trans (show Rf.run = true from q)) (by decide)⟩
          · exact h
    have key : ∀ X, V7 X Rr → V7 X (stpR Rr o) := fun X hX => by
      revert hok
      unfold stpR
      rw [if_neg (by omega), if_neg (by omega), if_pos k2]
      intro hok
      have z : ∀ Y : RG, Y.prog = Rr.prog ∧ Y.img = Rr.img ∧ Y.uP = Rr.uP ∧ Y.uD = Rr.uD ∧ Y.hd = Rr.hd ∧ Y.desc = Rr.desc ∧ Y.run = Rr.run ∧ Y.reps = Rr.reps ∧ Y.kc = Rr.kc ∧ Y.ko = Rr.ko ∧ Y.BP = Rr.BP ∧ Y.BM = Rr.BM ∧ Y.DM = Rr.DM → ROk Y → V7 X Y := fun Y e hY =>
        ⟨hX.prog.trans e.1.symm, hX.img.trans e.2.1.symm, hX.uP.trans e.2.2.1.symm, hX.uD.trans e.2.2.2.1.symm, hX.hd.trans e.2.2.2.2.1.symm, hX.desc.trans e.2.2.2.2.2.1.symm, hX.run.trans e.2.2.2.2.2.2.1.symm, hX.reps.trans e.2.2.2.2.2.2.2.1.symm, ⟨e.2.2.2.2.2.2.2.2.1.trans hX.kr.1, e.2.2.2.2.2.2.2.2.2.1.trans hX.kr.2⟩, hX.vc, hX.vo, hY, fun q => by
          have h9 := hX.rn q
          rw [e.2.2.2.2.2.2.2.2.2.2.1, e.2.2.2.2.2.2.2.2.2.2.2.1, e.2.2.2.2.2.2.2.2.2.2.2.2]
          exact h9⟩
      apply z _ _ hok
      repeat' split
      all_goals exact ⟨rfl, rfl, rfl, rfl, rfl, rfl, rfl, rfl, rfl, rfl, rfl, rfl, rfl⟩
    exact key _ hr2
  · rw [hv.same k2]
    have hrel : ∀ {c : Prop} [Decidable c] {a b a' b' : RG}, (c → V7 a a') → (¬ c → V7 b b') → V7 (if c then a else b) (if c then a' else b') := by
      intro c _ a b a' b' h1 h2
      split
      · rename_i q; exact h1 q
      · rename_i q; exact h2 q
    revert hok
    unfold stpR
    rw [if_neg k2, if_neg k2, ← h.run, ← h.prog]
    by_cases k0 : o.k = 0
    · rw [if_pos k0, if_pos k0]
      by_cases c : Rf.run = true ∨ Rf.prog.length = 64
      · rw [if_pos c, if_pos c]; intro _; exact h
      · rw [if_neg c, if_neg c]; intro hok
        exact ⟨by first | rfl | (show Rf.prog ++ [o.a] = Rr.prog ++ [o.a]; rw [h.prog]), h.img, h.uP, h.uD, h.hd, h.desc, by first | rfl | exact h.run, h.reps, h.kr, h.vc, h.vo, hok, h.rn⟩
    rw [if_neg k0, if_neg k0]
    by_cases k1 : o.k = 1
    · rw [if_pos k1, if_pos k1]
      intro _
      exact hrel (fun _ => h) (fun _ => h.pok _ _ ho.b)
    rw [if_neg k1, if_neg k1]
    by_cases k3 : o.k = 3
    · rw [if_pos k3, if_pos k3]
      intro hok
      exact ⟨by first | rfl | exact h.prog, h.img, by show queF Rf.uP o.a = queF Rr.uP o.a; rw [h.uP], by show queF Rf.uD o.a = queF Rr.uD o.a; rw [h.uD], h.hd, h.desc, by first | rfl | exact h.run, h.reps, h.kr, h.vc, h.vo, hok, h.rn⟩
    rw [if_neg k3, if_neg k3]
    by_cases k4 : o.k = 4
    · rw [if_pos k4, if_pos k4]
      intro _
      exact hrel (fun _ => h) (fun _ => h.cycN _)
    rw [if_neg k4, if_neg k4]
    by_cases k5 : o.k = 5
    · rw [if_pos k5, if_pos k5]
      intro _
      refine hrel (fun _ => h) (fun _ => ?_)
      have h4 := (((h.pok o.a o.b ho.b).pok (o.a + 4) o.c ho.c).pok (o.a + 8) o.d ho.d).pok (o.a + 12) ((crcF o.b o.c o.d + o.e) % 4294967296) (W32.emod _)
      exact ⟨h4.prog, h4.img, h4.uP, h4.uD, rfl, rfl, h4.run, h4.reps, h4.kr, h4.vc, h4.vo, ⟨h4.ok.plen, h4.ok.pw, h4.ok.uP, h4.ok.uD, h4.ok.fc, h4.ok.fo, ho.a, h4.ok.BP, h4.ok.BM, h4.ok.DM, h4.ok.reps0⟩, h4.rn⟩
    rw [if_neg k5, if_neg k5]
    intro _
    exact h
theorem v7_play (s s' : Nat → OpD) : ∀ n, (∀ k, k < n → (s k).Ok ∧ Vop (s k) (s' k)) → V7 (plyN s' true true n) (plyN s false false n)
  | 0, _ => ⟨rfl, rfl, rfl, rfl, rfl, rfl, rfl, rfl, ⟨rfl, rfl⟩, fun q => Bool.noConfusion (show false = true from q), fun q => Bool.noConfusion (show false = true from q), rg0_ok _ _, fun q => Bool.noConfusion (show false = true from q)⟩
  | n + 1, h => (v7_play s s' n fun k hk => h k (by omega)).stp (s n) (s' n) (h n (by omega)).1 (h n (by omega)).2
end Go.Proofs.Qxb6500749a
