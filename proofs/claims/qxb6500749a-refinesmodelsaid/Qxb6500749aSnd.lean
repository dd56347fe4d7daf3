import Derived.Test.Qxb6500749aPai
namespace Go.Proofs.Qxb6500749a
open Go.RowKit
/-! ### Sites that no fault names -/
def Snd (fs : List FD) (s : Nat) : Prop := ∀ f ∈ fs, f.site ≠ (s : Nat)
theorem act_snd {f : FD} {s : Nat} (h : f.site ≠ (s : Nat)) (now : Int) : actF now s f = false := by
  unfold actF
  have : (f.site == ((s : Nat) : Int)) = false := by simpa using h
  rw [this]; rfl
theorem wireF_snd {fs : List FD} {s : Nat} (h : Snd fs s) (now : Int) : ∀ v, wireF now s fs v = v := by
  unfold wireF
  induction fs with
  | nil => intro v; rfl
  | cons f fs ih =>
    intro v
    rw [List.foldl_cons, act_snd (h f (by simp)) now, if_neg (by decide)]
    exact ih (fun g hg => h g (List.mem_cons_of_mem _ hg)) v
theorem dropF_snd {fs : List FD} {s : Nat} (h : Snd fs s) (now : Int) : ∀ v, dropF now s fs v = v := by
  unfold dropF
  induction fs with
  | nil => intro v; rfl
  | cons f fs ih =>
    intro v
    rw [List.foldl_cons, act_snd (h f (by simp)) now, if_neg (by simp)]
    exact ih (fun g hg => h g (List.mem_cons_of_mem _ hg)) v
theorem keepF_snd {fs : List FD} {s : Nat} (h : Snd fs s) (now c0 : Int) : ∀ v, keepF now s c0 fs v = v := by
  unfold keepF
  induction fs with
  | nil => intro v; rfl
  | cons f fs ih =>
    intro v
    rw [List.foldl_cons, act_snd (h f (by simp)) now, if_neg (by simp)]
    exact ih (fun g hg => h g (List.mem_cons_of_mem _ hg)) v
theorem get_snd {B : BD} {s : Nat} (h : Snd B.fs s) : B.get s = B.c s := wireF_snd h _ _
theorem pass_snd {B : BD} {s : Nat} (h : Snd B.fs s) (v : Int) : B.pass s v = v := by unfold BD.pass; rw [dropF_snd h, wireF_snd h]
theorem set_snd {B : BD} {s : Nat} (h : Snd B.fs s) (v : Int) : (B.set s v).c = upd B.c s v := by
  show upd B.c s (keepF B.now s (B.c s) B.fs v) = _
  rw [keepF_snd h]
theorem set_c_ne (B : BD) (s j : Nat) (v : Int) (h : j ≠ s) : (B.set s v).c j = B.c j := upd_ne _ _ _ _ h
theorem set_c_same {B : BD} {s : Nat} (h : Snd B.fs s) (v : Int) : (B.set s v).c s = v := by rw [set_snd h, upd_same]
theorem cmpF_snd {B : BD} {s : Nat} (h : Snd B.fs s) (a b : BU) : cmpF B s a b = neB a b := by
  unfold cmpF
  rw [pass_snd h]
  cases neB a b
  · rfl
  · rfl
theorem neB_false {a b : BU} (h : neB a b = false) : a = b := by
  unfold neB at h
  simp only [Bool.or_eq_false_iff, bne_eq_false_iff_eq] at h
  obtain ⟨⟨h1, h2⟩, h3⟩ := h
  cases a; cases b
  simp_all
theorem neB_self (a : BU) : neB a a = false := by unfold neB; simp
/-! ### A copy whose cells no fault names plays as a plain machine -/
structure Sim (base : Nat) (B B0 : BD) : Prop where
  no : B0.fs = []
  snd : ∀ k, k < 18 → Snd B.fs (base + k)
  c : ∀ k, k < 18 → B.c (base + k) = B0.c k
theorem snd_nil (s : Nat) : Snd [] s := fun f hf => absurd hf (by simp)
theorem Sim.get {base : Nat} {B B0 : BD} (h : Sim base B B0) (k : Nat) (hk : k < 18) : B.get (base + k) = B0.get (0 + k) := by
  rw [get_snd (h.snd k hk), get_snd (by rw [h.no]; exact snd_nil _), h.c k hk, Nat.zero_add]
theorem Sim.set {base : Nat} {B B0 : BD} (h : Sim base B B0) (k : Nat) (hk : k < 18) (v : Int) : Sim base (B.set (base + k) v) (B0.set (0 + k) v) := by
  refine ⟨h.no, h.snd, fun j hj => ?_⟩
  rw [set_snd (h.snd k hk), set_snd (by rw [h.no]; exact snd_nil _), Nat.zero_add]
  by_cases e : j = k
  · rw [e, upd_same, upd_same]
  · rw [upd_ne _ _ _ _ (by omega), upd_ne _ _ _ _ e, h.c j hj]
structure Rl (base : Nat) (B : BD) (x y : BD × BU) : Prop where
  s : Sim base x.1 y.1
  o : x.2 = y.2
  k : ∀ j, (j < base ∨ base + 18 ≤ j) → x.1.c j = B.c j
theorem rl_ite {base : Nat} {B : BD} {c : Prop} [Decidable c] {x y x' y' : BD × BU} (h1 : Rl base B x x') (h2 : Rl base B y y') : Rl base B (if c then x else y) (if c then x' else y') := by
  split
  · exact h1
  · exact h2
theorem Rl.st {base : Nat} {B B1 B0 : BD} (h : Sim base B1 B0) (hk : ∀ j, (j < base ∨ base + 18 ≤ j) → B1.c j = B.c j) (o : BU) : Rl base B (B1, o) (B0, o) := ⟨h, rfl, hk⟩
theorem out_set {base : Nat} {B B1 : BD} (hk : ∀ j, (j < base ∨ base + 18 ≤ j) → B1.c j = B.c j) (k : Nat) (h : k < 18) (v : Int) : ∀ j, (j < base ∨ base + 18 ≤ j) → (B1.set (base + k) v).c j = B.c j := fun j hj => by
  rw [set_c_ne _ _ _ _ (by omega)]; exact hk j hj
theorem sim_execI {base : Nat} {B B0 : BD} (h : Sim base B B0) (pc : Int) (i : IN) (hd : i.rd < 16) (ha : i.ra < 16) (hb : i.rb < 16) : Rl base B (execI base pc i B) (execI 0 pc i B0) := by
  have r : ∀ j, (j < base ∨ base + 18 ≤ j) → B.c j = B.c j := fun _ _ => rfl
  have gd := h.get i.rd (by omega)
  have ga := h.get i.ra (by omega)
  have gb := h.get i.rb (by omega)
  unfold execI finF
  rw [gd, ga, gb]
  have f1 := fun (v x : Int) (o : BU) => Rl.st ((h.set i.rd (by omega) v).set 16 (by omega) x) (out_set (out_set r i.rd (by omega) v) 16 (by omega) x) o
  have f0 := fun (x : Int) (o : BU) => Rl.st (h.set 16 (by omega) x) (out_set r 16 (by omega) x) o
  have f7 := fun (x : Int) (o : BU) => Rl.st (h.set 17 (by omega) x) (out_set r 17 (by omega) x) o
  have f76 := fun (v x : Int) (o : BU) => Rl.st ((h.set 17 (by omega) v).set 16 (by omega) x) (out_set (out_set r 17 (by omega) v) 16 (by omega) x) o
  exact rl_ite (f0 _ _) (rl_ite (f7 _ _) (rl_ite (f1 _ _ _) (rl_ite (f1 _ _ _) (rl_ite (f1 _ _ _) (rl_ite (f1 _ _ _) (rl_ite (f1 _ _ _) (rl_ite (f76 _ _ _) (rl_ite (f76 _ _ _) (rl_ite (f0 _ _) (rl_ite (f1 _ _ _) (rl_ite (f0 _ _) (rl_ite (f1 _ _ _) (f7 _ _)))))))))))))
theorem dec_lt (x : Int) : (decF x).rd < 16 ∧ (decF x).ra < 16 ∧ (decF x).rb < 16 := by
  refine ⟨?_, ?_, ?_⟩
  · show (x / 1048576 % 16).toNat < 16; omega
  · show (x / 65536 % 16).toNat < 16; omega
  · show (x / 4096 % 16).toNat < 16; omega
theorem sim_core {base : Nat} {B B0 : BD} (h : Sim base B B0) (prog : List Int) (i : INP) : Rl base B (coreF prog base i B) (coreF prog 0 i B0) := by
  have r : ∀ j, (j < base ∨ base + 18 ≤ j) → B.c j = B.c j := fun _ _ => rfl
  have g7 := h.get 17 (by decide)
  unfold coreF
  rw [g7]
  refine rl_ite (Rl.st h r _) (rl_ite (Rl.st h r _) (rl_ite ?_ ?_))
  · unfold awaitF
    have hm : (B0.get (0 + 17) / 16 % 16).toNat < 18 := by omega
    exact rl_ite (Rl.st h r _) (rl_ite (Rl.st (h.set 17 (by decide) _) (out_set r 17 (by decide) _) _) (rl_ite (Rl.st ((h.set _ hm _).set 17 (by decide) _) (out_set (out_set r _ hm _) 17 (by decide) _) _) (Rl.st (h.set 17 (by decide) _) (out_set r 17 (by decide) _) _)))
  · unfold execF
    rw [h.get 16 (by decide)]
    have := dec_lt (fetF prog (B0.get (0 + 16)))
    exact sim_execI h _ _ this.1 this.2.1 this.2.2
/-- Two plain machines that agree on their cells. -/
theorem Sim.trans0 {base : Nat} {B B0 B1 : BD} (h : Sim base B B0) (hn : B1.fs = []) (hc : ∀ k, k < 18 → B0.c k = B1.c k) : Sim base B B1 := ⟨hn, h.snd, fun k hk => (h.c k hk).trans (hc k hk)⟩
/-! ### What a copy drives -/
def ctrlOk (c : Int) : Prop := c = 0 ∨ c = 1 ∨ c = 3 ∨ c = 4 ∨ c = 8
theorem ctrl_ite {c : Prop} [Decidable c] {x y : BD × BU} (hx : ctrlOk x.2.c) (hy : ctrlOk y.2.c) : ctrlOk (if c then x else y).2.c := by split <;> assumption
theorem ctrl_core (prog : List Int) (base : Nat) (i : INP) (B : BD) : ctrlOk (coreF prog base i B).2.c := by
  have z0 : ctrlOk 0 := .inl rfl
  have z1 : ctrlOk 1 := .inr (.inl rfl)
  have z3 : ctrlOk 3 := .inr (.inr (.inl rfl))
  have z4 : ctrlOk 4 := .inr (.inr (.inr (.inl rfl)))
  have z8 : ctrlOk 8 := .inr (.inr (.inr (.inr rfl)))
  unfold coreF
  refine ctrl_ite z4 (ctrl_ite z8 (ctrl_ite ?_ ?_))
  · unfold awaitF
    exact ctrl_ite z0 (ctrl_ite z8 (ctrl_ite z0 z0))
  · unfold execF execI finF
    repeat' apply ctrl_ite
    all_goals first | exact z0 | exact z1 | exact z3 | exact z4 | exact z8
theorem ctrl_mask {c : Int} (h : ctrlOk c) : andB c 15 = c := by
  rcases h with rfl | rfl | rfl | rfl | rfl <;> rfl
theorem in_flags (v e : Bool) (d : Int) : (andB (inFl ⟨v, e, d⟩) 1 != 0) = v ∧ (andB (inFl ⟨v, e, d⟩) 2 != 0) = e := by
  cases v <;> cases e <;> exact ⟨by kernel_rfl, by kernel_rfl⟩
end Go.Proofs.Qxb6500749a
