import Derived.Test.Qxb6500749aSnd
import Derived.Test.Qxb6500749aNwp
namespace Go.Proofs.Qxb6500749a
open Go.RowKit
/-! ### The clock edge, cell by cell -/
theorem edg_fs (B : BD) (al : Bool) (raw : BU) (i : INP) : (edgF B al raw i).fs = B.fs ∧ (edgF B al raw i).now = B.now := ⟨rfl, rfl⟩
theorem edg_low (B : BD) (al : Bool) (raw : BU) (i : INP) (j : Nat) (h : j < 36) : (edgF B al raw i).c j = B.c j := by
  unfold edgF shiI shiO
  repeat rw [set_c_ne _ _ _ _ (by omega)]
theorem edg_in {B : BD} (h : ∀ s, 36 ≤ s → s < 40 → Snd B.fs s) (al : Bool) (raw : BU) (i : INP) :
    (edgF B al raw i).c 36 = inFl i ∧ (edgF B al raw i).c 37 = i.d ∧ (edgF B al raw i).c 38 = B.c 36 ∧ (edgF B al raw i).c 39 = B.c 37 := by
  have k6 := fun n c v => keepF_snd (h 36 (by decide) (by decide)) n c v
  have k7 := fun n c v => keepF_snd (h 37 (by decide) (by decide)) n c v
  have k8 := fun n c v => keepF_snd (h 38 (by decide) (by decide)) n c v
  have k9 := fun n c v => keepF_snd (h 39 (by decide) (by decide)) n c v
  have w6 := fun n v => wireF_snd (h 36 (by decide) (by decide)) n v
  have w7 := fun n v => wireF_snd (h 37 (by decide) (by decide)) n v
  simp [edgF, shiI, shiO, BD.set, BD.get, upd, k6, k7, k8, k9, w6, w7]
theorem edg_out {B : BD} (h : ∀ s, 40 ≤ s → s < 46 → Snd B.fs s) (al : Bool) (raw : BU) (i : INP) :
    ((edgF B al raw i).c 40 = raw.c ∧ (edgF B al raw i).c 41 = raw.a ∧ (edgF B al raw i).c 42 = raw.d) ∧ ((edgF B al raw i).c 43 = B.c 40 ∧ (edgF B al raw i).c 44 = B.c 41 ∧ (edgF B al raw i).c 45 = B.c 42) := by
  have k0 := fun n c v => keepF_snd (h 40 (by decide) (by decide)) n c v
  have k1 := fun n c v => keepF_snd (h 41 (by decide) (by decide)) n c v
  have k2 := fun n c v => keepF_snd (h 42 (by decide) (by decide)) n c v
  have k3 := fun n c v => keepF_snd (h 43 (by decide) (by decide)) n c v
  have k4 := fun n c v => keepF_snd (h 44 (by decide) (by decide)) n c v
  have k5 := fun n c v => keepF_snd (h 45 (by decide) (by decide)) n c v
  have w0 := fun n v => wireF_snd (h 40 (by decide) (by decide)) n v
  have w1 := fun n v => wireF_snd (h 41 (by decide) (by decide)) n v
  have w2 := fun n v => wireF_snd (h 42 (by decide) (by decide)) n v
  simp [edgF, shiI, shiO, BD.set, BD.get, upd, k0, k1, k2, k3, k4, k5, w0, w1, w2]
theorem edg_latch {B : BD} (h : Snd B.fs 48) (al : Bool) (raw : BU) (i : INP) : (edgF B al raw i).c 48 = flagI al := by
  have k0 := fun n c v => keepF_snd h n c v
  simp [edgF, shiI, shiO, BD.set, BD.get, upd, k0]
/-! ### The sides of the pair, each as a plain machine with a memory of two cycles -/
def zB : BD := bd0 []
/-- The shadow's side: its copy and the input line hold what the inputs of the cycles past make of them. T cycles have been played; in k is the input of cycle k. -/
def runM (prog : List Int) (inp : Nat → INP) : Nat → BD
  | 0 => zB
  | t + 1 => (coreF prog 0 (inp t) (runM prog inp t)).1
def rawM (prog : List Int) (inp : Nat → INP) (t : Nat) : BU := (coreF prog 0 (inp t) (runM prog inp t)).2
theorem runM_fs (prog : List Int) (inp : Nat → INP) : ∀ t, (runM prog inp t).fs = []
  | 0 => rfl
  | t + 1 => (coreF_keep prog 0 (inp t) (runM prog inp t)).1.trans (runM_fs prog inp t)
theorem runM_congr (prog : List Int) {inp inp' : Nat → INP} : ∀ t, (∀ k, k < t → inp k = inp' k) → runM prog inp t = runM prog inp' t
  | 0, _ => rfl
  | t + 1, h => by
    show (coreF prog 0 (inp t) (runM prog inp t)).1 = _
    rw [runM_congr prog t (fun k hk => h k (by omega)), h t (by omega)]; rfl
theorem rawM_congr (prog : List Int) {inp inp' : Nat → INP} (t : Nat) (h : ∀ k, k < t + 1 → inp k = inp' k) : rawM prog inp t = rawM prog inp' t := by
  unfold rawM
  rw [runM_congr prog t (fun k hk => h k (by omega)), h t (by omega)]
/-- The main copy and the output line, sound. -/
structure Mn (prog : List Int) (inp : Nat → INP) (t : Nat) (B : BD) : Prop where
  snd : ∀ s, s < 18 ∨ (40 ≤ s ∧ s < 46) → Snd B.fs s
  m : Sim 0 B (runM prog inp t)
  o1 : B.c 40 = (if t = 0 then zBU else rawM prog inp (t - 1)).c ∧ B.c 41 = (if t = 0 then zBU else rawM prog inp (t - 1)).a ∧ B.c 42 = (if t = 0 then zBU else rawM prog inp (t - 1)).d
  o2 : B.c 43 = (if t < 2 then zBU else rawM prog inp (t - 2)).c ∧ B.c 44 = (if t < 2 then zBU else rawM prog inp (t - 2)).a ∧ B.c 45 = (if t < 2 then zBU else rawM prog inp (t - 2)).d
/-- The shadow copy and the input line, sound. -/
structure Sh (prog : List Int) (inp : Nat → INP) (t : Nat) (B : BD) : Prop where
  snd : ∀ s, 18 ≤ s → s < 40 → Snd B.fs s
  s : Sim 18 B (runM prog inp (t - 2))
  i1 : 1 ≤ t → B.c 36 = inFl (inp (t - 1)) ∧ B.c 37 = (inp (t - 1)).d
  i2 : 2 ≤ t → B.c 38 = inFl (inp (t - 2)) ∧ B.c 39 = (inp (t - 2)).d
/-- What shows past the delay line, of a sound main copy; what a sound shadow drives. -/
def dueM (prog : List Int) (inp : Nat → INP) (t : Nat) : BU := if t < 2 then zBU else rawM prog inp (t - 2)
theorem Mn.del {prog : List Int} {inp : Nat → INP} {t : Nat} {B : BD} (h : Mn prog inp t B) : delF B = dueM prog inp t := by
  unfold delF dueM
  rw [get_snd (h.snd 43 (by omega)), get_snd (h.snd 44 (by omega)), get_snd (h.snd 45 (by omega)), h.o2.1, h.o2.2.1, h.o2.2.2]
  have : ctrlOk (if t < 2 then zBU else rawM prog inp (t - 2)).c := by
    split
    · exact .inl rfl
    · exact ctrl_core _ _ _ _
  rw [ctrl_mask this]
/-- The main copy's step keeps the rest. -/
theorem main_out (prog : List Int) (base : Nat) (i : INP) (B : BD) (j : Nat) (h : j < base ∨ base + 18 ≤ j) : (coreF prog base i B).1.c j = B.c j := by
  have key : ∀ (x : BD × BU) (y : BD × BU) (c : Prop) [Decidable c], x.1.c j = B.c j → y.1.c j = B.c j → (if c then x else y).1.c j = B.c j := by
    intro x y c _ hx hy; split <;> assumption
  have s1 := fun (B1 : BD) (e : B1.c j = B.c j) (k : Nat) (hk : k < 18) (v : Int) => (set_c_ne B1 (base + k) j v (by omega)).trans e
  unfold coreF
  refine key _ _ _ rfl (key _ _ _ rfl (key _ _ _ ?_ ?_))
  · unfold awaitF
    have hm : (B.get (base + 17) / 16 % 16).toNat < 18 := by omega
    exact key _ _ _ rfl (key _ _ _ (s1 _ rfl 17 (by decide) _) (key _ _ _ (s1 _ (s1 _ rfl _ hm _) 17 (by decide) _) (s1 _ rfl 17 (by decide) _)))
  · unfold execF
    have hd := dec_lt (fetF prog (B.get (base + 16)))
    generalize decF (fetF prog (B.get (base + 16))) = I at hd
    unfold execI finF
    have f0 := fun v => s1 B rfl 16 (by decide) v
    have f7 := fun v => s1 B rfl 17 (by decide) v
    have f1 := fun v x => s1 _ (s1 B rfl I.rd (by omega) v) 16 (by decide) x
    have f76 := fun v x => s1 _ (s1 B rfl 17 (by decide) v) 16 (by decide) x
    exact key _ _ _ (f0 _) (key _ _ _ (f7 _) (key _ _ _ (f1 _ _) (key _ _ _ (f1 _ _) (key _ _ _ (f1 _ _) (key _ _ _ (f1 _ _) (key _ _ _ (f1 _ _) (key _ _ _ (f76 _ _) (key _ _ _ (f76 _ _) (key _ _ _ (f0 _) (key _ _ _ (f1 _ _) (key _ _ _ (f0 _) (key _ _ _ (f1 _ _) (f7 _)))))))))))))
theorem sha_out (prog : List Int) (B : BD) (j : Nat) (h : j < 18 ∨ 36 ≤ j) : (shaF prog B).1.c j = B.c j := by
  unfold shaF
  split
  · exact main_out prog 18 _ B j (by omega)
  · rfl
theorem Sim.keep {base : Nat} {B B' B0 : BD} (h : Sim base B B0) (hf : B'.fs = B.fs) (hc : ∀ k, k < 18 → B'.c (base + k) = B.c (base + k)) : Sim base B' B0 :=
  ⟨h.no, by rw [hf]; exact h.snd, fun k hk => (hc k hk).trans (h.c k hk)⟩
/-- A cycle of the main side. -/
theorem Mn.step {prog : List Int} {inp : Nat → INP} {t : Nat} {B B1 B2 : BD} {raw sha : BU} (h : Mn prog inp t B) (hC : coreF prog 0 (inp t) B = (B1, raw)) (hS : shaF prog B1 = (B2, sha)) (al : Bool) :
    raw = rawM prog inp t ∧ Mn prog inp (t + 1) (nextB (edgF B2 al raw (inp t))) := by
  have hr := sim_core h.m prog (inp t)
  have hk := coreF_keep prog 0 (inp t) B
  have hsk := shaF_keep prog B1
  have hco := fun j hj => main_out prog 0 (inp t) B j hj
  have hso := fun j hj => sha_out prog B1 j hj
  rw [hC] at hr hk hco
  rw [hS] at hsk hso
  simp only [] at hk hsk hco hso
  have ha : raw = rawM prog inp t := hr.o
  have hfs : B2.fs = B.fs := hsk.1.trans hk.1
  have ho := edg_out (B := B2) (fun s h1 h2 => by rw [hfs]; exact h.snd s (.inr ⟨h1, h2⟩)) al raw (inp t)
  have hlow := fun j hj => edg_low B2 al raw (inp t) j hj
  have hef := (edg_fs B2 al raw (inp t)).1
  have hrs : Sim 0 B1 (runM prog inp (t + 1)) := hr.s
  generalize edgF B2 al raw (inp t) = E at *
  refine ⟨ha, ⟨fun s hs => by rw [show (nextB E).fs = B.fs from hef.trans hfs]; exact h.snd s hs, ?_, ?_, ?_⟩⟩
  · refine hrs.keep (B' := nextB E) (hef.trans hsk.1) fun k hk' => ?_
    exact (hlow (0 + k) (by omega)).trans (hso (0 + k) (.inl (by omega)))
  · rw [if_neg (by omega), show t + 1 - 1 = t from by omega, ← ha]
    exact ho.1
  · have e0 : E.c 43 = B.c 40 := ho.2.1.trans ((hso 40 (.inr (by omega))).trans (hco 40 (.inr (by omega))))
    have e1 : E.c 44 = B.c 41 := ho.2.2.1.trans ((hso 41 (.inr (by omega))).trans (hco 41 (.inr (by omega))))
    have e2 : E.c 45 = B.c 42 := ho.2.2.2.trans ((hso 42 (.inr (by omega))).trans (hco 42 (.inr (by omega))))
    by_cases ht : t = 0
    · rw [if_pos (by omega)]
      have := h.o1
      rw [if_pos ht] at this
      exact ⟨e0.trans this.1, e1.trans this.2.1, e2.trans this.2.2⟩
    · rw [if_neg (by omega), show t + 1 - 2 = t - 1 from by omega]
      have := h.o1
      rw [if_neg ht] at this
      exact ⟨e0.trans this.1, e1.trans this.2.1, e2.trans this.2.2⟩
/-- A cycle of the shadow's side. -/
theorem Sh.step {prog : List Int} {inp : Nat → INP} {t : Nat} {B B1 B2 : BD} {raw sha : BU} (h : Sh prog inp t B) (hnow : B.now = (t : Nat)) (hC : coreF prog 0 (inp t) B = (B1, raw)) (hS : shaF prog B1 = (B2, sha)) (al : Bool) :
    sha = dueM prog inp t ∧ Sh prog inp (t + 1) (nextB (edgF B2 al raw (inp t))) := by
  have hk := coreF_keep prog 0 (inp t) B
  have hsk := shaF_keep prog B1
  have hco := fun j hj => main_out prog 0 (inp t) B j hj
  have hso := fun j hj => sha_out prog B1 j hj
  rw [hC] at hk hco
  rw [hS] at hsk hso
  simp only [] at hk hsk hco hso
  have hfs : B2.fs = B.fs := hsk.1.trans hk.1
  have hs1 : Sim 18 B1 (runM prog inp (t - 2)) := h.s.keep hk.1 fun k hk' => hco _ (.inr (by omega))
  have hi := edg_in (B := B2) (fun s h1 h2 => by rw [hfs]; exact h.snd s (by omega) h2) al raw (inp t)
  have hlow := fun j hj => edg_low B2 al raw (inp t) j hj
  have hef := (edg_fs B2 al raw (inp t)).1
  have hn1 : B1.now = (t : Nat) := hk.2.trans hnow
  generalize edgF B2 al raw (inp t) = E at *
  have hsnd : ∀ s, 18 ≤ s → s < 40 → Snd (nextB E).fs s := fun s h1 h2 => by rw [show (nextB E).fs = B.fs from hef.trans hfs]; exact h.snd s h1 h2
  have hl1 : 1 ≤ t + 1 → (nextB E).c 36 = inFl (inp (t + 1 - 1)) ∧ (nextB E).c 37 = (inp (t + 1 - 1)).d := fun _ => ⟨hi.1, hi.2.1⟩
  have hl2 : 2 ≤ t + 1 → (nextB E).c 38 = inFl (inp (t + 1 - 2)) ∧ (nextB E).c 39 = (inp (t + 1 - 2)).d := fun ht => by
    have h1 := h.i1 (by omega)
    rw [show t + 1 - 2 = t - 1 from by omega]
    exact ⟨hi.2.2.1.trans ((hso 36 (.inr (by omega))).trans ((hco 36 (.inr (by omega))).trans h1.1)), hi.2.2.2.trans ((hso 37 (.inr (by omega))).trans ((hco 37 (.inr (by omega))).trans h1.2))⟩
  by_cases ht : t < 2
  · have e : shaF prog B1 = (B1, zBU) := by unfold shaF; rw [if_neg (by rw [hn1]; omega)]
    rw [e] at hS
    injection hS with e1 e2
    refine ⟨by rw [← e2]; unfold dueM; rw [if_pos ht], ⟨hsnd, ?_, hl1, hl2⟩⟩
    rw [show t + 1 - 2 = t - 2 from by omega]
    refine hs1.keep (B' := nextB E) (hef.trans hsk.1) fun k hk' => ?_
    rw [e1] 
    exact hlow (18 + k) (by omega)
  · have e : shaF prog B1 = coreF prog 18 (shaI B1) B1 := by unfold shaF; rw [if_pos (by rw [hn1]; omega)]
    have hin : shaI B1 = inp (t - 2) := by
      unfold shaI
      have g8 : Snd B1.fs 38 := by rw [hk.1]; exact h.snd 38 (by omega) (by omega)
      have g9 : Snd B1.fs 39 := by rw [hk.1]; exact h.snd 39 (by omega) (by omega)
      have h2 := h.i2 (by omega)
      rw [get_snd g8, get_snd g9, hco 38 (.inr (by omega)), hco 39 (.inr (by omega)), h2.1, h2.2]
      generalize inp (t - 2) = J
      obtain ⟨v, e, d⟩ := J
      have := in_flags v e d
      rw [this.1, this.2]
    have hr := sim_core hs1 prog (inp (t - 2))
    rw [e, hin] at hS
    rw [hS] at hr
    refine ⟨by unfold dueM; rw [if_neg ht]; exact hr.o, ⟨hsnd, ?_, hl1, hl2⟩⟩
    have e2 : runM prog inp (t + 1 - 2) = (coreF prog 0 (inp (t - 2)) (runM prog inp (t - 2))).1 := by
      rw [show t + 1 - 2 = (t - 2) + 1 from by omega]; rfl
    rw [e2]
    exact hr.s.keep (B' := nextB E) hef fun k hk' => hlow (18 + k) (by omega)
theorem Mn.zero (prog : List Int) (inp : Nat → INP) (fs : List FD) (hs : ∀ s, s < 18 ∨ (40 ≤ s ∧ s < 46) → Snd fs s) : Mn prog inp 0 (bd0 fs) :=
  ⟨hs, ⟨rfl, fun k hk => hs (0 + k) (.inl (by omega)), fun _ _ => rfl⟩, ⟨rfl, rfl, rfl⟩, ⟨rfl, rfl, rfl⟩⟩
theorem Sh.zero (prog : List Int) (inp : Nat → INP) (fs : List FD) (hs : ∀ s, 18 ≤ s → s < 40 → Snd fs s) : Sh prog inp 0 (bd0 fs) :=
  ⟨hs, ⟨rfl, fun k hk => hs (18 + k) (by omega) (by omega), fun _ _ => rfl⟩, fun h => absurd h (by decide), fun h => absurd h (by decide)⟩
theorem Mn.congr {prog : List Int} {inp inp' : Nat → INP} {t : Nat} {B : BD} (h : Mn prog inp t B) (e : ∀ k, k < t → inp k = inp' k) : Mn prog inp' t B := by
  refine ⟨h.snd, by rw [← runM_congr prog t e]; exact h.m, ?_, ?_⟩
  · by_cases ht : t = 0
    · have := h.o1; rw [if_pos ht] at this ⊢; exact this
    · have := h.o1; rw [if_neg ht] at this ⊢; rw [← rawM_congr prog (t - 1) (fun k hk => e k (by omega))]; exact this
  · by_cases ht : t < 2
    · have := h.o2; rw [if_pos ht] at this ⊢; exact this
    · have := h.o2; rw [if_neg ht] at this ⊢; rw [← rawM_congr prog (t - 2) (fun k hk => e k (by omega))]; exact this
theorem Sh.congr {prog : List Int} {inp inp' : Nat → INP} {t : Nat} {B : BD} (h : Sh prog inp t B) (e : ∀ k, k < t → inp k = inp' k) : Sh prog inp' t B := by
  refine ⟨h.snd, by rw [← runM_congr prog (t - 2) (fun k hk => e k (by omega))]; exact h.s, fun ht => ?_, fun ht => ?_⟩
  · rw [← e (t - 1) (by omega)]; exact h.i1 ht
  · rw [← e (t - 2) (by omega)]; exact h.i2 ht
end Go.Proofs.Qxb6500749a
