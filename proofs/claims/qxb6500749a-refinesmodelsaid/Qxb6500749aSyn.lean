import Derived.Test.Qxb6500749aItp
import Derived.Test.Qxb6500749aDpl
import Derived.Test.Qxb6500749aPrt
namespace Go.Proofs.Qxb6500749a
open Go.RowKit
/-! ### The main copy beside the interpreter -/
structure SynR (c : Nat → Int) (M : IM) : Prop where
  r : ∀ j, j < 16 → c j = M.r j
  pc : c 16 = M.pc
/-- The copy has put a request: how it will end. -/
structure Rq (prog : List Int) (c : Nat → Int) (M N : IM) (w : Bool) (a d : Int) : Prop where
  wait : c 17 % 4 = 1
  log : N.log = M.log ++ [accT M.m w a d]
  m : N.m = accM M.m w a d
  tra : N.tra = !mapF a
  hal : N.hal = false
  fin : ∃ c2, coreF prog 0 ⟨true, !mapF a, (accT M.m w a d).r⟩ (nfs c) = (nfs c2, if mapF a = true then zBU else ⟨8, 0, 0⟩) ∧ c2 17 = (if mapF a = true then 0 else 3) ∧ SynR c2 N
def bq (w : Bool) (a d : Int) : BU := ⟨if w = true then 3 else 1, a, d⟩
theorem dec16 (x : Int) : (decF x).rd < 16 ∧ (decF x).ra < 16 ∧ (decF x).rb < 16 := by
  unfold decF
  refine ⟨?_, ?_, ?_⟩ <;> simp only [] <;> omega
theorem syn_upd {c : Nat → Int} {M : IM} (h : SynR c M) (rd : Nat) (v p : Int) : SynR (upd (upd c rd v) 16 p) { M with r := upd M.r rd v, pc := p } := by
  refine ⟨fun j hj => ?_, upd_same _ _ _⟩
  show upd (upd c rd v) 16 p j = upd M.r rd v j
  rw [upd_ne _ _ _ _ (by omega)]
  unfold upd
  split
  · rfl
  · exact h.r j hj
theorem syn_pc {c : Nat → Int} {M : IM} (h : SynR c M) (p : Int) : SynR (upd c 16 p) { M with pc := p } :=
  ⟨fun j hj => by show upd c 16 p j = M.r j; rw [upd_ne _ _ _ _ (by omega)]; exact h.r j hj, upd_same _ _ _⟩
theorem syn_md {c : Nat → Int} {M M' : IM} (h : SynR c M) (v : Int) (h1 : M'.r = M.r) (h2 : M'.pc = M.pc) : SynR (upd c 17 v) M' :=
  ⟨fun j hj => by rw [upd_ne _ _ _ _ (by omega), h1]; exact h.r j hj, by rw [upd_ne _ _ _ _ (by decide), h2]; exact h.pc⟩
theorem md_upd (c : Nat → Int) (rd : Nat) (hr : rd < 16) (v p : Int) : upd (upd c rd v) 16 p 17 = c 17 := by rw [upd_ne _ _ _ _ (by decide), upd_ne _ _ _ _ (by omega)]
theorem or_ld (r : Nat) (h : r < 16) : (bits BinOp.and IntKind.u32 (bits BinOp.or IntKind.u32 5 ((r : Nat) * 16)) 4 != 0) = true ∧ (bits BinOp.or IntKind.u32 5 ((r : Nat) * 16) / 16 % 16).toNat = r := by
  obtain rfl | rfl | rfl | rfl | rfl | rfl | rfl | rfl | rfl | rfl | rfl | rfl | rfl | rfl | rfl | rfl : r = 0 ∨ r = 1 ∨ r = 2 ∨ r = 3 ∨ r = 4 ∨ r = 5 ∨ r = 6 ∨ r = 7 ∨ r = 8 ∨ r = 9 ∨ r = 10 ∨ r = 11 ∨ r = 12 ∨ r = 13 ∨ r = 14 ∨ r = 15 := by omega
  all_goals exact ⟨by decide, by decide⟩
theorem and_one4 : (bits BinOp.and IntKind.u32 1 4 != 0) = false := by decide
/-- The copy takes in the answer. -/
theorem core_take (prog : List Int) (c : Nat → Int) (e : Bool) (x : Int) (hw : c 17 % 4 = 1) : coreF prog 0 ⟨true, e, x⟩ (nfs c) = if e = true then (nfs (upd c 17 3), ⟨8, 0, 0⟩) else if (bits BinOp.and IntKind.u32 (c 17) 4 != 0) = true then (nfs (upd (upd c (c 17 / 16 % 16).toNat x) 17 0), zBU) else (nfs (upd c 17 0), zBU) := by
  have hg : ∀ s, (nfs c).get s = c s := nfs_get c
  unfold coreF awaitF
  rw [hg, Nat.zero_add, if_neg (by omega), if_neg (by omega), if_pos hw]
  rw [if_neg (show ¬ true = false by decide)]
  rw [Nat.zero_add, nfs_set, nfs_set, nfs_set, nfs_set]
/-- One instruction of the copy beside one of the interpreter. -/
def ExO (prog : List Int) (M : IM) (E : BD × BU) (N : IM) : Prop := ∃ c', E.1 = nfs c' ∧ ((E.2 = zBU ∧ c' 17 = 0 ∧ SynR c' N ∧ N.hal = false ∧ N.tra = false ∧ N.log = M.log ∧ N.m = M.m) ∨ (E.2 = ⟨4, 0, 0⟩ ∧ c' 17 = 2 ∧ SynR c' N ∧ N.hal = true ∧ N.tra = false ∧ N.log = M.log ∧ N.m = M.m) ∨ (E.2 = ⟨8, 0, 0⟩ ∧ c' 17 = 3 ∧ SynR c' N ∧ N.hal = false ∧ N.tra = true ∧ N.log = M.log ∧ N.m = M.m) ∨ (∃ w a d, E.2 = bq w a d ∧ Rq prog c' M N w a d))
theorem exo_if {prog : List Int} {M : IM} {q : Prop} [Decidable q] {x y : BD × BU} {u v : IM} (h1 : q → ExO prog M x u) (h2 : ¬ q → ExO prog M y v) : ExO prog M (if q then x else y) (if q then u else v) := by
  by_cases hq : q
  · rw [if_pos hq, if_pos hq]; exact h1 hq
  · rw [if_neg hq, if_neg hq]; exact h2 hq
theorem exec_it (prog : List Int) (c : Nat → Int) (M : IM) (i : INP) (h : SynR c M) (h0 : c 17 = 0) (hh : M.hal = false) (ht : M.tra = false) : ExO prog M (coreF prog 0 i (nfs c)) (itF prog M) := by
  have hg : ∀ s, (nfs c).get s = c s := nfs_get c
  have hcore : coreF prog 0 i (nfs c) = execI 0 M.pc (decF (fetF prog M.pc)) (nfs c) := by
    unfold coreF execF
    rw [hg, hg, h0, show c (0 + 16) = M.pc from h.pc]
    rw [if_neg (by decide), if_neg (by decide), if_neg (by decide)]
  have hit : itF prog M = itI M (decF (fetF prog M.pc)) := by unfold itF; rw [hh, ht]; rfl
  rw [hcore, hit]
  obtain ⟨r1, r2, r3⟩ := dec16 (fetF prog M.pc)
  generalize decF (fetF prog M.pc) = I at *
  have hra : (nfs c).get (0 + I.ra) = M.r I.ra := by rw [hg, Nat.zero_add]; exact h.r _ r2
  have hrb : (nfs c).get (0 + I.rb) = M.r I.rb := by rw [hg, Nat.zero_add]; exact h.r _ r3
  have hrd : (nfs c).get (0 + I.rd) = M.r I.rd := by rw [hg, Nat.zero_add]; exact h.r _ r1
  have reg : ∀ v p : Int, ∃ c', (finF 0 ((nfs c).set (0 + I.rd) v) p zBU).1 = nfs c' ∧ (finF 0 ((nfs c).set (0 + I.rd) v) p zBU).2 = zBU ∧ c' 17 = 0 ∧ SynR c' { M with r := upd M.r I.rd v, pc := p } := fun v p => by
    refine ⟨upd (upd c I.rd v) 16 p, ?_, rfl, ?_, syn_upd h I.rd v p⟩
    · show ((nfs c).set (0 + I.rd) v).set (0 + 16) p = _
      rw [Nat.zero_add, Nat.zero_add, nfs_set, nfs_set]
    · rw [md_upd _ _ r1]; exact h0
  have pcs : ∀ p : Int, ∃ c', (finF 0 (nfs c) p zBU).1 = nfs c' ∧ (finF 0 (nfs c) p zBU).2 = zBU ∧ c' 17 = 0 ∧ SynR c' { M with pc := p } := fun p => by
    refine ⟨upd c 16 p, ?_, rfl, ?_, syn_pc h p⟩
    · show (nfs c).set (0 + 16) p = _
      rw [Nat.zero_add, nfs_set]
    · rw [upd_ne _ _ _ _ (by decide)]; exact h0
  unfold execI itI
  rw [hra, hrb, hrd]
  have plain : ∀ (E : BD × BU) (N : IM), (∃ c', E.1 = nfs c' ∧ E.2 = zBU ∧ c' 17 = 0 ∧ SynR c' N) → N.hal = M.hal → N.tra = M.tra → N.log = M.log → N.m = M.m → ExO prog M E N := by
    intro E N ⟨c', e1, e2, e3, e4⟩ n1 n2 n3 n4
    exact ⟨c', e1, .inl ⟨e2, e3, e4, n1.trans hh, n2.trans ht, n3, n4⟩⟩
  refine exo_if (fun _ => plain _ _ (pcs _) rfl rfl rfl rfl) (fun _ => exo_if (fun _ => ?halt) (fun _ => exo_if (fun _ => plain _ _ (reg _ _) rfl rfl rfl rfl) (fun _ => exo_if (fun _ => plain _ _ (reg _ _) rfl rfl rfl rfl) (fun _ => exo_if (fun _ => plain _ _ (reg _ _) rfl rfl rfl rfl) (fun _ => exo_if (fun _ => plain _ _ (reg _ _) rfl rfl rfl rfl) (fun _ => exo_if (fun _ => plain _ _ (reg _ _) rfl rfl rfl rfl) (fun _ => exo_if (fun _ => ?ld) (fun _ => exo_if (fun _ => ?st) (fun _ => exo_if (fun _ => plain _ _ (pcs _) rfl rfl rfl rfl) (fun _ => exo_if (fun _ => plain _ _ (reg _ _) rfl rfl rfl rfl) (fun _ => exo_if (fun _ => plain _ _ (pcs _) rfl rfl rfl rfl) (fun _ => exo_if (fun _ => plain _ _ (reg _ _) rfl rfl rfl rfl) (fun _ => ?trap)))))))))))))
  case halt => exact ⟨upd c 17 2, nfs_set c 17 2, .inr (.inl ⟨rfl, upd_same _ _ _, syn_md h 2 rfl rfl, rfl, ht, rfl, rfl⟩)⟩
  case trap => exact ⟨upd c 17 3, nfs_set c 17 3, .inr (.inr (.inl ⟨rfl, upd_same _ _ _, syn_md h 3 rfl rfl, hh, rfl, rfl, rfl⟩))⟩
  case ld =>
    generalize (M.r I.ra + I.i12) % 4294967296 = a
    obtain ⟨md, hmd⟩ : ∃ md, bits BinOp.or IntKind.u32 5 ((I.rd : Nat) * 16) = md := ⟨_, rfl⟩
    rw [hmd]
    refine ⟨upd (upd c 17 md) 16 ((M.pc + 1) % 4294967296), ?_, .inr (.inr (.inr ⟨false, a, 0, rfl, ?_⟩))⟩
    · show ((nfs c).set (0 + 17) md).set (0 + 16) _ = _
      rw [nfs_set, nfs_set]
    · have h17 : upd (upd c 17 md) 16 ((M.pc + 1) % 4294967296) 17 = md := by rw [upd_ne _ _ _ _ (by decide), upd_same]
      have ho := or_ld I.rd r1
      rw [hmd] at ho
      refine ⟨by rw [h17, ← hmd]; exact or_wait I.rd r1, rfl, ?_, rfl, hh, ?_⟩
      · show M.m = accM M.m false a 0
        unfold accM; rw [if_neg (by simp)]
      · rw [core_take prog _ _ _ (by rw [h17, ← hmd]; exact or_wait I.rd r1), h17, ho.1, ho.2]
        have hj : ∀ j, j < 16 → upd (upd c 17 md) 16 ((M.pc + 1) % 4294967296) j = M.r j := fun j hj => by rw [upd_ne _ _ _ _ (by omega), upd_ne _ _ _ _ (by omega)]; exact h.r j hj
        cases hm : mapF a
        · refine ⟨upd (upd (upd c 17 md) 16 ((M.pc + 1) % 4294967296)) 17 3, rfl, upd_same _ _ _, fun j q => ?_, ?_⟩
          · rw [upd_ne _ _ _ _ (by omega)]; exact hj j q
          · rw [upd_ne _ _ _ _ (by decide), upd_same]
        · refine ⟨upd (upd (upd (upd c 17 md) 16 ((M.pc + 1) % 4294967296)) I.rd (accT M.m false a 0).r) 17 0, rfl, upd_same _ _ _, fun j q => ?_, ?_⟩
          · rw [upd_ne _ _ _ _ (by omega)]
            show _ = upd M.r I.rd (M.m a) j
            have hr : (accT M.m false a 0).r = M.m a := by unfold accT; rw [hm]; simp
            rw [hr]
            by_cases qj : j = I.rd
            · rw [qj, upd_same, upd_same]
            · rw [upd_ne _ _ _ _ qj, upd_ne _ _ _ _ qj]; exact hj j q
          · rw [upd_ne _ _ _ _ (by decide), upd_ne _ _ _ _ (by omega), upd_same]
  case st =>
    generalize (M.r I.ra + I.i12) % 4294967296 = a
    refine ⟨upd (upd c 17 1) 16 ((M.pc + 1) % 4294967296), ?_, .inr (.inr (.inr ⟨true, a, M.r I.rd, rfl, ?_⟩))⟩
    · show ((nfs c).set (0 + 17) 1).set (0 + 16) _ = _
      rw [nfs_set, nfs_set]
    · have h17 : upd (upd c 17 1) 16 ((M.pc + 1) % 4294967296) 17 = 1 := by rw [upd_ne _ _ _ _ (by decide), upd_same]
      refine ⟨by rw [h17]; decide, rfl, rfl, rfl, hh, ?_⟩
      rw [core_take prog _ _ _ (by rw [h17]; decide), h17, and_one4]
      have hj : ∀ j, j < 16 → upd (upd c 17 1) 16 ((M.pc + 1) % 4294967296) j = M.r j := fun j hj => by rw [upd_ne _ _ _ _ (by omega), upd_ne _ _ _ _ (by omega)]; exact h.r j hj
      cases hm : mapF a
      · refine ⟨upd (upd (upd c 17 1) 16 ((M.pc + 1) % 4294967296)) 17 3, rfl, upd_same _ _ _, fun j q => ?_, ?_⟩
        · rw [upd_ne _ _ _ _ (by omega)]; exact hj j q
        · rw [upd_ne _ _ _ _ (by decide), upd_same]
      · refine ⟨upd (upd (upd c 17 1) 16 ((M.pc + 1) % 4294967296)) 17 0, rfl, upd_same _ _ _, fun j q => ?_, ?_⟩
        · rw [upd_ne _ _ _ _ (by omega)]; exact hj j q
        · rw [upd_ne _ _ _ _ (by decide), upd_same]
end Go.Proofs.Qxb6500749a
