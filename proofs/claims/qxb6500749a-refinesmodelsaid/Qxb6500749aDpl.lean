import Derived.Test.Qxb6500749aBts
import Derived.Test.Qxb6500749aDst
namespace Go.Proofs.Qxb6500749a
open Go.RowKit
/-! ### The DMA master, transfer by transfer -/
def nfs (c : Nat → Int) : BD := ⟨c, [], 0⟩
theorem nfs_get (c : Nat → Int) (s : Nat) : (nfs c).get s = c s := get_snd (B := nfs c) (snd_nil s)
theorem nfs_set (c : Nat → Int) (s : Nat) (x : Int) : (nfs c).set s x = nfs (upd c s x) := by
  have h := set_snd (B := nfs c) (s := s) (snd_nil s) x
  show (⟨((nfs c).set s x).c, [], 0⟩ : BD) = ⟨upd c s x, [], 0⟩
  rw [h]; rfl
structure AS where
  D : DD
  c : Nat → Int
  m : Int → Int
  log : List TR
def asQ (A : AS) : RQ := (nexF A.D (nfs A.c)).2
def asT (A : AS) : TR := ⟨(asQ A).w, (asQ A).a, (asQ A).d, !mapF (asQ A).a, if mapF (asQ A).a = true ∧ (asQ A).w = false then A.m (asQ A).a else 0⟩
def asM (A : AS) : Int → Int := if mapF (asQ A).a = true ∧ (asQ A).w = true then (fun x => if x = (asQ A).a then (asQ A).d else A.m x) else A.m
def asI (A : AS) : INP := ⟨true, (asT A).e, (asT A).r⟩
def asS (A : AS) : AS :=
  if A.D.st = 1 then
    if (asQ A).ok = true then ⟨takD A.D (asI A), (takB A.D (nfs A.c) (asI A)).c, asM A, A.log ++ [asT A]⟩
    else { A with D := (nexF A.D (nfs A.c)).1 }
  else A
def asN (A : AS) : Nat → AS
  | 0 => A
  | n + 1 => asS (asN A n)
theorem asS_stop {A : AS} (h : A.D.st ≠ 1) : asS A = A := by unfold asS; rw [if_neg h]
theorem asN_stop {A : AS} {n : Nat} (h : (asN A n).D.st ≠ 1) : ∀ k, asN A (n + k) = asN A n
  | 0 => rfl
  | k + 1 => by show asS (asN A (n + k)) = _; rw [asN_stop h k, asS_stop h]
theorem asN_log (A : AS) (n : Nat) : ∀ k, ∃ l, (asN A (n + k)).log = (asN A n).log ++ l
  | 0 => ⟨[], by simp⟩
  | k + 1 => by
    obtain ⟨l, hl⟩ := asN_log A n k
    show ∃ l, (asS (asN A (n + k))).log = _
    unfold asS
    split
    · split
      · exact ⟨l ++ [asT (asN A (n + k))], by show (asN A (n + k)).log ++ _ = _; rw [hl, List.append_assoc]⟩
      · exact ⟨l, hl⟩
    · exact ⟨l, hl⟩
/-- A log of the atomic master is the beginning of the log where it has stopped. -/
theorem asN_pre {A : AS} {a b : Nat} (h : (asN A b).D.st ≠ 1) : ∃ l, (asN A b).log = (asN A a).log ++ l := by
  rcases Nat.le_total a b with q | q
  · obtain ⟨k, rfl⟩ := Nat.exists_eq_add_of_le q
    exact asN_log A a k
  · obtain ⟨k, rfl⟩ := Nat.exists_eq_add_of_le q
    exact ⟨[], by rw [asN_stop h k]; simp⟩
theorem asN_same {A : AS} {a b : Nat} (h : (asN A a).D.st ≠ 1) (g : (asN A b).D.st ≠ 1) : asN A a = asN A b := by
  rcases Nat.le_total a b with q | q
  · obtain ⟨k, rfl⟩ := Nat.exists_eq_add_of_le q
    exact (asN_stop h k).symm
  · obtain ⟨k, rfl⟩ := Nat.exists_eq_add_of_le q
    exact asN_stop g k
theorem nex_ok {D : DD} {B : BD} (h : (nexF D B).2.ok = true) : (nexF D B).1 = D := by
  revert h
  unfold nexF noRQ
  repeat' split
  all_goals first | exact fun _ => rfl | exact fun q => Bool.noConfusion (show false = true from q)
theorem nex_no {D : DD} {B : BD} (h : (nexF D B).2.ok = false) : (nexF D B).1.st ≠ 1 := by
  revert h
  unfold nexF noRQ
  repeat' split
  all_goals first | exact fun q => Bool.noConfusion (show true = false from q) | exact fun _ => show (3 : Int) ≠ 1 by decide | exact fun _ => show (5 : Int) ≠ 1 by decide | exact fun _ => show (2 : Int) ≠ 1 by decide
theorem nex_keep (D : DD) (B : BD) : (nexF D B).1.wai = D.wai ∧ (nexF D B).1.desc = D.desc ∧ (nexF D B).1.buf = D.buf := by
  unfold nexF
  repeat' split
  all_goals exact ⟨rfl, rfl, rfl⟩
/-- What holds of the atomic master after n transfers. -/
structure AIv (desc : Int) (m0 : Int → Int) (n : Nat) (A : AS) : Prop where
  wai : A.D.wai = false
  ds : A.D.desc = desc
  wb : W32 A.D.buf
  wc : ∀ s, W32 (A.c s)
  wm : ∀ a, W32 (A.m a)
  go : A.D.st = 1 → (A.D.ph = 0 ∧ A.D.fet = n ∧ n < 4 ∧ A.m = m0 ∧ A.c 53 = 0 ∧ A.c 54 = 0 ∧ ∀ i, i < n → A.c (49 + i) = m0 ((desc + 4 * (i : Nat)) % 4294967296)) ∨
    ((∀ i, i < 4 → A.c (49 + i) = m0 ((desc + 4 * (i : Nat)) % 4294967296)) ∧ ∃ i : Nat, A.c 53 = (i : Nat) ∧ A.c 54 = (i : Nat) ∧ i ≤ 16 ∧ (A.D.ph = 1 ∧ n = 4 + 2 * i ∨ A.D.ph = 2 ∧ n = 5 + 2 * i ∧ i < 16))
theorem asT_w32 {A : AS} (h : ∀ a, W32 (A.m a)) : W32 (asT A).r := w32_ite (h _) w32_zero
theorem asM_w32 {A : AS} (h : ∀ a, W32 (A.m a)) (hb : W32 A.D.buf) (a : Int) : W32 (asM A a) := by
  have hd : W32 (asQ A).d := by
    unfold asQ nexF noRQ
    repeat' split
    all_goals first | exact w32_zero | exact hb
  unfold asM
  split
  · exact w32_ite hd (h a)
  · exact h a
theorem W32.upd {c : Nat → Int} (h : ∀ s, W32 (c s)) {x : Int} (hx : W32 x) (j : Nat) : ∀ s, W32 (upd c j x s) := fun s => w32_ite hx (h s)
theorem takB_nfs (D : DD) (c : Nat → Int) (i : INP) : (takB D (nfs c) i).c = if i.e = true then c else if D.ph = 0 then upd c (49 + D.fet) i.d else if D.ph = 1 then c else upd (upd c 53 ((c 53 + 1) % 4294967296)) 54 ((c 54 + 1) % 4294967296) := by
  unfold takB absB
  rw [nfs_set, nfs_set, nfs_get, nfs_set, nfs_get, upd_ne _ _ _ _ (by decide)]
  repeat' split
  all_goals rfl
theorem AIv.step {desc : Int} {m0 : Int → Int} {n : Nat} {A : AS} (h : AIv desc m0 n A) : AIv desc m0 (n + 1) (asS A) := by
  by_cases hs : A.D.st = 1
  case neg => rw [asS_stop hs]; exact ⟨h.wai, h.ds, h.wb, h.wc, h.wm, fun q => absurd q hs⟩
  unfold asS
  rw [if_pos hs]
  split
  case isFalse hq =>
    have hk := nex_keep A.D (nfs A.c)
    have hq2 : (nexF A.D (nfs A.c)).2.ok = false := by cases z : (nexF A.D (nfs A.c)).2.ok; rfl; exact absurd z hq
    exact ⟨hk.1.trans h.wai, hk.2.1.trans h.ds, by show W32 (nexF A.D (nfs A.c)).1.buf; rw [hk.2.2]; exact h.wb, h.wc, h.wm, fun q => absurd q (nex_no hq2)⟩
  case isTrue hq =>
    have hT := asT_w32 h.wm
    refine ⟨?_, ?_, ?_, ?_, asM_w32 h.wm h.wb, ?_⟩
    · show (takD A.D (asI A)).wai = false
      unfold takD absD
      repeat' split
      all_goals rfl
    · show (takD A.D (asI A)).desc = desc
      unfold takD absD
      repeat' split
      all_goals exact h.ds
    · show W32 (takD A.D (asI A)).buf
      unfold takD absD
      repeat' split
      all_goals first | exact h.wb | exact hT
    · intro s
      show W32 ((takB A.D (nfs A.c) (asI A)).c s)
      rw [takB_nfs]
      repeat' split
      · exact h.wc s
      · exact W32.upd h.wc hT _ s
      · exact h.wc s
      · exact W32.upd (W32.upd h.wc (W32.emod _) _) (W32.emod _) _ s
    · show (takD A.D (asI A)).st = 1 → _
      intro hs1
      have he : (asI A).e = false := by
        cases q : (asI A).e
        · rfl
        · unfold takD at hs1
          rw [if_pos q] at hs1
          exact absurd (show (4 : Int) = 1 from hs1) (by decide)
      have hD : takD A.D (asI A) = absD { A.D with wai := false } (asI A).d := by unfold takD; rw [he, if_neg (by decide)]
      have hC : (takB A.D (nfs A.c) (asI A)).c = if A.D.ph = 0 then upd A.c (49 + A.D.fet) (asI A).d else if A.D.ph = 1 then A.c else upd (upd A.c 53 ((A.c 53 + 1) % 4294967296)) 54 ((A.c 54 + 1) % 4294967296) := by
        rw [takB_nfs, he, if_neg (by decide)]
      have hm : mapF (asQ A).a = true := by
        have : (!mapF (asQ A).a) = false := he
        simpa using this
      show ((takD A.D (asI A)).ph = 0 ∧ (takD A.D (asI A)).fet = n + 1 ∧ n + 1 < 4 ∧ asM A = m0 ∧ (takB A.D (nfs A.c) (asI A)).c 53 = 0 ∧ (takB A.D (nfs A.c) (asI A)).c 54 = 0 ∧ ∀ i, i < n + 1 → (takB A.D (nfs A.c) (asI A)).c (49 + i) = m0 ((desc + 4 * (i : Nat)) % 4294967296)) ∨
        ((∀ i, i < 4 → (takB A.D (nfs A.c) (asI A)).c (49 + i) = m0 ((desc + 4 * (i : Nat)) % 4294967296)) ∧ ∃ i : Nat, (takB A.D (nfs A.c) (asI A)).c 53 = (i : Nat) ∧ (takB A.D (nfs A.c) (asI A)).c 54 = (i : Nat) ∧ i ≤ 16 ∧ ((takD A.D (asI A)).ph = 1 ∧ n + 1 = 4 + 2 * i ∨ (takD A.D (asI A)).ph = 2 ∧ n + 1 = 5 + 2 * i ∧ i < 16))
      rw [hD, hC]
      rcases h.go hs with ⟨hp, hf, hn, hm0, h53, h54, hr⟩ | ⟨hr, i, h53, h54, hi, hph⟩
      · rw [if_pos hp]
        have hQ : asQ A = ⟨true, false, (desc + 4 * (n : Nat)) % 4294967296, 0⟩ := by
          unfold asQ nexF; rw [if_pos hp, h.ds, hf]
        have hM : asM A = m0 := by unfold asM; rw [hQ]; simp only []; rw [if_neg (by simp), hm0]
        have hd : (asI A).d = m0 ((desc + 4 * (n : Nat)) % 4294967296) := by
          show (if mapF (asQ A).a = true ∧ (asQ A).w = false then A.m (asQ A).a else 0) = _
          have hw : (asQ A).w = false := by rw [hQ]
          rw [if_pos ⟨hm, hw⟩, hQ, hm0]
        have ha : absD { A.D with wai := false } (asI A).d = { A.D with wai := false, fet := n + 1, ph := if n + 1 = 4 then 1 else 0 } := by
          unfold absD; rw [if_pos hp, ← hf]
        have hrr : ∀ i, i < n + 1 → upd A.c (49 + A.D.fet) (asI A).d (49 + i) = m0 ((desc + 4 * (i : Nat)) % 4294967296) := fun i hi => by
          rw [hf]
          by_cases q : i = n
          · rw [q, upd_same, hd]
          · rw [upd_ne _ _ _ _ (by omega)]; exact hr i (by omega)
        have h53' : upd A.c (49 + A.D.fet) (asI A).d 53 = 0 := by rw [upd_ne _ _ _ _ (by omega)]; exact h53
        have h54' : upd A.c (49 + A.D.fet) (asI A).d 54 = 0 := by rw [upd_ne _ _ _ _ (by omega)]; exact h54
        rw [ha]
        by_cases q : n + 1 = 4
        · refine .inr ⟨fun i hi => hrr i (by omega), 0, h53', h54', by omega, .inl ⟨if_pos q, by omega⟩⟩
        · exact .inl ⟨if_neg q, rfl, by omega, hM, h53', h54', hrr⟩
      · rcases hph with ⟨hp, hn⟩ | ⟨hp, hn, hi2⟩
        · rw [if_neg (by omega), if_pos hp]
          have ha : absD { A.D with wai := false } (asI A).d = { A.D with wai := false, buf := (asI A).d, ph := 2 } := by
            unfold absD; rw [if_neg (by show ¬ A.D.ph = 0; omega), if_pos hp]
          have hlt : i < 16 := by
            have hq2 := hq
            unfold asQ nexF noRQ at hq2
            rw [if_neg (by omega)] at hq2
            by_cases b1 : badF (nfs A.c) = true
            · rw [if_pos b1] at hq2; exact absurd (show false = true from hq2) (by decide)
            rw [if_neg b1] at hq2
            by_cases b2 : ((nfs A.c).get 53 != (nfs A.c).get 54) = true
            · rw [if_pos b2] at hq2; exact absurd (show false = true from hq2) (by decide)
            rw [if_neg b2, if_neg (by omega)] at hq2
            by_cases b3 : (nfs A.c).get 53 < (nfs A.c).get 51
            · unfold badF at b1
              rw [nfs_get, nfs_get] at b3
              have b4 : ¬ (nfs A.c).get 51 > 16 := fun q => b1 (by rw [decide_eq_true q]; simp)
              rw [nfs_get] at b4
              omega
            · rw [if_neg b3] at hq2; exact absurd (show false = true from hq2) (by decide)
          rw [ha]
          exact .inr ⟨hr, i, h53, h54, hi, .inr ⟨rfl, by omega, hlt⟩⟩
        · rw [if_neg (by omega), if_neg (by omega)]
          have ha : absD { A.D with wai := false } (asI A).d = { A.D with wai := false, ph := 1 } := by
            unfold absD; rw [if_neg (by show ¬ A.D.ph = 0; omega), if_neg (by show ¬ A.D.ph = 1; omega)]
          rw [ha]
          refine .inr ⟨fun j hj => ?_, i + 1, ?_, ?_, by omega, .inl ⟨rfl, by omega⟩⟩
          · rw [upd_ne _ _ _ _ (by omega), upd_ne _ _ _ _ (by omega)]; exact hr j hj
          · rw [upd_ne _ _ _ _ (by decide), upd_same, h53]; omega
          · rw [upd_same, h54]; omega
def as0 (m0 : Int → Int) (desc : Int) : AS := ⟨strD dd0 desc, fun _ => 0, m0, []⟩
theorem aiv0 {m0 : Int → Int} (hm : ∀ a, W32 (m0 a)) (desc : Int) : AIv desc m0 0 (as0 m0 desc) :=
  ⟨rfl, rfl, w32_zero, fun _ => w32_zero, hm, fun _ => .inl ⟨rfl, rfl, by decide, rfl, rfl, rfl, fun i hi => absurd hi (by omega)⟩⟩
theorem aivN {m0 : Int → Int} (hm : ∀ a, W32 (m0 a)) (desc : Int) : ∀ n, AIv desc m0 n (asN (as0 m0 desc) n)
  | 0 => aiv0 hm desc
  | n + 1 => (aivN hm desc n).step
end Go.Proofs.Qxb6500749a
