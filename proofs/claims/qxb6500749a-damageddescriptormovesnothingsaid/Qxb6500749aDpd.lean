import Derived.Test.Qxb6500749aDmo
namespace Go.Proofs.Qxb6500749a
open Go.RowKit
/-! ### A descriptor with one bit turned -/
def HdM (R : RG) : Prop := R.hd = true → 0 ≤ R.desc ∧ R.desc + 12 < 4096 ∧ R.desc % 4 = 0
theorem HdM.kp {R R' : RG} (h : HdM R) (k : Kp R R') : HdM R' := fun q => by rw [k.desc]; exact h (k.hd ▸ q)
theorem HdM.stp {R : RG} (h : HdM R) (o : OpD) (ho : o.Ok) : HdM (stpR R o) := by
  have hc := h.kp (cycN_kp o.a.toNat R)
  unfold stpR
  repeat' split
  all_goals first
    | exact h
    | exact hc
    | (rename_i q
       simp only [not_or, Bool.not_eq_true, Bool.not_eq_false] at q
       obtain ⟨_, m1, m2⟩ := q
       have ha := ho.a
       rw [mapF_iff] at m1 m2
       intro _
       show 0 ≤ o.a ∧ o.a + 12 < 4096 ∧ o.a % 4 = 0
       have := ha.1
       exact ⟨this, by omega, m1.2⟩)
theorem hdm_play (s : Nat → OpD) (kc ko : Bool) : ∀ n : Nat, (∀ k, k < n → (s k).Ok) → HdM (plyN s kc ko n)
  | 0, _ => fun q => Bool.noConfusion (show false = true from q)
  | n + 1, h => (hdm_play s kc ko n fun k hk => h k (by omega)).stp (s n) (h n (by omega))
theorem run_stp {R : RG} (h : R.run = false) (o : OpD) (hk : o.k ≠ 4) : (stpR R o).run = false := by
  unfold stpR
  repeat' split
  all_goals first | exact h | contradiction
theorem run_play (s : Nat → OpD) (kc ko : Bool) : ∀ n : Nat, (∀ k, k < n → (s k).k ≠ 4) → (plyN s kc ko n).run = false
  | 0, _ => rfl
  | n + 1, h => run_stp (run_play s kc ko n fun k hk => h k (by omega)) (s n) (h n (by omega))
theorem ra_small {desc : Int} (h0 : 0 ≤ desc) (h1 : desc + 12 < 4096) {j : Nat} (hj : j < 4) : ra desc j = desc + 4 * (j : Nat) := by unfold ra; omega
theorem ra_map {desc : Int} (h0 : 0 ≤ desc) (h1 : desc + 12 < 4096) (h4 : desc % 4 = 0) {j : Nat} (hj : j < 4) : mapF (ra desc j) = true := by
  rw [ra_small h0 h1 hj, mapF_iff]; omega
theorem flip_nr {x : Int} (hx : W32 x) {b : Nat} (hb : b < 32) : Nr b (bits BinOp.xor IntKind.u32 x (2 ^ b)) x ∧ bt (bits BinOp.xor IntKind.u32 x (2 ^ b)) b ≠ bt x b := by
  constructor
  · intro k hk
    rw [bt_xor hx (w32_pow hb), bt_pow, decide_eq_false (Ne.symm hk)]
    simp
  · rw [bt_xor hx (w32_pow hb), bt_pow, decide_eq_true rfl]
    cases bt x b <;> simp
theorem flip_w32 {x : Int} (hx : W32 x) {b : Nat} (hb : b < 32) : W32 (bits BinOp.xor IntKind.u32 x (2 ^ b)) := by
  have h := bits_xor hx (w32_pow hb)
  have h2 : (bits BinOp.xor IntKind.u32 x (2 ^ b)) = ((x.toNat ^^^ ((2 : Int) ^ b).toNat : Nat) : Int) := by
    have hw : 0 ≤ bits BinOp.xor IntKind.u32 x (2 ^ b) := by
      unfold bits
      exact (W32.emod _).1
    omega
  have h3 : x.toNat ^^^ ((2 : Int) ^ b).toNat < 2 ^ 32 := Nat.xor_lt_two_pow (by have := hx.2; have := hx.1; omega) (by have := (w32_pow hb).2; have := (w32_pow hb).1; omega)
  rw [h2]
  exact ⟨by omega, by omega⟩
/-- The master over a descriptor that fails its CRC reads its four words and stops. -/
theorem bad_run {f : Int → Int} {desc : Int} (hf : ∀ a, W32 (f a)) (h0 : 0 ≤ desc) (h1 : desc + 12 < 4096) (h4 : desc % 4 = 0) (hg : crcF (f (ra desc 0)) (f (ra desc 1)) (f (ra desc 2)) ≠ f (ra desc 3)) :
    (asN (as0 f desc) 5).D.st = 3 ∧ (asN (as0 f desc) 5).log.length = 4 ∧ ∀ t ∈ (asN (as0 f desc) 5).log, t.w = false := by
  have s0 : (asN (as0 f desc) 0).D.st = 1 := rfl
  have l0 : (asN (as0 f desc) 0).log = [] := rfl
  obtain ⟨_, b1, _, c1⟩ := fetch_round (desc := desc) hf (n := 0) (by decide) s0
  rw [ra_map h0 h1 h4 (by decide), if_pos rfl] at c1
  obtain ⟨_, b2, _, c2⟩ := fetch_round (desc := desc) hf (n := 1) (by decide) c1
  rw [ra_map h0 h1 h4 (by decide), if_pos rfl] at c2
  obtain ⟨_, b3, _, c3⟩ := fetch_round (desc := desc) hf (n := 2) (by decide) c2
  rw [ra_map h0 h1 h4 (by decide), if_pos rfl] at c3
  obtain ⟨_, b4, _, c4⟩ := fetch_round (desc := desc) hf (n := 3) (by decide) c3
  rw [ra_map h0 h1 h4 (by decide), if_pos rfl] at c4
  obtain ⟨e1, e2, _⟩ := at_bad hf c4 (.inl hg)
  rw [l0] at b1
  have hl : (asN (as0 f desc) 5).log = [accT f false (ra desc 0) 0, accT f false (ra desc 1) 0, accT f false (ra desc 2) 0, accT f false (ra desc 3) 0] := by
    rw [e2]
    rw [show (4 : Nat) = 3 + 1 from rfl, b4, show (3 : Nat) = 2 + 1 from rfl, b3, show (2 : Nat) = 1 + 1 from rfl, b2, show (1 : Nat) = 0 + 1 from rfl, b1]
    rfl
  refine ⟨e1, by rw [hl]; rfl, fun t ht => ?_⟩
  rw [hl] at ht
  simp at ht
  rcases ht with rfl | rfl | rfl | rfl <;> rfl
theorem f9_plain {R R' : RG} {j b : Nat} (hj : j < 4) (hb : b < 32) (h : PI 2305 R) (hd : R.hd = true) (hm : HdM R) (hk : R.ko = false) (hs : sndM R.img R.desc) {d : Int} (hdd : d = bits BinOp.xor IntKind.u32 (R.img (ra R.desc j)) (2 ^ b))
    (hp : PI 2305 R') (kp : Kp (pokR R (ra R.desc j) d) R') (hr : R'.run = true) (hst : R'.DM.st ≠ 1) : R'.DM.st = 3 ∧ R'.uD.log.length = 4 ∧ ∀ t ∈ R'.uD.log, t.w = false := by
  obtain ⟨h0, h1, h4⟩ := hm hd
  have hW := h.wi
  have hdw : W32 d := by rw [hdd]; exact flip_w32 (hW _) hb
  have hnr : Nr b d (R.img (ra R.desc j)) ∧ bt d b ≠ bt (R.img (ra R.desc j)) b := by rw [hdd]; exact flip_nr (hW _) hb
  have eimg : R'.img = fun x => if x = ra R.desc j then d else R.img x := kp.img
  have edesc : R'.desc = R.desc := kp.desc
  have hne : ∀ i, i < 4 → i ≠ j → ra R.desc i ≠ ra R.desc j := fun i hi q e => by
    rw [ra_small h0 h1 hi, ra_small h0 h1 hj] at e
    omega
  have hg : crcF (R'.img (ra R.desc 0)) (R'.img (ra R.desc 1)) (R'.img (ra R.desc 2)) ≠ R'.img (ra R.desc 3) := by
    have hw' : ∀ a, W32 (R'.img a) := hp.wi
    have same : ∀ i, i < 4 → i ≠ j → R'.img (ra R.desc i) = R.img (ra R.desc i) := fun i hi q => by rw [eimg]; simp only []; rw [if_neg (hne i hi q)]
    have this : R'.img (ra R.desc j) = d := by rw [eimg]; simp only []; rw [if_true]
    refine crc_one hb (hW (ra R.desc 0)) (hW (ra R.desc 1)) (hW (ra R.desc 2)) (hw' _) (hw' _) (hw' _) hs ?_
    obtain rfl | rfl | rfl | rfl : j = 0 ∨ j = 1 ∨ j = 2 ∨ j = 3 := by omega
    · exact .inl ⟨by rw [this]; exact hnr.1, by rw [this]; exact hnr.2, same 1 (by decide) (by decide), same 2 (by decide) (by decide), same 3 (by decide) (by decide)⟩
    · exact .inr (.inl ⟨by rw [this]; exact hnr.1, by rw [this]; exact hnr.2, same 0 (by decide) (by decide), same 2 (by decide) (by decide), same 3 (by decide) (by decide)⟩)
    · exact .inr (.inr (.inl ⟨by rw [this]; exact hnr.1, by rw [this]; exact hnr.2, same 0 (by decide) (by decide), same 1 (by decide) (by decide), same 3 (by decide) (by decide)⟩))
    · exact .inr (.inr (.inr ⟨by rw [this]; exact hnr.2, same 0 (by decide) (by decide), same 1 (by decide) (by decide), same 2 (by decide) (by decide)⟩))
  rw [← edesc] at hg h0 h1 h4
  obtain ⟨q1, q2, q3⟩ := bad_run hp.wi h0 h1 h4 hg
  have hz : zR R' = 0 := zR_no (kp.ko.trans hk)
  obtain ⟨n, g | g⟩ := (hp.go hr (kp.hd.trans hd) fun z => by rw [hz] at z; exact absurd z (by decide)).out hst
  · have e := asN_same (A := as0 R'.img R'.desc) (a := n) (b := 5) (by rw [← g.1]; exact hst) (by rw [q1]; decide)
    rw [g.1, g.2.2, e]
    exact ⟨q1, q2, q3⟩
  · have := g.2.1
    rw [hz] at this
    exact absurd this (by decide)
end Go.Proofs.Qxb6500749a
