import Derived.Test.Qxb6500750aDoorMly
namespace Go.Proofs.Qxb6500750aDoor
open Go.RowKit
attribute [local go_sem] put_size put_cell_same put_cell_ne put_frozen_same put_frozen_ne put_setCell_same put_setCell_ne put_drew
attribute [local go_sem] drewN_setCell drewN_alloc drewN_put
/-- A link and the machine's target beside it, as their readers show them. -/
structure LinkOK (W : World) (mb k pb : Nat) (q : PS) (a : Option Addr) (cap : Nat) (av : Value) : Prop where
  len : q.atts.length < 1000000000
  atts : Sl W (.slice a q.atts.length cap) 59 7 q.atts.length (q.atts.flatMap attRow)
  acted : Sl W av 54 4 (acts q).length ((acts q).flatMap lreqRow)
  c16 : ∀ V, Below W.heap.size W V → Calls Tryd.prog 16 #[.pointer (some ⟨pb, 0, none⟩)] V fun e w' => e = .returned (.slice a q.atts.length cap) ∧ w' = V
  c18 : ∀ V, Below W.heap.size W V → Calls Tryd.prog 18 #[.pointer (some ⟨mb, 0, none⟩), .int .i64 (k : Nat)] V fun e w' => e = .returned av ∧ w' = V
  c19 : ∀ V, Below W.heap.size W V → ∀ x, Calls Tryd.prog 19 #[.pointer (some ⟨pb, 0, none⟩), .int .u32 x] V fun e w' => e = .returned (.int .u32 (q.mem x)) ∧ w' = V
  c20 : ∀ V, Below W.heap.size W V → ∀ x, Calls Tryd.prog 20 #[.pointer (some ⟨mb, 0, none⟩), .int .i64 (k : Nat), .int .u32 x] V fun e w' => e = .returned (.int .u32 (q.mem x)) ∧ w' = V
theorem acts_le (q : PS) : (acts q).length ≤ q.atts.length := by unfold acts; rw [List.length_map]; exact List.length_filter_le _ _
set_option maxRecDepth 100000 in
set_option maxHeartbeats 4000000 in
theorem lp3s {W w : World} {rg mb : Nat} (lv : Value) (p : Nat → PS) (pbs : Nat → Nat) (hix : ∀ k, k < 6 → ∀ w, (Instr.index 47 lv (.int .i64 (k : Nat))).run Tryd.prog w = .ok (.pointer (some ⟨pbs k, 0, none⟩)) w)
    (hLk : ∀ k, k < 6 → ∃ a cap av, LinkOK W mb k (pbs k) (p k) a cap av) (h0 : Below W.heap.size W w) (u0 : Nat → Value) (Q : Exit → Act → World → Prop)
    (hQ : ∀ u wr, Below W.heap.size W wr → Q (.exit 2) (fr3s rg mb lv 6 u) wr) (body : Code) (hbody : body = ((Tryd.f3.body.map loopsOf).getD []).getD 1 .skip) :
    (Code.loop body).wp Tryd.prog Q (fr3s rg mb lv 0 u0) w := by
  subst hbody
  conv => arg 2; arg 1; whnf
  refine wp_loop (fun act wr => ∃ (u : Nat → Value) (k : Nat), act = fr3s rg mb lv k u ∧ k ≤ 6 ∧ Hid (Below W.heap.size W wr)) (fun act _ => 6 - (intOf (act.tmps.getD 37 undef)).toNat) ?start ?round
  case start => exact ⟨u0, 0, rfl, by omega, h0⟩
  case round =>
    rintro a0 wr ⟨u, k, rfl, hk, hI⟩
    obtain ⟨KR, hKR⟩ : ∃ KR : Act → World → Prop, KR = fun a' w' => ((fun act wr => ∃ (u : Nat → Value) (k : Nat), act = fr3s rg mb lv k u ∧ k ≤ 6 ∧ Hid (Below W.heap.size W wr)) a' w' ∧ 6 - (intOf (a'.tmps.getD 37 undef)).toNat < 6 - (intOf ((fr3s rg mb lv k u).tmps.getD 37 undef)).toNat) := ⟨_, rfl⟩
    have HKR : Hid (∀ (act : Act) (w' : World), act = fr3s rg mb lv (k + 1) (fun i => act.tmps.getD i undef) → k < 6 → Below W.heap.size W w' → KR act w') := fun act w' e hjl hl => by
      rw [hKR]
      refine ⟨⟨_, k + 1, e, hjl, hl⟩, ?_⟩
      have e1 : act.tmps.getD 37 undef = .int .i64 ((k + 1 : Nat) : Int) := by rw [e]; rfl
      have e2 : (fr3s rg mb lv k u).tmps.getD 37 undef = .int .i64 ((k : Nat) : Int) := rfl
      simp only [e1, e2, intOf]
      omega
    rw [← hKR]
    clear hKR
    have HQ := hid_of hQ
    have hadd : IntKind.i64.wrap (((k : Nat) : Int) + 1) = (k : Nat) + 1 := by simp [IntKind.wrap, IntKind.bits, IntKind.signed]; omega
    by_cases hk6 : k < 6
    · have hki : ((k : Nat) : Int) < 6 := by omega
      obtain ⟨a, cap, av, hL⟩ := hLk k hk6
      have hixk := hix k hk6
      have HL := hid_of hL
      clear hQ h0 hLk hix hL
      obtain ⟨pb, hpb⟩ : ∃ pb, pbs k = pb := ⟨_, rfl⟩
      obtain ⟨q, hq⟩ : ∃ q, p k = q := ⟨_, rfl⟩
      rw [hpb, hq] at HL
      rw [hpb] at hixk
      obtain ⟨L, hLe⟩ : ∃ L, q.atts.length = L := ⟨_, rfl⟩
      have h16 := HL.out.c16
      rw [hLe] at h16
      have H16 := hid_of (h16 wr hI.out)
      have HLE := hid_of hLe
      have hL9 := HL.out.len
      rw [hLe] at hL9
      clear h16 hpb hq hLe
      unfold fr3s
      go_wp2_with fail
      refine H16.out.mono ?_
      rintro e w1 ⟨rfl, rfl⟩
      clear H16
      go_wp2_with fail
      have hA3 : A3 W q 0 (.slice none 0 0) w1 := ⟨hI.out, Sl.nil _ _ _, fun k hk => by cases hk⟩
      have hAt : Sl W (.slice a L cap) 59 7 L (q.atts.flatMap attRow) := by have := HL.out.atts; rw [HLE.out] at this; exact this
      refine q_of (Q := fun a => (Code.loop _).wp Tryd.prog _ a _) (F := fr3a rg mb lv k pb (.slice none 0 0) a L cap 0) (fun u => lp3a lv q a L cap HLE.out hAt hL9 hA3 u _ ?_ _ (by kernel_rfl)) _ (by kernel_rfl)
      clear hA3 hAt
      intro u2 v w2 hA2
      obtain ⟨hB2, hS2, _⟩ := hA2
      have hS2' : Sl w2 v 54 4 (acts q).length ((acts q).flatMap lreqRow) := by rw [← actsN_full, HLE.out]; exact hS2
      have hAv : Sl w2 av 54 4 (acts q).length ((acts q).flatMap lreqRow) := HL.out.acted.same fun k hk => hB2.block k (HL.out.acted.lt k hk)
      have hacl := acts_le q
      rw [HLE.out] at hacl
      have H18 := hid_of (HL.out.c18 w2 hB2)
      have H17 := hid_of (sleq_yes v av (acts q) w2 hS2' hAv (by omega))
      have HS2 := hid_of hS2'
      have HB2 := hid_of hB2
      obtain ⟨n, hn⟩ : ∃ n, (acts q).length = n := ⟨_, rfl⟩
      have HNN := hid_of hn
      rw [hn] at hacl
      obtain ⟨ad, cp, hv⟩ := hS2'.form'
      rw [hn] at hv
      clear hS2 hS2' hAv hB2 hn
      subst hv
      unfold fr3e
      go_wp2_with fail
      refine H18.out.mono ?_
      rintro e w3 ⟨rfl, rfl⟩
      clear H18
      go_wp2_with fail
      refine H17.out.mono ?_
      rintro e w4 ⟨rfl, nq, rfl⟩
      clear H17
      go_wp2_with fail
      have hX3 : X3 W (.slice ad n cp) (acts q) (w3.drewN nq) := ⟨below_drewN' HB2.out, HS2.out⟩
      refine q_of (Q := fun a => (Code.loop _).wp Tryd.prog _ a _) (F := fr3w rg mb lv k pb (.slice ad n cp) n 0) (fun u => lp3w lv (.slice ad n cp) (acts q) n HNN.out (by omega) q.mem HL.out.c19 HL.out.c20 hX3 u _ ?_ _ (by kernel_rfl)) _ (by kernel_rfl)
      intro u5 w5 hX5
      have HB5 := hid_of hX5.1
      clear hX5 hX3 HB2 HS2
      unfold fr3s
      go_wp2_with fail
      exact HKR.out _ _ (by kernel_rfl) hk6 HB5.out
    · have hki : ¬ ((k : Nat) : Int) < 6 := by omega
      have HE : k = 6 := by omega
      subst HE
      clear hQ h0 hLk hix
      unfold fr3s
      go_wp2_with fail
      exact q_of (Q := fun a => Q (.exit 2) a wr) (F := fr3s rg mb lv 6) (fun u => HQ.out u wr hI.out) _ (by kernel_rfl)
end Go.Proofs.Qxb6500750aDoor
