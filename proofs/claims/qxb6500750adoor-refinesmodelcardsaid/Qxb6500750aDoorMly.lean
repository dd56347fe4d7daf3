import Derived.Test.Qxb6500750aDoorMlx
namespace Go.Proofs.Qxb6500750aDoor
open Go.RowKit
attribute [local go_sem] put_size put_cell_same put_cell_ne put_frozen_same put_frozen_ne put_setCell_same put_setCell_ne put_drew
attribute [local go_sem] drewN_setCell drewN_alloc drewN_put
def X3 (W : World) (v : Value) (rs : List LReq) (wr : World) : Prop := Below W.heap.size W wr ∧ Sl wr v 54 4 rs.length (rs.flatMap lreqRow)
set_option maxRecDepth 100000 in
set_option maxHeartbeats 4000000 in
theorem lp3w {W w : World} {rg mb k pb : Nat} (lv v : Value) (rs : List LReq) (n : Nat) (hn : rs.length = n) (hn9 : n < 1000000000) (mem : Int → Int)
    (hW19 : ∀ V, Below W.heap.size W V → ∀ a, Calls Tryd.prog 19 #[.pointer (some ⟨pb, 0, none⟩), .int .u32 a] V fun e w' => e = .returned (.int .u32 (mem a)) ∧ w' = V)
    (hW20 : ∀ V, Below W.heap.size W V → ∀ a, Calls Tryd.prog 20 #[.pointer (some ⟨mb, 0, none⟩), .int .i64 (k : Nat), .int .u32 a] V fun e w' => e = .returned (.int .u32 (mem a)) ∧ w' = V)
    (h0 : X3 W v rs w) (u0 : Nat → Value) (Q : Exit → Act → World → Prop)
    (hQ : ∀ u wr, X3 W v rs wr → Q (.exit 6) (fr3s rg mb lv k u) wr) (body : Code) (hbody : body = (loopsOf (((Tryd.f3.body.map loopsOf).getD []).getD 1 .skip)).getD 1 .skip) :
    (Code.loop body).wp Tryd.prog Q (fr3w rg mb lv k pb v n 0 u0) w := by
  subst hbody
  conv => arg 2; arg 1; whnf
  refine wp_loop (fun act wr => ∃ (u : Nat → Value) (j : Nat), act = fr3w rg mb lv k pb v n j u ∧ j ≤ n ∧ Hid (X3 W v rs wr)) (fun act _ => n - (intOf (act.tmps.getD 64 undef)).toNat) ?start ?round
  case start => exact ⟨u0, 0, rfl, by omega, h0⟩
  case round =>
    rintro a0 wr ⟨u, j, rfl, hj, hI⟩
    obtain ⟨KR, hKR⟩ : ∃ KR : Act → World → Prop, KR = fun a' w' => ((fun act wr => ∃ (u : Nat → Value) (j : Nat), act = fr3w rg mb lv k pb v n j u ∧ j ≤ n ∧ Hid (X3 W v rs wr)) a' w' ∧ n - (intOf (a'.tmps.getD 64 undef)).toNat < n - (intOf ((fr3w rg mb lv k pb v n j u).tmps.getD 64 undef)).toNat) := ⟨_, rfl⟩
    have HKR : Hid (∀ (act : Act) (w' : World), act = fr3w rg mb lv k pb v n (j + 1) (fun i => act.tmps.getD i undef) → j < n → X3 W v rs w' → KR act w') := fun act w' e hjl hl => by
      rw [hKR]
      refine ⟨⟨_, j + 1, e, hjl, hl⟩, ?_⟩
      have e1 : act.tmps.getD 64 undef = .int .i64 ((j + 1 : Nat) : Int) := by rw [e]; rfl
      have e2 : (fr3w rg mb lv k pb v n j u).tmps.getD 64 undef = .int .i64 ((j : Nat) : Int) := rfl
      simp only [e1, e2, intOf]
      omega
    rw [← hKR]
    clear hKR
    have HQ := hid_of hQ
    have hadd : IntKind.i64.wrap (((j : Nat) : Int) + 1) = (j : Nat) + 1 := by simp [IntKind.wrap, IntKind.bits, IntKind.signed]; omega
    by_cases hjn : j < n
    · have hji : ((j : Nat) : Int) < (n : Nat) := by omega
      obtain ⟨hBel, hSl⟩ := hI.out
      obtain ⟨b, off, cap', e1, _, hbl⟩ := hSl.form (by omega)
      obtain ⟨r, hr⟩ : ∃ r, rs[j]? = some r := ⟨_, List.getElem?_eq_getElem (by omega)⟩
      obtain ⟨z0, z1, z2, z3⟩ := hSl.req e1 hr
      rw [hn] at e1
      subst e1
      obtain ⟨W1, hW1⟩ : ∃ W1, wr.alloc (.cells #[.int .u8 r.id, .bool r.w, .int .u32 r.ad, .int .u32 r.da] 54) = W1 := ⟨_, rfl⟩
      have hb1 : Blk W1 wr.heap.size #[.int .u8 r.id, .bool r.w, .int .u32 r.ad, .int .u32 r.da] 54 := by rw [← hW1]; exact Blk.new _ _ _
      have hBel1 : Below W.heap.size W W1 := by rw [← hW1]; exact hBel.alloc hBel.size _
      have hSl1 : Sl W1 (.slice (some ⟨b, off, none⟩) n cap') 54 4 rs.length (rs.flatMap lreqRow) := by rw [← hW1]; exact hSl.same fun k hk => Below.heap_alloc _ _ k (hSl.lt k hk)
      have y2 : W1.cell? ⟨wr.heap.size, 2, none⟩ = some (.int .u32 r.ad) := hb1.cell 2
      have H19 : Hid (∀ q, Calls Tryd.prog 19 #[.pointer (some ⟨pb, 0, none⟩), .int .u32 r.ad] (W1.drewN q) fun e w' => e = .returned (.int .u32 (mem r.ad)) ∧ w' = W1.drewN q) := fun q => hW19 _ (below_drewN' hBel1) r.ad
      have H20 : Hid (∀ q, Calls Tryd.prog 20 #[.pointer (some ⟨mb, 0, none⟩), .int .i64 (k : Nat), .int .u32 r.ad] (W1.drewN q) fun e w' => e = .returned (.int .u32 (mem r.ad)) ∧ w' = W1.drewN q) := fun q => hW20 _ (below_drewN' hBel1) r.ad
      have HF : Hid (∀ q, X3 W (.slice (some ⟨b, off, none⟩) n cap') rs (W1.drewN q)) := fun q => ⟨below_drewN' hBel1, hSl1⟩
      clear hQ h0 hI hBel hSl hW19 hW20 hb1 hBel1 hSl1 hr hn
      unfold fr3w
      go_upto_region 25 with fail
      clear hW1 z0 z1 z2 z3
      go_quiet ((first | (go_at_call 19; refine (H19.out _).mono ?_; rintro e w5 ⟨rfl, rfl⟩; exact ⟨rfl, _, rfl⟩) | (go_at_call 20; refine (H20.out _).mono ?_; rintro e w5 ⟨rfl, rfl⟩; exact ⟨rfl, _, rfl⟩)))
      go_wp2_with fail
      exact HKR.out _ _ (by kernel_rfl) hjn (HF.out _)
    · have hji : ¬ ((j : Nat) : Int) < (n : Nat) := by omega
      clear hQ h0 hW19 hW20
      unfold fr3w
      go_wp2_with fail
      exact q_of (Q := fun a => Q (.exit 6) a wr) (F := fr3s rg mb lv k) (fun u => HQ.out u wr hI.out) _ (by kernel_rfl)
end Go.Proofs.Qxb6500750aDoor
