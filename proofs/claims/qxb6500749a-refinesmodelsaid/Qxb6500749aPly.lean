import Derived.Test.Qxb6500749aStp
namespace Go.Proofs.Qxb6500749a
open Go.RowKit
attribute [local go_sem] put_size put_cell_same put_cell_ne put_frozen_same put_frozen_ne put_setCell_same put_setCell_ne put_drew
attribute [local go_sem] drewN_setCell drewN_alloc drewN_put
/-! ### A whole script played -/
/-- The slice (a, n, ..) reads as the script s. -/
def Scr (w : World) (a : Option Addr) (n : Nat) (s : Nat → OpD) : Prop :=
  (∀ k, k < n → (s k).Ok) ∧ (0 < n → ∃ b off, a = some ⟨b, off, none⟩ ∧ b < w.heap.size ∧ ∀ k, k < n → ∀ j, j < 6 → w.cell? ⟨b, off + k * 6 + j, none⟩ = (opV (s k))[j]?)
theorem Scr.below {w w' : World} {a : Option Addr} {n : Nat} {s : Nat → OpD} (h : Scr w a n s) (k : Below w.heap.size w w') : Scr w' a n s := by
  refine ⟨h.1, fun hn => ?_⟩
  obtain ⟨b, off, e, hb, hc⟩ := h.2 hn
  exact ⟨b, off, e, Nat.lt_of_lt_of_le hb k.size, fun i hi j hj => (k.cell hb).trans (hc i hi j hj)⟩
def fd0 : FD := ⟨0, 0, 0, 0, 0⟩
theorem fd0_ok : fd0.Ok := ⟨by decide, by decide, by decide, by decide, by decide⟩
def rg0 (kc ko : Bool) : RG := ⟨[], fun _ => 0, bus0, bus0, false, false, fd0, fd0, kc, ko, false, 0, false, bd0 [], rep0, dd0, bd0 [], []⟩
theorem bus0_bok (N : Nat) : BOk N bus0 := ⟨bus0_ok.lat, bus0_ok.llen, bus0_ok.left, bus0_ok.busy, bus0_ok.mem, Nat.zero_le _, fun t ht => absurd ht (by simp [bus0])⟩
theorem rg0_ok (kc ko : Bool) : ROk (rg0 kc ko) :=
  ⟨Nat.zero_le _, fun x hx => absurd hx (by simp [rg0]), bus0_bok _, bus0_bok _, fd0_ok, fd0_ok, w32_zero, fun q => Bool.noConfusion (show false = true from q), fun q => Bool.noConfusion (show false = true from q), fun q => Bool.noConfusion (show false = true from q), fun _ => rfl⟩
def plyN (s : Nat → OpD) (kc ko : Bool) : Nat → RG
  | 0 => rg0 kc ko
  | k + 1 => stpR (plyN s kc ko k) (s k)
theorem plyN_ok (s : Nat → OpD) (kc ko : Bool) : ∀ n : Nat, (∀ k, k < n → (s k).Ok) → ROk (plyN s kc ko n) ∧ (plyN s kc ko n).reps.length ≤ 400 * n
  | 0, _ => ⟨rg0_ok kc ko, Nat.zero_le _⟩
  | n + 1, h => by
    have ih := plyN_ok s kc ko n fun k hk => h k (by omega)
    have := ih.1.stp (s n) (h n (by omega))
    refine ⟨this.1, ?_⟩
    show (stpR (plyN s kc ko n) (s n)).reps.length ≤ _
    omega
def ly0 (N : Nat) : LY := ⟨N + 5, N, N + 2, N + 1, N + 4, N + 3, 0, 0, 0, 0, 0, 0, .slice none 0 0, .slice none 0 0, .slice none 0 0, .slice none 0 0, .slice none 0 0, .slice none 0 0, .slice none 0 0⟩
def own0 (N : Nat) : Nat → Nat := fun k => if k < N then 50 else if k = N then 8 else if k = N + 1 then 3 else if k = N + 2 then 2 else if k = N + 3 then 16 else if k = N + 4 then 15 else if k = N + 5 then 6 else 50
theorem o_img (N : Nat) : own0 N N = 8 := by unfold own0; rw [if_neg (by omega), if_pos rfl]
theorem o_mbP (N : Nat) : own0 N (N + 1) = 3 := by unfold own0; rw [if_neg (by omega), if_neg (by omega), if_pos rfl]
theorem o_ubP (N : Nat) : own0 N (N + 2) = 2 := by unfold own0; rw [if_neg (by omega), if_neg (by omega), if_neg (by omega), if_pos rfl]
theorem o_mbD (N : Nat) : own0 N (N + 3) = 16 := by unfold own0; rw [if_neg (by omega), if_neg (by omega), if_neg (by omega), if_neg (by omega), if_pos rfl]
theorem o_ubD (N : Nat) : own0 N (N + 4) = 15 := by unfold own0; rw [if_neg (by omega), if_neg (by omega), if_neg (by omega), if_neg (by omega), if_neg (by omega), if_pos rfl]
theorem o_rg (N : Nat) : own0 N (N + 5) = 6 := by unfold own0; rw [if_neg (by omega), if_neg (by omega), if_neg (by omega), if_neg (by omega), if_neg (by omega), if_neg (by omega), if_pos rfl]
def wNew (w : World) : World := (w.alloc (.map #[] 0)).alloc (.cells (ubV w.heap.size (.slice none 0 0) (.slice none 0 0) false 0) 79)
theorem wNew_size (w : World) : (wNew w).heap.size = w.heap.size + 2 := by unfold wNew; rw [size_alloc', size_alloc']
theorem wNew_below (w : World) : Below w.heap.size w (wNew w) := ((Below.refl _ _).alloc (Nat.le_refl _) _).alloc (by simp) _
theorem bnew' (w : World) : Calls Try.prog 35 #[] w fun e w' => e = .returned (.pointer (some ⟨w.heap.size + 1, 0, none⟩)) ∧ w' = wNew w := bnew_any w
theorem rr_new (w : World) (kc ko : Bool) : RR (own0 w.heap.size) ((wNew (wNew (w.alloc (.map #[] 0)))).alloc (.cells (rigV (ly0 w.heap.size) (rg0 kc ko)) 38)) (ly0 w.heap.size) (rg0 kc ko) ∧ Below w.heap.size w ((wNew (wNew (w.alloc (.map #[] 0)))).alloc (.cells (rigV (ly0 w.heap.size) (rg0 kc ko)) 38)) := by
  have s1 : (w.alloc (.map #[] 0)).heap.size = w.heap.size + 1 := size_alloc' _ _
  have s2 : (wNew (w.alloc (.map #[] 0))).heap.size = w.heap.size + 3 := by rw [wNew_size, s1]
  have s3 : (wNew (wNew (w.alloc (.map #[] 0)))).heap.size = w.heap.size + 5 := by rw [wNew_size, s2]
  have b1 : Below w.heap.size w (w.alloc (.map #[] 0)) := (Below.refl _ _).alloc (Nat.le_refl _) _
  have b2 := wNew_below (w.alloc (.map #[] 0))
  have b3 := wNew_below (wNew (w.alloc (.map #[] 0)))
  have b4 : Below (wNew (wNew (w.alloc (.map #[] 0)))).heap.size (wNew (wNew (w.alloc (.map #[] 0)))) ((wNew (wNew (w.alloc (.map #[] 0)))).alloc (.cells (rigV (ly0 w.heap.size) (rg0 kc ko)) 38)) := (Below.refl _ _).alloc (Nat.le_refl _) _
  have u1 : UB (wNew (w.alloc (.map #[] 0))) (w.heap.size + 2) (w.heap.size + 1) (.slice none 0 0) (.slice none 0 0) bus0 := by
    have k : UB (wNew (w.alloc (.map #[] 0))) ((w.alloc (.map #[] 0)).heap.size + 1) (w.alloc (.map #[] 0)).heap.size (.slice none 0 0) (.slice none 0 0) bus0 := ub_new (w.alloc (.map #[] 0))
    rw [s1] at k; exact k
  have u2 : UB (wNew (wNew (w.alloc (.map #[] 0)))) (w.heap.size + 4) (w.heap.size + 3) (.slice none 0 0) (.slice none 0 0) bus0 := by
    have k : UB (wNew (wNew (w.alloc (.map #[] 0)))) ((wNew (w.alloc (.map #[] 0))).heap.size + 1) (wNew (w.alloc (.map #[] 0))).heap.size (.slice none 0 0) (.slice none 0 0) bus0 := ub_new (wNew (w.alloc (.map #[] 0)))
    rw [s2] at k; exact k
  have m1 : MapB (w.alloc (.map #[] 0)) w.heap.size (fun _ => 0) := ⟨#[], 0, heap_alloc_new w _, by intro e he; simp at he, Uq.nil 0, fun a => rfl⟩
  have bb3 := b3.trans (b4.mono b3.size)
  have bb2 := b2.trans (bb3.mono b2.size)
  have no : ∀ k, (Value.slice none 0 0).ownBlock ≠ some k := fun k e => by cases e
  have hg := Blk.new (wNew (wNew (w.alloc (.map #[] 0)))) (rigV (ly0 w.heap.size) (rg0 kc ko)) 38
  rw [s3] at hg
  refine ⟨⟨⟨hg, ?_⟩, ⟨Sl.nil _ _ _, fun k e => absurd e (no k)⟩, ⟨m1.same (bb2.block _ (by rw [s1]; omega)), ?_⟩, ⟨Sl.nil _ _ _, fun k e => absurd e (no k)⟩, ⟨u1.below bb3, ?_, ?_, fun k e => absurd e (no k), fun k e => absurd e (no k)⟩, ⟨u2.below b4, ?_, ?_, fun k e => absurd e (no k), fun k e => absurd e (no k)⟩,
    fun q => Bool.noConfusion (show false = true from q), fun q => Bool.noConfusion (show false = true from q), fun q => Bool.noConfusion (show false = true from q), fun q => Bool.noConfusion (show false = true from q)⟩, b1.trans (bb2.mono b1.size)⟩
  · exact o_rg _
  · exact o_img _
  · exact o_ubP _
  · exact o_mbP _
  · exact o_ubD _
  · exact o_mbD _
def fr12 (a : Option Addr) (n cap : Nat) (kc ko : Bool) (rg j : Nat) (u : Nat → Value) : Act :=
  { tmps := ((.slice a n cap) :: (.bool kc) :: (.bool ko) :: (u 3) :: (u 4) :: (u 5) :: (u 6) :: (.pointer (some ⟨rg, 0, none⟩)) :: (u 8) :: (u 9) :: (u 10) :: (u 11) :: (u 12) :: (u 13) :: (u 14) :: (u 15) :: (u 16) :: (.slice a n cap) :: (.int .i64 (n : Nat)) :: (.int .i64 (j : Nat)) :: (u 20) :: (u 21) :: (u 22) :: (u 23) :: (u 24) :: (u 25) :: (u 26) :: (u 27) :: [] : List Value).toArray, defers := [] }
set_option maxRecDepth 100000 in
set_option maxHeartbeats 4000000 in
theorem play_any (a : Option Addr) (n cap : Nat) (s : Nat → OpD) (hn : n ≤ 65536) (kc ko : Bool) (w : World) (hs : Scr w a n s) :
    Calls Try.prog 12 #[.slice a n cap, .bool kc, .bool ko] w fun e w' => e = .returned (.pointer (some ⟨w.heap.size + 5, 0, none⟩)) ∧ ∃ own L, RR own w' L (plyN s kc ko n) ∧ Below w.heap.size w w' ∧ (∀ k, k < w.heap.size → own k = 50) ∧ L.rg = w.heap.size + 5 := by
  have HS := hid_of hs
  have HOKS := hid_of (fun k hk => plyN_ok s kc ko k fun i hi => hs.1 i (Nat.lt_of_lt_of_le hi hk : i < n))
  have HN := hid_of hn
  clear hs hn
  have hb1 := hid_of (bnew' (w.alloc (.map #[] 0)))
  have hb2 := hid_of (bnew' (wNew (w.alloc (.map #[] 0))))
  have HNEW := hid_of (rr_new w kc ko)
  have s1 : (w.alloc (.map #[] 0)).heap.size = w.heap.size + 1 := size_alloc' _ _
  have s2 : (wNew (w.alloc (.map #[] 0))).heap.size = w.heap.size + 3 := by rw [wNew_size, s1]
  have s3 : (wNew (wNew (w.alloc (.map #[] 0)))).heap.size = w.heap.size + 5 := by rw [wNew_size, s2]
  rw [s1] at hb1
  rw [s2] at hb2
  clear s1 s2
  go_enter Try.func12, Try.ntmps12
  go_wp2_with ((with_reducible show wpList _ _ _ ({ dst := _, op := Op.makeMap 28 none, type := _, pos := _, after := _, guard := _ } :: _) _ _); refine wpList_makeMapF (by rfl) 28 (by rfl) ?_; intro V n1 hV hn1; subst hV; subst hn1)
  refine hb1.out.mono ?_
  rintro e w1 ⟨rfl, hw1⟩
  subst hw1
  clear hb1
  go_wp2_with fail
  refine hb2.out.mono ?_
  rintro e w2 ⟨rfl, hw2⟩
  subst hw2
  clear hb2
  obtain ⟨W0, hW0⟩ : ∃ W0, wNew (wNew (w.alloc (.map #[] 0))) = W0 := ⟨_, rfl⟩
  rw [hW0] at s3 HNEW ⊢
  clear hW0
  go_wp2_with fail
  refine q_of (Q := fun a => (Code.loop _).wp Try.prog _ a _) (F := fr12 a n cap kc ko (w.heap.size + 5) 0) (fun u0 => ?_) _ (by kernel_rfl)
  have HB0 : Hid (RR (own0 w.heap.size) (W0.alloc (.cells (rigV (ly0 w.heap.size) (rg0 kc ko)) 38)) (ly0 w.heap.size) (rg0 kc ko) ∧ Below w.heap.size w (W0.alloc (.cells (rigV (ly0 w.heap.size) (rg0 kc ko)) 38)) ∧ (∀ k, k < w.heap.size → own0 w.heap.size k = 50) ∧ (ly0 w.heap.size).rg = w.heap.size + 5) := ⟨HNEW.out.1, HNEW.out.2, fun k hk => if_pos hk, rfl⟩
  refine wp_loop (fun act wr => ∃ (u : Nat → Value) (j : Nat) (own : Nat → Nat) (L : LY), act = fr12 a n cap kc ko (w.heap.size + 5) j u ∧ j ≤ n ∧ Hid (RR own wr L (plyN s kc ko j) ∧ Below w.heap.size w wr ∧ (∀ k, k < w.heap.size → own k = 50) ∧ L.rg = w.heap.size + 5)) (fun act _ => n - (intOf (act.tmps.getD 19 undef)).toNat) ⟨u0, 0, own0 w.heap.size, ly0 w.heap.size, rfl, Nat.zero_le _, HB0⟩ ?_
  clear HB0 HNEW s3 W0
  rintro act wr ⟨u, j, own, L, rfl, hj, HR⟩
  by_cases hjn : j < n
  · have hji : ((j : Nat) : Int) < (n : Nat) := by omega
    have hadd : IntKind.i64.wrap (((j : Nat) : Int) + 1) = (j : Nat) + 1 := by have := HN.out; simp [IntKind.wrap, IntKind.bits, IntKind.signed]; omega
    obtain ⟨b, off, ea, hb, hcl⟩ := HS.out.2 (by omega)
    have ho := HS.out.1 j hjn
    have hcj := hcl j hjn
    have hsj : plyN s kc ko (j + 1) = stpR (plyN s kc ko j) (s j) := rfl
    have hok := HOKS.out j (by omega)
    generalize s j = o at *
    subst ea
    have z : ∀ i, i < 6 → wr.cell? ⟨b, off + j * 6 + i, none⟩ = (opV o)[i]? := fun i hi => (HR.out.2.1.cell hb).trans (hcj i hi)
    have z0 : wr.cell? ⟨b, off + j * 6, none⟩ = some (.int .u8 o.k) := z 0 (by decide)
    have z1 : wr.cell? ⟨b, off + j * 6 + 1, none⟩ = some (.int .u32 o.a) := z 1 (by decide)
    have z2 : wr.cell? ⟨b, off + j * 6 + 2, none⟩ = some (.int .u32 o.b) := z 2 (by decide)
    have z3 : wr.cell? ⟨b, off + j * 6 + 3, none⟩ = some (.int .u32 o.c) := z 3 (by decide)
    have z4 : wr.cell? ⟨b, off + j * 6 + 4, none⟩ = some (.int .u32 o.d) := z 4 (by decide)
    have z5 : wr.cell? ⟨b, off + j * 6 + 5, none⟩ = some (.int .u32 o.e) := z 5 (by decide)
    obtain ⟨W, hW⟩ : ∃ W, wr.alloc (.cells #[.int .u8 o.k, .int .u32 o.a, .int .u32 o.b, .int .u32 o.c, .int .u32 o.d, .int .u32 o.e] 73) = W := ⟨_, rfl⟩
    have hbe : Below wr.heap.size wr W := by rw [← hW]; exact (Below.refl _ _).alloc (Nat.le_refl _) _
    have hop : Blk W wr.heap.size #[.int .u8 o.k, .int .u32 o.a, .int .u32 o.b, .int .u32 o.c, .int .u32 o.d, .int .u32 o.e] 73 := by rw [← hW]; exact Blk.new _ _ _
    have HST := hid_of (rstep_any own L (plyN s kc ko j) hok.1 (by have := hok.2; have := HN.out; omega) o ho W (HR.out.1.below hbe))
    rw [HR.out.2.2.2] at HST
    unfold opV at HST
    have q0 : W.cell? ⟨wr.heap.size, 0, none⟩ = some (.int .u8 o.k) := hop.cell 0
    have q1 : W.cell? ⟨wr.heap.size, 1, none⟩ = some (.int .u32 o.a) := hop.cell 1
    have q2 : W.cell? ⟨wr.heap.size, 2, none⟩ = some (.int .u32 o.b) := hop.cell 2
    have q3 : W.cell? ⟨wr.heap.size, 3, none⟩ = some (.int .u32 o.c) := hop.cell 3
    have q4 : W.cell? ⟨wr.heap.size, 4, none⟩ = some (.int .u32 o.d) := hop.cell 4
    have q5 : W.cell? ⟨wr.heap.size, 5, none⟩ = some (.int .u32 o.e) := hop.cell 5
    have HBE := hid_of hbe
    obtain ⟨KR, hKR⟩ : ∃ KR : Act → World → Prop, KR = fun a' w' => ((fun act wr => ∃ (u : Nat → Value) (j : Nat) (own : Nat → Nat) (L : LY), act = fr12 (some ⟨b, off, none⟩) n cap kc ko (w.heap.size + 5) j u ∧ j ≤ n ∧ Hid (RR own wr L (plyN s kc ko j) ∧ Below w.heap.size w wr ∧ (∀ k, k < w.heap.size → own k = 50) ∧ L.rg = w.heap.size + 5)) a' w' ∧ n - (intOf (a'.tmps.getD 19 undef)).toNat < n - (intOf ((fr12 (some ⟨b, off, none⟩) n cap kc ko (w.heap.size + 5) j u).tmps.getD 19 undef)).toNat) := ⟨_, rfl⟩
    have HKR : Hid (∀ (act : Act) (w' : World) (own2 : Nat → Nat) (L2 : LY), act = fr12 (some ⟨b, off, none⟩) n cap kc ko (w.heap.size + 5) (j + 1) (fun i => act.tmps.getD i undef) → RR own2 w' L2 (stpR (plyN s kc ko j) o) → Ext own own2 (fun k => k ≤ 18) W w' → L2.rg = w.heap.size + 5 → KR act w') := fun act w' own2 L2 e h1 h2 h3 => by
      rw [hKR]
      have hx : Ext own own2 (fun k => k ≤ 18) wr w' := (Ext.of_below HBE.out).trans h2
      have hsz := HR.out.2.1.size
      refine ⟨⟨_, j + 1, own2, L2, e, hjn, by rw [hsj]; exact h1, ⟨hx.os.trans HR.out.2.1.os, hx.tape.trans HR.out.2.1.tape, hx.output.trans HR.out.2.1.output, Nat.le_trans hsz hx.size, fun k hk => ?_⟩, fun k hk => ?_, h3⟩, ?_⟩
      · rw [hx.block k (by omega) (by rw [HR.out.2.2.1 k hk]; decide)]
        exact HR.out.2.1.block k hk
      · rw [hx.keep k (by omega)]; exact HR.out.2.2.1 k hk
      · have e1 : act.tmps.getD 19 undef = .int .i64 ((j + 1 : Nat) : Int) := by rw [e]; rfl
        have e2 : (fr12 (some ⟨b, off, none⟩) n cap kc ko (w.heap.size + 5) j u).tmps.getD 19 undef = .int .i64 ((j : Nat) : Int) := rfl
        simp only [e1, e2, intOf]
        omega
    rw [← hKR]
    clear hKR hsj hok ho hcj hcl z hbe hop HR
    unfold fr12
    go_upto_region 5 with fail
    clear hW z0 z1 z2 z3 z4 z5
    refine wp_region_list ?_
    go_wp2_with fail
    refine HST.out.mono ?_
    rintro e w2 ⟨⟨z, rfl⟩, own2, L2, h1, h2, h3⟩
    have H1 := hid_of h1
    have H2 := hid_of h2
    have H3 := hid_of h3
    clear HST h1 h2 h3 q0 q1 q2 q3 q4 q5
    go_wp2_with fail
    exact HKR.out _ _ _ _ (by kernel_rfl) H1.out H2.out H3.out
  · have hji : ¬ ((j : Nat) : Int) < (n : Nat) := by omega
    have HJ : Hid (j = n) := by unfold Hid; omega
    unfold fr12
    go_wp2_with fail
    go_ret
    refine ⟨rfl, own, L, ?_, HR.out.2.1, HR.out.2.2.1, HR.out.2.2.2⟩
    have := HR.out.1
    rw [HJ.out] at this
    exact this
end Go.Proofs.Qxb6500749a
