import Derived.Test.Qxb6500749aBnk
namespace Go.Proofs.Qxb6500749a
open Go.RowKit
attribute [local go_sem] put_size put_cell_same put_cell_ne put_frozen_same put_frozen_ne put_setCell_same put_setCell_ne put_drew
attribute [local go_sem] drewN_setCell drewN_alloc drewN_put
/-! ### Wires -/
def wV (f : FD) (v : Int) : Int :=
  if f.kind = 0 then bits BinOp.xor IntKind.u32 v (2 ^ f.bit) else if f.kind = 1 then bits BinOp.andNot IntKind.u32 v (2 ^ f.bit) else if f.kind = 2 then bits BinOp.or IntKind.u32 v (2 ^ f.bit) else v
def wireF (now : Int) (site : Nat) (fs : List FD) (v : Int) : Int := fs.foldl (fun v f => if actF now site f = true then wV f v else v) v
theorem wireF_succ (now : Int) (site : Nat) (fs : List FD) (v : Int) (j : Nat) (f : FD) (h : fs[j]? = some f) : wireF now site (fs.take (j + 1)) v = if actF now site f = true then wV f (wireF now site (fs.take j) v) else wireF now site (fs.take j) v := by
  unfold wireF
  rw [List.take_add_one, h]
  simp only [Option.toList, List.foldl_append, List.foldl_cons, List.foldl_nil]
theorem frow_get (fs : List FD) : ∀ (j : Nat) (f : FD), fs[j]? = some f → ∀ i, i < 5 → (fs.flatMap frow)[j * 5 + i]? = (fV f)[i]? := by
  induction fs with
  | nil => intro j r h; simp at h
  | cons y fs ih =>
    intro j x h i hi
    rw [List.flatMap_cons]
    cases j with
    | zero =>
      simp at h
      subst h
      rw [List.getElem?_append_left (by simp [frow]; omega)]
      obtain rfl | rfl | rfl | rfl | rfl : i = 0 ∨ i = 1 ∨ i = 2 ∨ i = 3 ∨ i = 4 := by omega
      all_goals rfl
    | succ j =>
      rw [List.getElem?_append_right (by simp [frow]; omega)]
      have := ih j x (by simpa using h) i hi
      rw [show (j + 1) * 5 + i - (frow y).length = j * 5 + i by simp [frow]; omega]
      exact this
theorem frow_len (fs : List FD) : (fs.flatMap frow).length = fs.length * 5 := by
  induction fs with
  | nil => rfl
  | cons x rs ih => rw [List.flatMap_cons, List.length_append, ih]; simp [frow]; omega
theorem Sl.fault {w : World} {v : Value} {n : Nat} {fs : List FD} (h : Sl w v 33 5 n (fs.flatMap frow)) {b off cap : Nat} (hv : v = .slice (some ⟨b, off, none⟩) n cap) {j : Nat} {x : FD} (hr : fs[j]? = some x) :
    ∀ i, i < 5 → w.cell? ⟨b, off + j * 5 + i, none⟩ = (fV x)[i]? := by
  have hj : j < fs.length := by
    rcases Nat.lt_or_ge j fs.length with h9 | h9
    · exact h9
    · rw [List.getElem?_eq_none h9] at hr; cases hr
  have hl := frow_len fs
  intro i hi
  have := (h.cell hv (j * 5 + i) (by rw [hl]; omega)).trans (frow_get fs j x hr i hi)
  rw [← Nat.add_assoc] at this
  exact this
/-- The faults and the clock of a bank, in the world. -/
structure FRep (w : World) (bb : Nat) (fv : Value) (fs : List FD) (now : Int) : Prop where
  cf : w.cell? ⟨bb, 1, none⟩ = some fv
  cn : w.cell? ⟨bb, 2, none⟩ = some (.int .u32 now)
  sl : Sl w fv 33 5 fs.length (fs.flatMap frow)
  ok : ∀ f ∈ fs, f.Ok
  len : fs.length ≤ 2
  now : 0 ≤ now ∧ now < 4294967296
theorem FRep.below {w w' : World} {bb : Nat} {fv : Value} {fs : List FD} {now : Int} (h : FRep w bb fv fs now) (hb : Below w.heap.size w w') : FRep w' bb fv fs now :=
  ⟨(hb.cell (World.block_lt_of_cell? _ _ h.cf)).trans h.cf, (hb.cell (World.block_lt_of_cell? _ _ h.cn)).trans h.cn, h.sl.same fun k hk => hb.block k (h.sl.lt k hk), h.ok, h.len, h.now⟩
def fr74 (bb site : Nat) (v : Int) (a : Option Addr) (n cap j : Nat) (u : Nat → Value) : Act :=
  { tmps := ((.pointer (some ⟨bb, 0, none⟩)) :: (.int .i64 (site : Nat)) :: (.int .u32 v) :: (u 3) :: (u 4) :: (u 5) :: (u 6) :: (u 7) :: (u 8) :: (u 9) :: (u 10) :: (u 11) :: (.slice a n cap) :: (.int .i64 (n : Nat)) :: (.int .i64 (j : Nat)) :: (u 15) :: (u 16) :: (u 17) :: (u 18) :: (u 19) :: (u 20) :: (u 21) :: (u 22) :: (u 23) :: (u 24) :: (u 25) :: (u 26) :: (u 27) :: (u 28) :: (u 29) :: (u 30) :: (u 31) :: (u 32) :: (u 33) :: (u 34) :: (u 35) :: (u 36) :: (u 37) :: (u 38) :: (u 39) :: (u 40) :: (u 41) :: (u 42) :: (u 43) :: (u 44) :: (u 45) :: (u 46) :: (u 47) :: [] : List Value).toArray, defers := [] }

set_option maxRecDepth 100000 in
set_option maxHeartbeats 4000000 in
theorem wire_any (bb site : Nat) (hs : site < 55) (fv : Value) (fs : List FD) (now v : Int) (w : World) (h : FRep w bb fv fs now) :
    Calls Try.prog 74 #[.pointer (some ⟨bb, 0, none⟩), .int .i64 (site : Nat), .int .u32 v] w fun e w' => e = .returned (.int .u32 (wireF now site fs v)) ∧ Below w.heap.size w w' := by
  obtain ⟨a, cap, hv⟩ := h.sl.form'
  obtain ⟨n, hn⟩ : ∃ n, fs.length = n := ⟨_, rfl⟩
  rw [hn] at hv
  subst hv
  have H := hid_of h
  have HN := hid_of hn
  have cf := h.cf
  have hn2 : n ≤ 2 := by rw [← hn]; exact h.len
  have HS := hid_of hs
  clear h hn hs
  go_enter Try.func74, Try.ntmps74
  go_wp2_with fail
  refine q_of (Q := fun a => (Code.loop _).wp Try.prog _ a _) (F := fr74 bb site v a n cap 0) (fun u0 => ?_) _ (by kernel_rfl)
  refine wp_loop (fun act wr => ∃ (u : Nat → Value) (j : Nat), act = fr74 bb site (wireF now site (fs.take j) v) a n cap j u ∧ j ≤ n ∧ Hid (Below w.heap.size w wr)) (fun act _ => n - (intOf (act.tmps.getD 14 undef)).toNat) ?start ?round
  case start => exact ⟨u0, 0, rfl, by omega, Below.refl _ _⟩
  case round =>
    rintro a0 wr ⟨u, j, rfl, hj, hB⟩
    obtain ⟨x, hx⟩ : ∃ x, wireF now site (fs.take j) v = x := ⟨_, rfl⟩
    rw [hx]
    have HX := hid_of hx
    clear hx
    obtain ⟨KR, hKR⟩ : ∃ KR : Act → World → Prop, KR = fun a' w' => ((fun act wr => ∃ (u : Nat → Value) (j : Nat), act = fr74 bb site (wireF now site (fs.take j) v) a n cap j u ∧ j ≤ n ∧ Hid (Below w.heap.size w wr)) a' w' ∧ n - (intOf (a'.tmps.getD 14 undef)).toNat < n - (intOf ((fr74 bb site x a n cap j u).tmps.getD 14 undef)).toNat) := ⟨_, rfl⟩
    have HKR : Hid (∀ (act : Act) (y : Int) (w' : World), y = wireF now site (fs.take (j + 1)) v → act = fr74 bb site y a n cap (j + 1) (fun i => act.tmps.getD i undef) → j < n → Below w.heap.size w w' → KR act w') := fun act y w' ey e hjl hl => by
      rw [hKR]
      refine ⟨⟨_, j + 1, by rw [← ey]; exact e, hjl, hl⟩, ?_⟩
      have e1 : act.tmps.getD 14 undef = .int .i64 ((j + 1 : Nat) : Int) := by rw [e]; rfl
      have e2 : (fr74 bb site x a n cap j u).tmps.getD 14 undef = .int .i64 ((j : Nat) : Int) := rfl
      simp only [e1, e2, intOf]
      omega
    rw [← hKR]
    clear hKR
    have hadd : IntKind.i64.wrap (((j : Nat) : Int) + 1) = (j : Nat) + 1 := by simp [IntKind.wrap, IntKind.bits, IntKind.signed]; omega
    by_cases hjn : j < n
    · have hji : ((j : Nat) : Int) < (n : Nat) := by omega
      obtain ⟨b, off, cap', e1, _, hbl⟩ := H.out.sl.form (by rw [HN.out]; omega)
      rw [HN.out] at e1
      injection e1 with e1 _ e3
      subst e1; subst e3
      obtain ⟨f, hf⟩ : ∃ f, fs[j]? = some f := ⟨_, List.getElem?_eq_getElem (by rw [HN.out]; exact hjn)⟩
      have hfo : f.Ok := H.out.ok f (List.mem_of_getElem? hf)
      have hcl := H.out.sl.fault (by rw [HN.out]) hf
      have hcc : ∀ i, i < 5 → wr.cell? ⟨b, off + j * 5 + i, none⟩ = (fV f)[i]? := fun i hi => by
        rw [← hcl i hi]; exact hB.out.cell hbl
      have z0 : wr.cell? ⟨b, off + j * 5, none⟩ = some (.int .u32 f.site) := hcc 0 (by omega)
      have z1 : wr.cell? ⟨b, off + j * 5 + 1, none⟩ = some (.int .u32 (f.bit : Nat)) := hcc 1 (by omega)
      have z2 : wr.cell? ⟨b, off + j * 5 + 2, none⟩ = some (.int .u32 f.cyc) := hcc 2 (by omega)
      have z3 : wr.cell? ⟨b, off + j * 5 + 3, none⟩ = some (.int .u32 f.dur) := hcc 3 (by omega)
      have z4 : wr.cell? ⟨b, off + j * 5 + 4, none⟩ = some (.int .u8 f.kind) := hcc 4 (by omega)
      have hsu := wireF_succ now site fs v j f hf
      rw [HX.out] at hsu
      have HSU := hid_of hsu
      obtain ⟨W1, hW1⟩ : ∃ W1, wr.alloc (.cells #[.int .u32 f.site, .int .u32 (f.bit : Nat), .int .u32 f.cyc, .int .u32 f.dur, .int .u8 f.kind] 33) = W1 := ⟨_, rfl⟩
      have hb1 : Blk W1 wr.heap.size (fV f) 33 := by rw [← hW1]; exact Blk.new _ _ _
      have hB1 : Below w.heap.size w W1 := by rw [← hW1]; exact hB.out.alloc hB.out.size _
      have hfr := H.out.below hB1
      have HAC := hid_of (active_any bb site HS.out now f hfo hfr.now W1 hfr.cn)
      have HB1 := hid_of hB1
      have HBB := hid_of hb1
      have c0 : W1.cell? ⟨wr.heap.size, 0, none⟩ = some (.int .u32 f.site) := hb1.cell 0
      have c1 : W1.cell? ⟨wr.heap.size, 1, none⟩ = some (.int .u32 (f.bit : Nat)) := hb1.cell 1
      have c2 : W1.cell? ⟨wr.heap.size, 2, none⟩ = some (.int .u32 f.cyc) := hb1.cell 2
      have c3 : W1.cell? ⟨wr.heap.size, 3, none⟩ = some (.int .u32 f.dur) := hb1.cell 3
      have c4 : W1.cell? ⟨wr.heap.size, 4, none⟩ = some (.int .u8 f.kind) := hb1.cell 4
      have hk4 := hfo.kind
      have HK4 : Hid (f.kind = 0 ∨ f.kind = 1 ∨ f.kind = 2 ∨ f.kind = 3) := by unfold Hid; omega
      have hact : actF now site f = true → f.bit < 32 := fun h => by
        unfold actF at h
        simp only [Bool.and_eq_true, decide_eq_true_eq] at h
        exact h.1.1.2
      have HACT := hid_of hact
      clear hB hf hfo hcl hcc hsu hb1 hB1 hfr hk4 hact HX
      unfold fV at HAC
      unfold fr74
      go_upto_region 4 with fail
      clear hW1 z0 z1 z2 z3 z4
      refine wp_region_list ?_
      go_wp2_with fail
      refine HAC.out.mono ?_
      rintro e w2 ⟨rfl, hb2⟩
      have HB2 : Hid (Below w.heap.size w w2) := HB1.out.trans (hb2.mono HB1.out.size)
      have hbk2 : Blk w2 wr.heap.size (fV f) 33 := (hb2.block _ HBB.out.lt).trans HBB.out
      have y1 : w2.cell? ⟨wr.heap.size, 1, none⟩ = some (.int .u32 (f.bit : Nat)) := hbk2.cell 1
      have y4 : w2.cell? ⟨wr.heap.size, 4, none⟩ = some (.int .u8 f.kind) := hbk2.cell 4
      clear hb2 hbk2 HB1 HBB HAC c0 c1 c2 c3 c4
      cases hac : actF now site f
      · have HY : Hid (x = wireF now site (fs.take (j + 1)) v) := by unfold Hid; rw [HSU.out, hac]; rfl
        clear HSU HACT
        go_wp2_with fail
        exact HKR.out _ _ _ HY.out (by kernel_rfl) hjn HB2.out
      · have hb32 := HACT.out hac
        have hpow : (2 ^ f.bit : Int) % 4294967296 = 2 ^ f.bit := by
          have h1 : (2 : Int) ^ f.bit < 2 ^ 32 := by
            have := Nat.pow_lt_pow_right (a := 2) (by decide) hb32
            have h2 : ((2 ^ f.bit : Nat) : Int) < ((2 ^ 32 : Nat) : Int) := by exact_mod_cast this
            simpa using h2
          have h0 : (0 : Int) ≤ 2 ^ f.bit := Int.le_of_lt (Int.pow_pos (by decide))
          omega
        have hbi : ((f.bit : Nat) : Int) < 32 := by omega
        rcases HK4.out with hk | hk | hk | hk
        · have HY : Hid (bits BinOp.xor IntKind.u32 x (2 ^ f.bit) = wireF now site (fs.take (j + 1)) v) := by
            unfold Hid
            rw [HSU.out, hac, if_pos rfl]
            unfold wV
            rw [if_pos hk]
          rw [hk] at y4
          clear hk HSU HACT HK4
          go_wp2_with fail
          exact HKR.out _ _ _ HY.out (by kernel_rfl) hjn HB2.out
        · have HY : Hid (bits BinOp.andNot IntKind.u32 x (2 ^ f.bit) = wireF now site (fs.take (j + 1)) v) := by
            unfold Hid
            rw [HSU.out, hac, if_pos rfl]
            unfold wV
            rw [if_neg (by rw [hk]; decide), if_pos hk]
          rw [hk] at y4
          clear hk HSU HACT HK4
          go_wp2_with fail
          exact HKR.out _ _ _ HY.out (by kernel_rfl) hjn HB2.out
        · have HY : Hid (bits BinOp.or IntKind.u32 x (2 ^ f.bit) = wireF now site (fs.take (j + 1)) v) := by
            unfold Hid
            rw [HSU.out, hac, if_pos rfl]
            unfold wV
            rw [if_neg (by rw [hk]; decide), if_neg (by rw [hk]; decide), if_pos hk]
          rw [hk] at y4
          clear hk HSU HACT HK4
          go_wp2_with fail
          exact HKR.out _ _ _ HY.out (by kernel_rfl) hjn HB2.out
        · have HY : Hid (x = wireF now site (fs.take (j + 1)) v) := by
            unfold Hid
            rw [HSU.out, hac, if_pos rfl]
            unfold wV
            rw [if_neg (by rw [hk]; decide), if_neg (by rw [hk]; decide), if_neg (by rw [hk]; decide)]
          rw [hk] at y4
          clear hk HSU HACT HK4
          go_wp2_with fail
          exact HKR.out _ _ _ HY.out (by kernel_rfl) hjn HB2.out
    · have hji : ¬ ((j : Nat) : Int) < (n : Nat) := by omega
      have HE : j = n := by omega
      have HF : Hid (x = wireF now site fs v) := by
        unfold Hid
        rw [← HX.out, HE, ← HN.out, List.take_length]
      clear HX H HE
      unfold fr74
      go_wp2_with fail
      go_ret
      exact ⟨by rw [HF.out]; rfl, hB.out⟩
end Go.Proofs.Qxb6500749a
