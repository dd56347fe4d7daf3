import Derived.Test.Qxb6500749aLw7
namespace Go.Proofs.Qxb6500749a
open Go.RowKit
attribute [local go_sem] put_size put_cell_same put_cell_ne put_frozen_same put_frozen_ne put_setCell_same put_setCell_ne put_drew
attribute [local go_sem] drewN_setCell drewN_alloc drewN_put
/-! ### sceneOnly -/
def delB (o : OpD) : Bool := o.k == 4 || o.k == 2
def fr73 (a : Option Addr) (n cap j : Nat) (u : Nat → Value) : Act :=
  { tmps := ((.slice a n cap) :: (.func (.func 53) #[] #[]) :: (u 2) :: (u 3) :: (u 4) :: (u 5) :: (u 6) :: (.int .i64 (n : Nat)) :: (.int .i64 (j : Nat)) :: (u 9) :: (u 10) :: (u 11) :: (u 12) :: (u 13) :: (u 14) :: (u 15) :: (u 16) :: (u 17) :: (u 18) :: [] : List Value).toArray, defers := [] }
def fr52 (a : Option Addr) (n cap i j : Nat) (u : Nat → Value) : Act :=
  { tmps := ((.slice a n cap) :: (.func (.func 53) #[] #[]) :: (u 2) :: (u 3) :: (u 4) :: (.int .i64 (i : Nat)) :: (.int .i64 (j : Nat)) :: (u 7) :: (u 8) :: (u 9) :: (u 10) :: (u 11) :: (u 12) :: (u 13) :: (u 14) :: (u 15) :: (u 16) :: (u 17) :: (u 18) :: (u 19) :: (u 20) :: (u 21) :: (u 22) :: (u 23) :: (u 24) :: (u 25) :: (u 26) :: (u 27) :: (u 28) :: (u 29) :: (u 30) :: (u 31) :: (u 32) :: (u 33) :: (u 34) :: (u 35) :: (u 36) :: (u 37) :: (u 38) :: (u 39) :: (u 40) :: (u 41) :: [] : List Value).toArray, defers := [] }
set_option maxRecDepth 100000 in
theorem del_any (o : OpD) (w : World) : Calls Try.prog 53 #[.agg #[.int .u8 o.k, .int .u32 o.a, .int .u32 o.b, .int .u32 o.c, .int .u32 o.d, .int .u32 o.e]] w fun e w' => e = .returned (.bool (delB o)) ∧ Below w.heap.size w w' := by
  obtain ⟨W, hW⟩ : ∃ W, w.alloc (.cells #[.int .u8 o.k, .int .u32 o.a, .int .u32 o.b, .int .u32 o.c, .int .u32 o.d, .int .u32 o.e] 73) = W := ⟨_, rfl⟩
  have HB : Hid (Below w.heap.size w W) := by rw [← hW]; exact (Below.refl _ _).alloc (Nat.le_refl _) _
  have q0 : W.cell? ⟨w.heap.size, 0, none⟩ = some (.int .u8 o.k) := by rw [← hW]; exact (Blk.new w _ 73).cell 0
  cases h4 : (o.k == 4)
  · obtain ⟨z, hz⟩ : ∃ z, (o.k == 2) = z := ⟨_, rfl⟩
    have HE : Hid (delB o = z) := by unfold Hid delB; rw [h4, hz]; rfl
    rw [HE.out]
    go_enter Try.func53, Try.ntmps53
    go_upto_region 1 with fail
    clear hW
    go_wp2_with fail
    go_ret
    exact ⟨rfl, HB.out⟩
  · have HE : Hid (delB o = true) := by unfold Hid delB; rw [h4]; rfl
    rw [HE.out]
    go_enter Try.func53, Try.ntmps53
    go_upto_region 1 with fail
    clear hW
    go_wp2_with fail
    go_ret
    exact ⟨rfl, HB.out⟩
set_option maxRecDepth 100000 in
set_option maxHeartbeats 4000000 in
theorem index_any (a : Option Addr) (n cap : Nat) (s : Nat → OpD) (hn : n ≤ 65536) (w : World) (hs : Scr w a n s) :
    Calls Try.prog 73 #[.slice a n cap, (.func (.func 53) #[] #[])] w fun e w' => ∃ r : Int, e = .returned (.int .i64 r) ∧ Below w.heap.size w w' ∧ ((r = -1 ∧ ∀ k, k < n → delB (s k) = false) ∨ ∃ i : Nat, r = (i : Nat) ∧ i < n ∧ ∀ k, k < i → delB (s k) = false) := by
  have HS := hid_of hs
  have HN := hid_of hn
  clear hs hn
  go_enter Try.func73, Try.ntmps73
  go_wp2_with fail
  refine q_of (Q := fun a => (Code.loop _).wp Try.prog _ a _) (F := fr73 a n cap 0) (fun u0 => ?_) _ (by kernel_rfl)
  refine wp_loop (fun act wr => ∃ (u : Nat → Value) (j : Nat), act = fr73 a n cap j u ∧ j ≤ n ∧ Hid (Below w.heap.size w wr ∧ ∀ k, k < j → delB (s k) = false)) (fun act _ => n - (intOf (act.tmps.getD 8 undef)).toNat) ⟨u0, 0, rfl, Nat.zero_le _, Below.refl _ _, fun k hk => absurd hk (by omega)⟩ ?_
  rintro act wr ⟨u, j, rfl, hj, HR⟩
  by_cases hjn : j < n
  · have hlt : ((j : Nat) : Int) < (n : Nat) := by omega
    have hadd : IntKind.i64.wrap (((j : Nat) : Int) + 1) = (j : Nat) + 1 := by have := HN.out; simp [IntKind.wrap, IntKind.bits, IntKind.signed]; omega
    obtain ⟨b, off, ea, hb, hcl⟩ := HS.out.2 (by omega)
    obtain ⟨o, ho⟩ : ∃ o, s j = o := ⟨_, rfl⟩
    have z : ∀ i, i < 6 → wr.cell? ⟨b, off + j * 6 + i, none⟩ = (opV o)[i]? := fun i hi => by rw [← ho]; exact (HR.out.1.cell hb).trans (hcl j hjn i hi)
    subst ea
    have z0 : wr.cell? ⟨b, off + j * 6, none⟩ = some (.int .u8 o.k) := z 0 (by decide)
    have z1 : wr.cell? ⟨b, off + j * 6 + 1, none⟩ = some (.int .u32 o.a) := z 1 (by decide)
    have z2 : wr.cell? ⟨b, off + j * 6 + 2, none⟩ = some (.int .u32 o.b) := z 2 (by decide)
    have z3 : wr.cell? ⟨b, off + j * 6 + 3, none⟩ = some (.int .u32 o.c) := z 3 (by decide)
    have z4 : wr.cell? ⟨b, off + j * 6 + 4, none⟩ = some (.int .u32 o.d) := z 4 (by decide)
    have z5 : wr.cell? ⟨b, off + j * 6 + 5, none⟩ = some (.int .u32 o.e) := z 5 (by decide)
    have HDL := hid_of (del_any o wr)
    have HO := hid_of ho
    obtain ⟨KR, hKR⟩ : ∃ KR : Act → World → Prop, KR = fun a' w' => ((fun act wr => ∃ (u : Nat → Value) (j : Nat), act = fr73 (some ⟨b, off, none⟩) n cap j u ∧ j ≤ n ∧ Hid (Below w.heap.size w wr ∧ ∀ k, k < j → delB (s k) = false)) a' w' ∧ n - (intOf (a'.tmps.getD 8 undef)).toNat < n - (intOf ((fr73 (some ⟨b, off, none⟩) n cap j u).tmps.getD 8 undef)).toNat) := ⟨_, rfl⟩
    have HKR : Hid (∀ (act : Act) (w' : World), act = fr73 (some ⟨b, off, none⟩) n cap (j + 1) (fun i => act.tmps.getD i undef) → Below wr.heap.size wr w' → delB o = false → KR act w') := fun act w' e h1 h2 => by
      rw [hKR]
      refine ⟨⟨_, j + 1, e, hjn, HR.out.1.trans (h1.mono HR.out.1.size), fun k hk => ?_⟩, ?_⟩
      · by_cases q : k = j
        · rw [q, HO.out]; exact h2
        · exact HR.out.2 k (by omega)
      · have e1 : act.tmps.getD 8 undef = .int .i64 ((j + 1 : Nat) : Int) := by rw [e]; rfl
        have e2 : (fr73 (some ⟨b, off, none⟩) n cap j u).tmps.getD 8 undef = .int .i64 ((j : Nat) : Int) := rfl
        simp only [e1, e2, intOf]
        omega
    rw [← hKR]
    have HFIN : Hid (∀ w', Below wr.heap.size wr w' → ∃ r : Int, (.returned (.int .i64 ((j : Nat) : Int)) : Ending) = .returned (.int .i64 r) ∧ Below w.heap.size w w' ∧ ((r = -1 ∧ ∀ k, k < n → delB (s k) = false) ∨ ∃ i : Nat, r = (i : Nat) ∧ i < n ∧ ∀ k, k < i → delB (s k) = false)) := fun w' h1 => ⟨_, rfl, HR.out.1.trans (h1.mono HR.out.1.size), .inr ⟨j, rfl, hjn, HR.out.2⟩⟩
    clear hKR z ho hcl hb
    unfold fr73
    go_upto_region 4 with fail
    refine wp_region_list ?_
    go_wp2_with fail
    refine HDL.out.mono ?_
    rintro e w2 ⟨rfl, hb2⟩
    have HB2 := hid_of hb2
    clear HDL hb2 z0 z1 z2 z3 z4 z5
    cases hd : delB o
    · have HD := hid_of hd
      clear hd
      go_wp2_with fail
      exact HKR.out _ _ (by kernel_rfl) HB2.out HD.out
    · clear hd
      go_wp2_with fail
      go_ret
      exact HFIN.out _ HB2.out
  · have hlt : ¬ ((j : Nat) : Int) < (n : Nat) := by omega
    have HJ : Hid (j = n) := by unfold Hid; omega
    clear hj
    unfold fr73
    go_wp2_with fail
    go_ret
    exact ⟨-1, rfl, HR.out.1, .inl ⟨rfl, fun k hk => HR.out.2 k (by rw [HJ.out]; exact hk)⟩⟩
def midA (cs vs : Array Value) (o : Nat) : Array Value := (cs.toList.take o ++ vs.toList ++ cs.toList.drop (o + vs.size)).toArray
theorem midA_size {cs vs : Array Value} {o : Nat} (h : o + vs.size ≤ cs.size) : (midA cs vs o).size = cs.size := by
  unfold midA
  simp
  omega
set_option linter.unusedVariables false in
theorem midA_get {cs vs : Array Value} {o : Nat} (h : o + vs.size ≤ cs.size) (j : Nat) (hj : j < cs.size) : (midA cs vs o)[j]? = if o ≤ j ∧ j < o + vs.size then vs[j - o]? else cs[j]? := by
  unfold midA
  simp only [List.getElem?_toArray]
  rw [List.append_assoc, List.getElem?_append]
  simp only [List.length_take, Array.length_toList]
  rw [Nat.min_eq_left (by omega)]
  by_cases h1 : j < o
  · rw [if_pos h1, if_neg (by omega), List.getElem?_take, if_pos h1]; simp
  · rw [if_neg h1, List.getElem?_append]
    simp only [Array.length_toList]
    by_cases h2 : j < o + vs.size
    · rw [if_pos (by omega), if_pos (by omega)]; simp
    · rw [if_neg (by omega), if_neg (by omega), List.getElem?_drop]
      rw [show o + vs.size + (j - o - vs.size) = j by omega]; simp
structure DF (w wr : World) (b off n : Nat) (cs : Array Value) (cur : Nat → OpD) : Prop where
  blk : Blk wr b cs 73
  sz : off + n * 6 ≤ cs.size
  row : ∀ k, k < n → ∀ j, j < 6 → cs[off + k * 6 + j]? = (opV (cur k))[j]?
  fr : Fr (· = b) w wr
  ok : ∀ k, k < n → (cur k).Ok
theorem Blk.cell' {w : World} {b : Nat} {cs : Array Value} {T : TypeId} (h : Blk w b cs T) (i : Nat) : w.cell? ⟨b, i, none⟩ = cs[i]? := h.cell i
section
variable {w wr w2 : World} {b off n : Nat} {cs : Array Value} {cur : Nat → OpD}
theorem DF.below (h : DF w wr b off n cs cur) (k : Below wr.heap.size wr w2) : DF w w2 b off n cs cur := ⟨(k.block _ h.blk.lt).trans h.blk, h.sz, h.row, h.fr.below (k.mono h.fr.size), h.ok⟩
theorem DF.mv (h : DF w wr b off n cs cur) (i j : Nat) (hi : i < n) (hj : j < n) : DF w (put wr b (midA cs (opV (cur j)) (off + i * 6)) 73) b off n (midA cs (opV (cur j)) (off + i * 6)) (fun k => if k = i then cur j else cur k) := by
  have hv : (opV (cur j)).size = 6 := rfl
  have hsz := h.sz
  have hle : off + i * 6 + (opV (cur j)).size ≤ cs.size := by rw [hv]; omega
  refine ⟨Blk.put_same h.blk.lt, by rw [midA_size hle]; exact h.sz, fun k hk t ht => ?_, h.fr.put (fun _ => rfl) _ _, fun k hk => ?_⟩
  · rw [midA_get hle _ (by omega), hv]
    by_cases q : k = i
    · subst q
      rw [if_pos (by omega), if_pos rfl]
      rw [show off + k * 6 + t - (off + k * 6) = t by omega]
    · rw [if_neg (by omega), if_neg q]
      exact h.row k hk t ht
  · by_cases q : k = i
    · simp only [q, if_true]; exact h.ok j hj
    · simp only [q, if_false]; exact h.ok k hk
theorem DF.cut (h : DF w wr b off n cs cur) (i : Nat) (hi : i < n) (vs : Array Value) (hv : vs.size = (n - i) * 6) : Fr (· = b) w (put wr b (midA cs vs (off + i * 6)) 73) ∧ Scr (put wr b (midA cs vs (off + i * 6)) 73) (some ⟨b, off, none⟩) i cur := by
  have hsz := h.sz
  have hle : off + i * 6 + vs.size ≤ cs.size := by rw [hv]; omega
  refine ⟨h.fr.put (fun _ => rfl) _ _, fun k hk => h.ok k (by omega), fun _ => ⟨b, off, rfl, by rw [put_size]; exact h.blk.lt, fun k hk j hj => ?_⟩⟩
  have hb : Blk (put wr b (midA cs vs (off + i * 6)) 73) b (midA cs vs (off + i * 6)) 73 := Blk.put_same h.blk.lt
  rw [hb.cell', midA_get hle _ (by omega), if_neg (by omega)]
  exact h.row k (by omega) j hj
end
set_option maxRecDepth 100000 in
theorem zero73 (w : World) : (zeroValue 73).run Try.prog w = .ok (.agg #[.int .u8 0, .int .u32 0, .int .u32 0, .int .u32 0, .int .u32 0, .int .u32 0]) w := by go_simp
def zr6 : Array Value := #[.int .u8 0, .int .u32 0, .int .u32 0, .int .u32 0, .int .u32 0, .int .u32 0]
theorem run_clear6 (w : World) (ty : TypeId) (b o n c : Nat) (cs : Array Value) (hb : Blk w b cs 73) (hn : 0 < n) (hs : o + n * 6 ≤ cs.size) :
    (Builtin.clear_ #[22] ty #[.slice (some ⟨b, o, none⟩) n c]).run Try.prog w = .ok (.tuple #[]) (put w b (midA cs (Builtin.zeroCells zr6 n) o) 73) := by
  have hsz : (Builtin.zeroCells zr6 n).size = n * 6 := by simp [Builtin.zeroCells, zr6]
  have hst := store_mid (P := Try.prog) (cs' := midA cs (Builtin.zeroCells zr6 n) o) hb (by rw [hsz]; exact hs) (fun v hv => by
    simp [Builtin.zeroCells] at hv
    obtain ⟨i, _, rfl⟩ := hv
    have h6 : i % 6 < 6 := Nat.mod_lt _ (by decide)
    have : i % zr6.size = i % 6 := rfl
    rw [this]
    obtain e | e | e | e | e | e : i % 6 = 0 ∨ i % 6 = 1 ∨ i % 6 = 2 ∨ i % 6 = 3 ∨ i % 6 = 4 ∨ i % 6 = 5 := by omega
    all_goals (rw [e]; rfl)) (midA_size (by rw [hsz]; exact hs)) (fun j hj => midA_get (by rw [hsz]; exact hs) j hj)
  obtain ⟨m, rfl⟩ : ∃ m, n = m + 1 := ⟨n - 1, by omega⟩
  have hz : (Value.agg #[.int .u8 0, .int .u32 0, .int .u32 0, .int .u32 0, .int .u32 0, .int .u32 0]).cells = zr6 := rfl
  simp [Builtin.clear_, run_underlying Try.underlying22, hz, hst]
set_option linter.unusedVariables false in
set_option linter.unusedSimpArgs false in
set_option maxRecDepth 100000 in
set_option maxHeartbeats 4000000 in
theorem dele_any (b off n cap : Nat) (cs : Array Value) (s : Nat → OpD) (hn : n ≤ 65536) (hc : n ≤ cap) (w : World) (hD : DF w w b off n cs s) :
    Calls Try.prog 52 #[.slice (some ⟨b, off, none⟩) n cap, (.func (.func 53) #[] #[])] w fun e w' => ∃ m s2, e = .returned (.slice (some ⟨b, off, none⟩) m cap) ∧ m ≤ n ∧ Scr w' (some ⟨b, off, none⟩) m s2 ∧ (∀ k, k < m → delB (s2 k) = false) ∧ Fr (· = b) w w' := by
  have hs : Scr w (some ⟨b, off, none⟩) n s := ⟨hD.ok, fun _ => ⟨b, off, rfl, hD.blk.lt, fun k hk j hj => by rw [hD.blk.cell']; exact hD.row k hk j hj⟩⟩
  have HIX := hid_of (index_any (some ⟨b, off, none⟩) n cap s hn w hs)
  have HD0 := hid_of hD
  have HS := hid_of hs
  have HN : Hid (n ≤ 65536 ∧ n ≤ cap) := ⟨hn, hc⟩
  clear hs hn hD hc
  go_enter Try.func52, Try.ntmps52
  go_wp2_with fail
  refine HIX.out.mono ?_
  rintro e w1 ⟨r, rfl, hb1, hr⟩
  have HB1 := hid_of hb1
  clear HIX hb1
  rcases hr with ⟨hr, hall⟩ | ⟨i0, hr, hi0, hall⟩
  · subst hr
    have HA := hid_of hall
    clear hall
    go_wp2_with fail
    go_ret
    exact ⟨n, s, rfl, Nat.le_refl _, HS.out.below HB1.out, HA.out, Fr.of_below HB1.out⟩
  · subst hr
    have hne : (((i0 : Nat) : Int) == -1) = false := by first | (simp; done) | (simp; omega)
    have hadd : IntKind.i64.wrap (((i0 : Nat) : Int) + 1) = (i0 : Nat) + 1 := by have := HN.out; simp [IntKind.wrap, IntKind.bits, IntKind.signed]; omega
    have HI0 : Hid (DF w w1 b off n cs s ∧ i0 < i0 + 1 ∧ i0 + 1 ≤ n ∧ ∀ k, k < i0 → delB (s k) = false) := ⟨HD0.out.below HB1.out, by omega, hi0, hall⟩
    clear hall hi0 HD0 HS HB1
    go_wp2_with fail
    refine q_of (Q := fun a => (Code.loop _).wp Try.prog _ a _) (F := fr52 (some ⟨b, off, none⟩) n cap i0 (i0 + 1)) (fun u0 => ?_) _ (by kernel_rfl)
    refine wp_loop (fun act wr => ∃ (u : Nat → Value) (i j : Nat) (cs : Array Value) (cur : Nat → OpD), act = fr52 (some ⟨b, off, none⟩) n cap i j u ∧ Hid (DF w wr b off n cs cur ∧ i < j ∧ j ≤ n ∧ ∀ k, k < i → delB (cur k) = false)) (fun act _ => n - (intOf (act.tmps.getD 6 undef)).toNat) ⟨u0, i0, i0 + 1, cs, s, rfl, HI0.out⟩ ?_
    clear HI0 hne hadd
    rintro act wr ⟨u, i, j, cs, cur, rfl, HR⟩
    by_cases hjn : j < n
    · have hlt : ((j : Nat) : Int) < (n : Nat) := by omega
      have hlti : ((i : Nat) : Int) < (n : Nat) := by have := HR.out.2.1; omega
      have hadd : IntKind.i64.wrap (((j : Nat) : Int) + 1) = (j : Nat) + 1 := by have := HN.out; simp [IntKind.wrap, IntKind.bits, IntKind.signed]; omega
      have haddi : IntKind.i64.wrap (((i : Nat) : Int) + 1) = (i : Nat) + 1 := by have := HN.out; have := HR.out.2.1; simp [IntKind.wrap, IntKind.bits, IntKind.signed]; omega
      obtain ⟨o, ho⟩ : ∃ o, cur j = o := ⟨_, rfl⟩
      have z : ∀ i, i < 6 → wr.cell? ⟨b, off + j * 6 + i, none⟩ = (opV o)[i]? := fun i hi => by rw [← ho, HR.out.1.blk.cell']; exact HR.out.1.row j hjn i hi
      have z0 : wr.cell? ⟨b, off + j * 6, none⟩ = some (.int .u8 o.k) := z 0 (by decide)
      have z1 : wr.cell? ⟨b, off + j * 6 + 1, none⟩ = some (.int .u32 o.a) := z 1 (by decide)
      have z2 : wr.cell? ⟨b, off + j * 6 + 2, none⟩ = some (.int .u32 o.b) := z 2 (by decide)
      have z3 : wr.cell? ⟨b, off + j * 6 + 3, none⟩ = some (.int .u32 o.c) := z 3 (by decide)
      have z4 : wr.cell? ⟨b, off + j * 6 + 4, none⟩ = some (.int .u32 o.d) := z 4 (by decide)
      have z5 : wr.cell? ⟨b, off + j * 6 + 5, none⟩ = some (.int .u32 o.e) := z 5 (by decide)
      obtain ⟨W, hW⟩ : ∃ W, wr.alloc (.cells #[.int .u8 o.k, .int .u32 o.a, .int .u32 o.b, .int .u32 o.c, .int .u32 o.d, .int .u32 o.e] 73) = W := ⟨_, rfl⟩
      have hbe : Below wr.heap.size wr W := by rw [← hW]; exact (Below.refl _ _).alloc (Nat.le_refl _) _
      have hop : Blk W wr.heap.size #[.int .u8 o.k, .int .u32 o.a, .int .u32 o.b, .int .u32 o.c, .int .u32 o.d, .int .u32 o.e] 73 := by rw [← hW]; exact Blk.new _ _ _
      have q0 : W.cell? ⟨wr.heap.size, 0, none⟩ = some (.int .u8 o.k) := hop.cell 0
      have q1 : W.cell? ⟨wr.heap.size, 1, none⟩ = some (.int .u32 o.a) := hop.cell 1
      have q2 : W.cell? ⟨wr.heap.size, 2, none⟩ = some (.int .u32 o.b) := hop.cell 2
      have q3 : W.cell? ⟨wr.heap.size, 3, none⟩ = some (.int .u32 o.c) := hop.cell 3
      have q4 : W.cell? ⟨wr.heap.size, 4, none⟩ = some (.int .u32 o.d) := hop.cell 4
      have q5 : W.cell? ⟨wr.heap.size, 5, none⟩ = some (.int .u32 o.e) := hop.cell 5
      have HDL := hid_of (del_any o W)
      have HO := hid_of ho
      have HDW : Hid (DF w W b off n cs cur) := HR.out.1.below hbe
      have HOP := hid_of hop
      obtain ⟨KR, hKR⟩ : ∃ KR : Act → World → Prop, KR = fun a' w' => ((fun act wr => ∃ (u : Nat → Value) (i j : Nat) (cs : Array Value) (cur : Nat → OpD), act = fr52 (some ⟨b, off, none⟩) n cap i j u ∧ Hid (DF w wr b off n cs cur ∧ i < j ∧ j ≤ n ∧ ∀ k, k < i → delB (cur k) = false)) a' w' ∧ n - (intOf (a'.tmps.getD 6 undef)).toNat < n - (intOf ((fr52 (some ⟨b, off, none⟩) n cap i j u).tmps.getD 6 undef)).toNat) := ⟨_, rfl⟩
      have HKR : Hid (∀ (act : Act) (w' : World) (i' : Nat) (cs' : Array Value) (cur' : Nat → OpD), act = fr52 (some ⟨b, off, none⟩) n cap i' (j + 1) (fun i => act.tmps.getD i undef) → DF w w' b off n cs' cur' → i' < j + 1 → (∀ k, k < i' → delB (cur' k) = false) → KR act w') := fun act w' i' cs' cur' e h1 h2 h3 => by
        rw [hKR]
        refine ⟨⟨_, i', j + 1, cs', cur', e, h1, h2, hjn, h3⟩, ?_⟩
        have e1 : act.tmps.getD 6 undef = .int .i64 ((j + 1 : Nat) : Int) := by rw [e]; rfl
        have e2 : (fr52 (some ⟨b, off, none⟩) n cap i j u).tmps.getD 6 undef = .int .i64 ((j : Nat) : Int) := rfl
        simp only [e1, e2, intOf]
        omega
      rw [← hKR]
      have HJN := hid_of hjn
      clear hKR z ho hop hbe hjn
      unfold fr52
      go_upto_region 8 with fail
      clear hW z0 z1 z2 z3 z4 z5
      go_wp2_with fail
      refine HDL.out.mono ?_
      rintro e w2 ⟨rfl, hb2⟩
      have HD2 : Hid (DF w w2 b off n cs cur) := HDW.out.below hb2
      have hop2 : Blk w2 wr.heap.size #[.int .u8 o.k, .int .u32 o.a, .int .u32 o.b, .int .u32 o.c, .int .u32 o.d, .int .u32 o.e] 73 := (hb2.block _ HOP.out.lt).trans HOP.out
      have p0 : w2.cell? ⟨wr.heap.size, 0, none⟩ = some (.int .u8 o.k) := hop2.cell 0
      have p1 : w2.cell? ⟨wr.heap.size, 1, none⟩ = some (.int .u32 o.a) := hop2.cell 1
      have p2 : w2.cell? ⟨wr.heap.size, 2, none⟩ = some (.int .u32 o.b) := hop2.cell 2
      have p3 : w2.cell? ⟨wr.heap.size, 3, none⟩ = some (.int .u32 o.c) := hop2.cell 3
      have p4 : w2.cell? ⟨wr.heap.size, 4, none⟩ = some (.int .u32 o.d) := hop2.cell 4
      have p5 : w2.cell? ⟨wr.heap.size, 5, none⟩ = some (.int .u32 o.e) := hop2.cell 5
      clear HDL hb2 HDW HOP hop2 q0 q1 q2 q3 q4 q5
      cases hd : delB o
      · have HD := hid_of hd
        clear hd
        have hszi : off + i * 6 + (opV o).size ≤ cs.size := by have h1 := HD2.out.sz; have h2 := HR.out.2.1; have h3 := HJN.out; have : (opV o).size = 6 := rfl; omega
        have HMV : Hid (DF w (put w2 b (midA cs #[.int .u8 o.k, .int .u32 o.a, .int .u32 o.b, .int .u32 o.c, .int .u32 o.d, .int .u32 o.e] (off + i * 6)) 73) b off n (midA cs #[.int .u8 o.k, .int .u32 o.a, .int .u32 o.b, .int .u32 o.c, .int .u32 o.d, .int .u32 o.e] (off + i * 6)) (fun k => if k = i then o else cur k)) := by
          have := HD2.out.mv i j (by have h2 := HR.out.2.1; have h3 := HJN.out; omega) HJN.out
          rw [HO.out] at this
          exact this
        have HSZ := hid_of hszi
        clear hszi
        go_wp2_with ((with_reducible show wpList _ _ _ ({ dst := none, op := Op.store 73 _ _, type := _, pos := _, after := _, guard := _ } :: _) _ _); refine wpList_store_mid (by rfl) 73 (.tmp 33) (.tmp 32) (by rfl) b (off + i * 6) cs (midA cs #[.int .u8 o.k, .int .u32 o.a, .int .u32 o.b, .int .u32 o.c, .int .u32 o.d, .int .u32 o.e] (off + i * 6)) #[.int .u8 o.k, .int .u32 o.a, .int .u32 o.b, .int .u32 o.c, .int .u32 o.d, .int .u32 o.e] 73 (by kernel_rfl) (by kernel_rfl) (by exact HD2.out.blk) (by kernel_rfl) (by exact HSZ.out) (by simp [Value.oneCell']) (by exact midA_size HSZ.out) (by exact fun j hj => midA_get HSZ.out j hj) ?_)
        go_wp2_with fail
        exact HKR.out _ _ (i + 1) _ _ (by kernel_rfl) HMV.out (by have := HR.out.2.1; omega) (fun k hk => by
          by_cases q : k = i
          · simp only [q, if_true]; exact HD.out
          · simp only [q, if_false]; exact HR.out.2.2.2 k (by omega))
      · clear hd
        go_wp2_with fail
        exact HKR.out _ _ i _ _ (by kernel_rfl) HD2.out (by have := HR.out.2.1; omega) HR.out.2.2.2
    · have hlt : ¬ ((j : Nat) : Int) < (n : Nat) := by omega
      have hij : i < n := by have := HR.out.2.1; have := HR.out.2.2.1; omega
      have hin : ((i : Nat) : Int) ≤ (n : Nat) := by omega
      have hnc : ((n : Nat) : Int) ≤ (cap : Nat) := by have := HN.out; omega
      have hic : ((i : Nat) : Int) ≤ (cap : Nat) := by omega
      have hci : ¬ cap = i := by have := HN.out; omega
      have hci1 : ¬ i = cap := by have := HN.out; omega
      have hci2 : ¬ cap - i = 0 := by have := HN.out; omega
      have hci3 : ¬ cap ≤ i := by have := HN.out; omega
      have HZ : Hid ((Builtin.zeroCells zr6 (n - i)).size = (n - i) * 6) := by unfold Hid; simp [Builtin.zeroCells, zr6]
      have hcl : ∀ ty, (Builtin.clear_ #[22] ty #[.slice (some ⟨b, off + i * 6, none⟩) (n - i) (cap - i)]).run Try.prog wr = .ok (.tuple #[]) (put wr b (midA cs (Builtin.zeroCells zr6 (n - i)) (off + i * 6)) 73) := fun ty => run_clear6 wr ty b (off + i * 6) (n - i) (cap - i) cs HR.out.1.blk (by omega) (by have := HR.out.1.sz; omega)
      have HCUT := hid_of (HR.out.1.cut i hij (Builtin.zeroCells zr6 (n - i)) HZ.out)
      have HIJ := hid_of hij
      clear hij
      unfold fr52
      go_wp2_with fail
      go_ret
      first
      | exact ⟨i, cur, rfl, Nat.le_of_lt HIJ.out, HCUT.out.2, HR.out.2.2.2, HCUT.out.1⟩
      | exact ⟨i, rfl, Nat.le_of_lt HIJ.out, cur, HCUT.out.2, HR.out.2.2.2, HCUT.out.1⟩
set_option maxRecDepth 100000 in
set_option maxHeartbeats 4000000 in
theorem scene_any (a : Option Addr) (n c : Nat) (s : Nat → OpD) (hn : n ≤ 65536) (w : World) (hs : Scr w a n s) :
    Calls Try.prog 33 #[.slice a n c] w fun e w' => ∃ a2 m c2 s2, e = .returned (.slice a2 m c2) ∧ m ≤ n ∧ Scr w' a2 m s2 ∧ (∀ k, k < m → delB (s2 k) = false) ∧ Below w.heap.size w w' := by
  have HCL := hid_of (clone_any a n c s w hn hs)
  have HOK := hid_of hs.1
  have HN := hid_of hn
  clear hs hn
  go_enter Try.func33, Try.ntmps33
  go_wp2_with fail
  refine HCL.out.mono ?_
  rintro e w1 ⟨v, rfl, hsl, hb1, ho1⟩
  obtain ⟨va, vc, hv⟩ := hsl.form'
  subst hv
  have HB1 := hid_of hb1
  rcases Nat.eq_zero_or_pos n with h0 | h0
  · subst h0
    have hsc : Scr w1 va 0 s := ⟨fun k hk => absurd hk (by omega), fun q => absurd q (by omega)⟩
    have HQ : Hid (Calls Try.prog 52 #[.slice va 0 vc, (.func (.func 53) #[] #[])] w1 fun e w' => e = .returned (.slice va 0 vc) ∧ Below w1.heap.size w1 w') := by
      have HIX := hid_of (index_any va 0 vc s (by decide) w1 hsc)
      clear hsl hb1 ho1 hsc HCL HOK HN HB1
      go_enter Try.func52, Try.ntmps52
      go_wp2_with fail
      refine HIX.out.mono ?_
      rintro e w2 ⟨r, rfl, hb2, hr⟩
      have hr1 : r = -1 := by
        rcases hr with hr | ⟨i, _, hi, _⟩
        · exact hr.1
        · omega
      subst hr1
      have HB2 := hid_of hb2
      clear hr hb2 HIX
      go_wp2_with fail
      go_ret
      exact ⟨rfl, HB2.out⟩
    clear hsl hb1 ho1 hsc HCL
    go_wp2_with fail
    refine HQ.out.mono ?_
    rintro e w2 ⟨rfl, hb2⟩
    have HB2 := hid_of hb2
    clear hb2 HQ
    go_wp2_with fail
    go_ret
    exact ⟨va, 0, vc, s, rfl, Nat.le_refl _, ⟨fun k hk => absurd hk (by omega), fun q => absurd q (by omega)⟩, fun k hk => absurd hk (by omega), HB1.out.trans (HB2.out.mono HB1.out.size)⟩
  · obtain ⟨b, off, cap, e, hcap, hbl⟩ := hsl.form h0
    injection e with e1 e2 e3
    subst e1
    subst e3
    obtain ⟨cs, hblk, hsz⟩ := hsl.blk rfl
    have hscr := scr_of_sl hsl HOK.out
    have hDF : DF w1 w1 b off n cs s := ⟨hblk, hsz, fun k hk j hj => by
      obtain ⟨b', off', e', _, hc'⟩ := hscr.2 h0
      cases e'
      have := hc' k hk j hj
      rw [hblk.cell'] at this
      exact this, Fr.refl _ _, HOK.out⟩
    have HDE := hid_of (dele_any b off n vc cs s HN.out hcap w1 hDF)
    have HOB : Hid (w.heap.size ≤ b) := ho1 b rfl
    clear hsl hb1 ho1 HCL hblk hsz hscr hDF
    go_wp2_with fail
    refine HDE.out.mono ?_
    rintro e w2 ⟨m, s2, rfl, hm, hs2, hd2, hf2⟩
    have HFIN : Hid (m ≤ n ∧ Scr w2 (some ⟨b, off, none⟩) m s2 ∧ (∀ k, k < m → delB (s2 k) = false) ∧ Below w.heap.size w w2) := ⟨hm, hs2, hd2, ⟨hf2.os.trans HB1.out.os, hf2.tape.trans HB1.out.tape, hf2.output.trans HB1.out.output, Nat.le_trans HB1.out.size hf2.size, fun k hk => (hf2.block k (Nat.lt_of_lt_of_le hk HB1.out.size) (by have := HOB.out; omega)).trans (HB1.out.block k hk)⟩⟩
    clear hm hs2 hd2 hf2 HDE
    go_wp2_with fail
    go_ret
    exact ⟨_, m, vc, s2, rfl, HFIN.out⟩
end Go.Proofs.Qxb6500749a
