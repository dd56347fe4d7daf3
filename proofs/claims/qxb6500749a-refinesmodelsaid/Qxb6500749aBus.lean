import Derived.Test.Qxb6500749aExe
namespace Go.Proofs.Qxb6500749a
open Go.RowKit
attribute [local go_sem] put_size put_cell_same put_cell_ne put_frozen_same put_frozen_ne put_setCell_same put_setCell_ne put_drew
attribute [local go_sem] drewN_setCell drewN_alloc drewN_put
/-! ### Frames: which blocks a call may turn -/
structure Fr (K : Nat → Prop) (w w' : World) : Prop where
  os : w'.os = w.os
  tape : w'.tape = w.tape
  output : w'.output = w.output
  size : w.heap.size ≤ w'.heap.size
  block : ∀ k, k < w.heap.size → ¬ K k → w'.heap[k]? = w.heap[k]?
section
variable {K K' : Nat → Prop} {w w1 w2 : World}
theorem Fr.refl (K : Nat → Prop) (w : World) : Fr K w w := ⟨rfl, rfl, rfl, Nat.le_refl _, fun _ _ _ => rfl⟩
theorem Fr.trans' (h : Fr K w w1) (k : Fr K' w1 w2) (hk : ∀ b, b < w.heap.size → K' b → K b) : Fr K w w2 :=
  ⟨k.os.trans h.os, k.tape.trans h.tape, k.output.trans h.output, Nat.le_trans h.size k.size, fun b hb hn => (k.block b (Nat.lt_of_lt_of_le hb h.size) (fun q => hn (hk b hb q))).trans (h.block b hb hn)⟩
theorem Fr.trans (h : Fr K w w1) (k : Fr K w1 w2) : Fr K w w2 := h.trans' k fun _ _ q => q
theorem Fr.mono (h : Fr K w w1) (hk : ∀ b, b < w.heap.size → K b → K' b) : Fr K' w w1 := ⟨h.os, h.tape, h.output, h.size, fun b hb hn => h.block b hb fun q => hn (hk b hb q)⟩
theorem Fr.of_below (h : Below w.heap.size w w1) : Fr K w w1 := ⟨h.os, h.tape, h.output, h.size, fun b hb _ => h.block b hb⟩
theorem Fr.below (h : Fr K w w1) (k : Below w.heap.size w1 w2) : Fr K w w2 :=
  ⟨k.os.trans h.os, k.tape.trans h.tape, k.output.trans h.output, Nat.le_trans h.size k.size, fun b hb hn => (k.block b hb).trans (h.block b hb hn)⟩
theorem Fr.drew (h : Fr K w w1) : Fr K w w1.drew := ⟨h.os, h.tape, h.output, h.size, h.block⟩
theorem Fr.drewN (h : Fr K w w1) (n : Nat) : Fr K w (w1.drewN n) := ⟨h.os, h.tape, h.output, h.size, h.block⟩
theorem Fr.put (h : Fr K w w1) {b : Nat} (hb : b < w.heap.size → K b) (cs : Array Value) (T : TypeId) : Fr K w (put w1 b cs T) :=
  ⟨h.os, h.tape, h.output, by rw [put_size]; exact h.size, fun k hk hn => (put_heap_ne _ _ _ _ _ (fun e => hn (by rw [e]; exact hb (by rw [← e]; exact hk)))).trans (h.block k hk hn)⟩
theorem putO_ne (w : World) (b k : Nat) (o : Obj) (h : k ≠ b) : (putO w b o).heap[k]? = w.heap[k]? := by
  simp [putO, Array.getElem?_setIfInBounds_ne (Ne.symm h)]
theorem putO_size (w : World) (b : Nat) (o : Obj) : (putO w b o).heap.size = w.heap.size := by simp [putO]
theorem Fr.putO (h : Fr K w w1) {b : Nat} (hb : b < w.heap.size → K b) (o : Obj) : Fr K w (putO w1 b o) :=
  ⟨h.os, h.tape, h.output, by rw [putO_size]; exact h.size, fun k hk hn => (putO_ne _ _ _ _ (fun e => hn (by rw [e]; exact hb (by rw [← e]; exact hk)))).trans (h.block k hk hn)⟩
theorem Fr.alloc (h : Fr K w w1) (o : Obj) : Fr K w (w1.alloc o) :=
  ⟨h.os, h.tape, h.output, by simp; exact Nat.le_succ_of_le h.size, fun k hk hn => (Below.heap_alloc _ _ _ (Nat.lt_of_lt_of_le hk h.size)).trans (h.block k hk hn)⟩
theorem Fr.of_tn {cb : Nat} {c : Nat → Int} (h : Tn w w1 cb c) : Fr (· = cb) w w1 := ⟨h.os, h.tape, h.output, h.size, fun k hk hn => h.block k hk hn⟩
theorem Blk.fr {b : Nat} {cs : Array Value} {T : TypeId} (h : Blk w b cs T) (k : Fr K w w1) (hn : ¬ K b) : Blk w1 b cs T := (k.block b h.lt hn).trans h
theorem Sl.fr {v : Value} {T : TypeId} {es n : Nat} {xs : List Value} (h : Sl w v T es n xs) (k : Fr K w w1) (hn : ∀ b, v.ownBlock = some b → ¬ K b) : Sl w1 v T es n xs := h.same fun b hb => k.block b (h.lt b hb) (hn b hb)
theorem MapB.fr {b : Nat} {f : Int → Int} (h : MapB w b f) (k : Fr K w w1) (hn : ¬ K b) : MapB w1 b f := h.same (k.block b h.lt hn)
end
theorem or_le {p : Prop} {a b k : Nat} (h : p ∨ a ≤ k) (hb : b ≤ a) : p ∨ b ≤ k := by
  rcases h with h | h
  · exact .inl h
  · exact .inr (Nat.le_trans hb h)
/-! ### The bus as data -/
structure TR where
  w : Bool
  a : Int
  d : Int
  e : Bool
  r : Int
def trow (t : TR) : List Value := [.bool t.w, .int .u32 t.a, .int .u32 t.d, .bool t.e, .int .u32 t.r]
structure BusD where
  m : Int → Int
  lat : List Int
  log : List TR
  busy : Bool
  left : Int
structure BusD.Ok (U : BusD) : Prop where
  lat : ∀ x ∈ U.lat, 0 ≤ x ∧ x ≤ 63
  llen : U.lat.length ≤ 16
  left : 0 ≤ U.left ∧ U.left ≤ 64
  busy : U.busy = true → 1 ≤ U.left ∧ U.log ≠ []
  mem : ∀ a, W32 (U.m a)
  glen : U.log.length < 1000000000000
def ubV (mb : Nat) (lv gv : Value) (busy : Bool) (left : Int) : Array Value := #[.map (some mb), lv, gv, .bool busy, .int .u32 left]
structure UB (w : World) (ub mb : Nat) (lv gv : Value) (U : BusD) : Prop where
  blk : Blk w ub (ubV mb lv gv U.busy U.left) 79
  map : MapB w mb U.m
  lat : Sl w lv 30 1 U.lat.length (prow U.lat)
  log : Sl w gv 68 5 U.log.length (U.log.flatMap trow)
section
variable {K : Nat → Prop} {w w1 w2 : World} {ub mb : Nat} {lv gv : Value} {U : BusD}
theorem UB.fr (h : UB w ub mb lv gv U) (k : Fr K w w1) (h1 : ¬ K ub) (h2 : ¬ K mb) (h3 : ∀ b, lv.ownBlock = some b → ¬ K b) (h4 : ∀ b, gv.ownBlock = some b → ¬ K b) : UB w1 ub mb lv gv U :=
  ⟨h.blk.fr k h1, h.map.fr k h2, h.lat.fr k h3, h.log.fr k h4⟩
theorem UB.below (h : UB w ub mb lv gv U) (k : Below w.heap.size w w1) : UB w1 ub mb lv gv U := h.fr (K := fun _ => False) (Fr.of_below k) (fun q => q) (fun q => q) (fun _ _ q => q) (fun _ _ q => q)
theorem UB.mu (h : UB w ub mb lv gv U) : mb ≠ ub := h.map.neB h.blk
theorem UB.lu (h : UB w ub mb lv gv U) : ∀ k, lv.ownBlock = some k → k ≠ ub := h.blk.sl_ne (by decide) h.lat
theorem UB.gu (h : UB w ub mb lv gv U) : ∀ k, gv.ownBlock = some k → k ≠ ub := h.blk.sl_ne (by decide) h.log
theorem UB.lm (h : UB w ub mb lv gv U) : ∀ k, lv.ownBlock = some k → k ≠ mb := Sl.ne_map h.map h.lat
theorem UB.gm (h : UB w ub mb lv gv U) : ∀ k, gv.ownBlock = some k → k ≠ mb := Sl.ne_map h.map h.log
theorem UB.lg (h : UB w ub mb lv gv U) : ∀ k, lv.ownBlock = some k → gv.ownBlock ≠ some k := Sl.ne_sl (by decide) h.lat h.log
/-- The struct's row laid anew. -/
theorem UB.row (h : UB w ub mb lv gv U) {lv' gv' : Value} {U' : BusD} (hm : U'.m = U.m) (hl : Sl w lv' 30 1 U'.lat.length (prow U'.lat)) (hg : Sl w gv' 68 5 U'.log.length (U'.log.flatMap trow)) :
    UB (put w ub (ubV mb lv' gv' U'.busy U'.left) 79) ub mb lv' gv' U' :=
  ⟨Blk.put_same h.blk.lt, by rw [hm]; exact h.map.same (put_heap_ne _ _ _ _ _ h.mu), hl.same fun k hk => put_heap_ne _ _ _ _ _ (h.blk.sl_ne (by decide) hl k hk), hg.same fun k hk => put_heap_ne _ _ _ _ _ (h.blk.sl_ne (by decide) hg k hk)⟩
end
def mapF (a : Int) : Bool := decide (a < 4096) && a % 4 == 0
theorem tmod4 (a : Int) (h : 0 ≤ a) : a.tmod 4 = a % 4 := Int.tmod_eq_emod_of_nonneg h
set_option maxRecDepth 100000 in
theorem mapped_any (a : Int) (h0 : W32 a) (w : World) : Calls Try.prog 55 #[.int .u32 a] w fun e w' => e = .returned (.bool (mapF a)) ∧ w' = w := by
  have ht := tmod4 a h0.1
  have hr : (a % 4) % 4294967296 = a % 4 := by omega
  clear h0
  by_cases h : a < 4096
  · obtain ⟨z, hz⟩ : ∃ z, (a % 4 == 0) = z := ⟨_, rfl⟩
    have HE : Hid (mapF a = z) := by unfold Hid mapF; rw [decide_eq_true h, hz]; rfl
    rw [HE.out]
    go_enter Try.func55, Try.ntmps55
    go_wp2_with fail
    go_ret
    exact ⟨rfl, rfl⟩
  · have HE : Hid (mapF a = false) := by unfold Hid mapF; rw [decide_eq_false h]; rfl
    rw [HE.out]
    go_enter Try.func55, Try.ntmps55
    go_wp2_with fail
    go_ret
    exact ⟨rfl, rfl⟩
set_option maxRecDepth 100000 in
theorem zero30 (w : World) : (zeroValue 30).run Try.prog w = .ok (.int .u32 0) w := by go_simp
def KI (ub mb : Nat) (gv : Value) : Nat → Prop := fun k => k = ub ∨ k = mb ∨ gv.ownBlock = some k
structure IR (w w1 : World) (ub mb : Nat) (lv0 gv0 lv gv : Value) (qb rb : Nat) (qv rv : Array Value) (U : BusD) : Prop where
  fr : Fr (KI ub mb gv0) w w1
  u : UB w1 ub mb lv gv U
  hq : Blk w1 qb qv 64
  hr : Blk w1 rb rv 66
  lq : w.heap.size ≤ qb
  lr : w.heap.size ≤ rb
  hu : ub < w.heap.size
  hm : mb < w.heap.size
  lo : ∀ k, lv.ownBlock = some k → lv0.ownBlock = some k
  go : ∀ k, gv.ownBlock = some k → gv0.ownBlock = some k ∨ w.heap.size ≤ k
section
variable {w w1 w2 : World} {ub mb : Nat} {lv0 gv0 lv gv : Value} {qb rb : Nat} {qv rv : Array Value} {U : BusD}
theorem IR.below (h : IR w w1 ub mb lv0 gv0 lv gv qb rb qv rv U) (k : Below w1.heap.size w1 w2) : IR w w2 ub mb lv0 gv0 lv gv qb rb qv rv U :=
  ⟨h.fr.below (k.mono h.fr.size), h.u.below k, (k.block _ h.hq.lt).trans h.hq, (k.block _ h.hr.lt).trans h.hr, h.lq, h.lr, h.hu, h.hm, h.lo, h.go⟩
theorem IR.drew (h : IR w w1 ub mb lv0 gv0 lv gv qb rb qv rv U) : IR w w1.drew ub mb lv0 gv0 lv gv qb rb qv rv U := h.below ⟨rfl, rfl, rfl, Nat.le_refl _, fun _ _ => rfl⟩
theorem IR.drewN (h : IR w w1 ub mb lv0 gv0 lv gv qb rb qv rv U) (n : Nat) : IR w (w1.drewN n) ub mb lv0 gv0 lv gv qb rb qv rv U := h.below ⟨rfl, rfl, rfl, Nat.le_refl _, fun _ _ => rfl⟩
theorem IR.resp (h : IR w w1 ub mb lv0 gv0 lv gv qb rb qv rv U) (rv' : Array Value) : IR w (put w1 rb rv' 66) ub mb lv0 gv0 lv gv qb rb qv rv' U := by
  have f1 : Fr (· = rb) w1 (put w1 rb rv' 66) := (Fr.refl (· = rb) w1).put (fun _ => rfl) _ _
  have h1 := h.hu
  have h2 := h.hm
  have h3 := h.lr
  exact ⟨h.fr.put (fun q => absurd q (by omega)) _ _, h.u.fr f1 (by omega) (by omega) (fun b hb => h.hr.sl_ne (by decide) h.u.lat b hb) (fun b hb => h.hr.sl_ne (by decide) h.u.log b hb), h.hq.put_ne (h.hq.neT h.hr (by decide)), Blk.put_same h.hr.lt, h.lq, h.lr, h.hu, h.hm, h.lo, h.go⟩
theorem IR.upd (h : IR w w1 ub mb lv0 gv0 lv gv qb rb qv rv U) (o : Obj) (f : Int → Int) (hf : MapB (putO w1 mb o) mb f) : IR w (putO w1 mb o) ub mb lv0 gv0 lv gv qb rb qv rv { U with m := f } :=
  ⟨h.fr.putO (fun _ => .inr (.inl rfl)) _, ⟨(putO_ne _ _ _ _ (Ne.symm h.u.mu)).trans h.u.blk, hf, h.u.lat.same fun k hk => putO_ne _ _ _ _ (h.u.lm k hk), h.u.log.same fun k hk => putO_ne _ _ _ _ (h.u.gm k hk)⟩,
    (putO_ne _ _ _ _ (Ne.symm (h.u.map.neB h.hq))).trans h.hq, (putO_ne _ _ _ _ (Ne.symm (h.u.map.neB h.hr))).trans h.hr, h.lq, h.lr, h.hu, h.hm, h.lo, h.go⟩
theorem IR.row (h : IR w w1 ub mb lv0 gv0 lv gv qb rb qv rv U) {lv' gv' : Value} {U' : BusD} (hm : U'.m = U.m) (hl : Sl w1 lv' 30 1 U'.lat.length (prow U'.lat)) (hg : Sl w1 gv' 68 5 U'.log.length (U'.log.flatMap trow)) (ho1 : ∀ k, lv'.ownBlock = some k → lv0.ownBlock = some k) (ho2 : ∀ k, gv'.ownBlock = some k → gv0.ownBlock = some k ∨ w.heap.size ≤ k) :
    IR w (put w1 ub (ubV mb lv' gv' U'.busy U'.left) 79) ub mb lv0 gv0 lv' gv' qb rb qv rv U' :=
  ⟨h.fr.put (fun _ => .inl rfl) _ _, h.u.row hm hl hg, h.hq.put_ne (h.hq.neT h.u.blk (by decide)), h.hr.put_ne (h.hr.neT h.u.blk (by decide)), h.lq, h.lr, h.hu, h.hm, ho1, ho2⟩
theorem IR.grow (h : IR w w1 ub mb lv0 gv0 lv gv qb rb qv rv U) (hgr : w1.grownBy w2 gv.ownBlock) {gv' : Value} (t : TR) (hs : Sl w2 gv' 68 5 (U.log.length + 1) (U.log.flatMap trow ++ trow t)) (hn : ∀ k, gv'.ownBlock = some k → gv.ownBlock = some k ∨ w1.heap.size ≤ k) :
    IR w (put w2 ub (ubV mb lv gv' U.busy U.left) 79) ub mb lv0 gv0 lv gv' qb rb qv rv { U with log := U.log ++ [t] } := by
  have f1 : Fr (fun k => gv.ownBlock = some k) w1 w2 := ⟨hgr.os, hgr.tape, hgr.output, hgr.size, fun k hk hn => hgr.block k hk (Ne.symm hn)⟩
  have nq : gv.ownBlock ≠ some qb := fun e => h.hq.sl_ne (by decide) h.u.log qb e rfl
  have nr : gv.ownBlock ≠ some rb := fun e => h.hr.sl_ne (by decide) h.u.log rb e rfl
  have nu : gv.ownBlock ≠ some ub := fun e => h.u.gu ub e rfl
  have nm : gv.ownBlock ≠ some mb := fun e => h.u.gm mb e rfl
  have f0 : Fr (KI ub mb gv0) w w2 := h.fr.trans' f1 fun b hb hk => by
    rcases h.go b hk with q | q
    · exact .inr (.inr q)
    · omega
  have hb2 : Blk w2 ub (ubV mb lv gv U.busy U.left) 79 := h.u.blk.fr f1 nu
  have hu2 : UB (put w2 ub (ubV mb lv gv' U.busy U.left) 79) ub mb lv gv' { U with log := U.log ++ [t] } :=
    ⟨Blk.put_same hb2.lt, (h.u.map.fr f1 nm).same (put_heap_ne _ _ _ _ _ h.u.mu), (h.u.lat.fr f1 fun b hb => h.u.lg b hb).same fun k hk => put_heap_ne _ _ _ _ _ (h.u.lu k hk), by
      have e1 : (U.log ++ [t]).length = U.log.length + 1 := by simp
      have e2 : (U.log ++ [t]).flatMap trow = U.log.flatMap trow ++ trow t := by simp
      show Sl _ gv' 68 5 (U.log ++ [t]).length ((U.log ++ [t]).flatMap trow)
      rw [e1, e2]
      exact hs.same fun k hk => put_heap_ne _ _ _ _ _ (hb2.sl_ne (by decide) hs k hk)⟩
  refine ⟨f0.put (fun _ => .inl rfl) _ _, hu2, (h.hq.fr f1 nq).put_ne (h.hq.neT h.u.blk (by decide)), (h.hr.fr f1 nr).put_ne (h.hr.neT h.u.blk (by decide)), h.lq, h.lr, h.hu, h.hm, h.lo, fun k hk => ?_⟩
  rcases hn k hk with q | q
  · exact h.go k q
  · exact .inr (Nat.le_trans h.fr.size q)
end
theorem ir_start {w : World} {ub mb : Nat} {lv gv : Value} {U : BusD} (h : UB w ub mb lv gv U) (qv rv : Array Value) : IR w ((w.alloc (.cells qv 64)).alloc (.cells rv 66)) ub mb lv gv lv gv w.heap.size (w.heap.size + 1) qv rv U := by
  have b4 : Below w.heap.size w ((w.alloc (.cells qv 64)).alloc (.cells rv 66)) := ((Below.refl _ _).alloc (Nat.le_refl _) _).alloc (by simp) _
  have hq : Blk ((w.alloc (.cells qv 64)).alloc (.cells rv 66)) w.heap.size qv 64 := (Below.heap_alloc _ _ _ (by simp)).trans (Blk.new w qv 64)
  have hr : Blk ((w.alloc (.cells qv 64)).alloc (.cells rv 66)) (w.heap.size + 1) rv 66 := by
    have := Blk.new (w.alloc (.cells qv 64)) rv 66
    simpa using this
  exact ⟨Fr.of_below b4, h.below b4, hq, hr, Nat.le_refl _, by omega, h.blk.lt, h.map.lt, fun _ h => h, fun _ h => .inl h⟩
end Go.Proofs.Qxb6500749a
