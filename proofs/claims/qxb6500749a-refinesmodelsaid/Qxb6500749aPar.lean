import Derived.Test.Qxb6500749aPai
namespace Go.Proofs.Qxb6500749a
open Go.RowKit
/-! ### The frame of the pair's step -/
def KP (pb bb cb ub mb : Nat) (gv : Value) : Nat → Prop := fun k => k = pb ∨ k = bb ∨ k = cb ∨ k = ub ∨ k = mb ∨ gv.ownBlock = some k
structure PR (w w1 : World) (pb bb cb ub mb : Nat) (fv pv lv0 gv0 lv gv : Value) (prog : List Int) (last : REP) (rb tb ib : Nat) (rv tv iv : Array Value) (B : BD) (U : BusD) : Prop where
  fr : Fr (KP pb bb cb ub mb gv0) w w1
  hp : Blk w1 pb (pairV bb ub pv last) 93
  br : BR w1 bb cb fv B
  u : UB w1 ub mb lv gv U
  sl : Sl w1 pv 30 1 prog.length (prow prog)
  hr : Blk w1 rb rv 51
  ht : Blk w1 tb tv 51
  hi : Blk w1 ib iv 112
  lr : w.heap.size ≤ rb
  lt : w.heap.size ≤ tb
  li : w.heap.size ≤ ib
  rt : rb ≠ tb
  lcb : cb < w.heap.size
  lub : ub < w.heap.size
  cp : ∀ k, pv.ownBlock = some k → k ≠ cb
  cl : ∀ k, lv0.ownBlock = some k → k ≠ cb
  lo : ∀ k, lv.ownBlock = some k → lv0.ownBlock = some k
  go : ∀ k, gv.ownBlock = some k → gv0.ownBlock = some k ∨ w.heap.size ≤ k
section
variable {w w1 w2 : World} {pb bb cb ub mb : Nat} {fv pv lv0 gv0 lv gv : Value} {prog : List Int} {last : REP} {rb tb ib : Nat} {rv tv iv : Array Value} {B : BD} {U : BusD}
theorem PR.below (h : PR w w1 pb bb cb ub mb fv pv lv0 gv0 lv gv prog last rb tb ib rv tv iv B U) (k : Below w1.heap.size w1 w2) : PR w w2 pb bb cb ub mb fv pv lv0 gv0 lv gv prog last rb tb ib rv tv iv B U :=
  ⟨h.fr.below (k.mono h.fr.size), (k.block _ h.hp.lt).trans h.hp, h.br.below k, h.u.below k, h.sl.same fun b hb => k.block b (h.sl.lt b hb), (k.block _ h.hr.lt).trans h.hr, (k.block _ h.ht.lt).trans h.ht, (k.block _ h.hi.lt).trans h.hi, h.lr, h.lt, h.li, h.rt, h.lcb, h.lub, h.cp, h.cl, h.lo, h.go⟩
theorem PR.drew (h : PR w w1 pb bb cb ub mb fv pv lv0 gv0 lv gv prog last rb tb ib rv tv iv B U) : PR w w1.drew pb bb cb ub mb fv pv lv0 gv0 lv gv prog last rb tb ib rv tv iv B U := h.below ⟨rfl, rfl, rfl, Nat.le_refl _, fun _ _ => rfl⟩
/-- One block of its own kind is turned. -/
theorem PR.tick (h : PR w w1 pb bb cb ub mb fv pv lv0 gv0 lv gv prog last rb tb ib rv tv iv B U) {U' : BusD} (hu : UB w2 ub mb lv gv U') (f : Fr (· = ub) w1 w2) : PR w w2 pb bb cb ub mb fv pv lv0 gv0 lv gv prog last rb tb ib rv tv iv B U' :=
  have nb : bb ≠ ub := h.br.blk.neT h.u.blk (by decide)
  have nc : cb ≠ ub := h.br.cel.neT h.u.blk (by decide)
  ⟨h.fr.trans' f fun b _ e => by subst e; exact .inr (.inr (.inr (.inl rfl))), h.hp.fr f (h.hp.neT h.u.blk (by decide)), ⟨h.br.blk.fr f nb, h.br.cel.fr f nc, h.br.sl.fr f fun b hb => h.u.blk.sl_ne (by decide) h.br.sl b hb, h.br.ok, h.br.len, h.br.now⟩, hu, h.sl.fr f fun b hb => h.u.blk.sl_ne (by decide) h.sl b hb,
    h.hr.fr f (h.hr.neT h.u.blk (by decide)), h.ht.fr f (h.ht.neT h.u.blk (by decide)), h.hi.fr f (h.hi.neT h.u.blk (by decide)), h.lr, h.lt, h.li, h.rt, h.lcb, h.lub, h.cp, h.cl, h.lo, h.go⟩
theorem PR.core (h : PR w w1 pb bb cb ub mb fv pv lv0 gv0 lv gv prog last rb tb ib rv tv iv B U) {B' : BD} (t : Tn w1 w2 cb B'.c) (e1 : B'.fs = B.fs) (e2 : B'.now = B.now) : PR w w2 pb bb cb ub mb fv pv lv0 gv0 lv gv prog last rb tb ib rv tv iv B' U :=
  have f := Fr.of_tn t
  ⟨h.fr.trans' f fun b _ e => by subst e; exact .inr (.inr (.inl rfl)), h.hp.fr f (h.hp.neT h.br.cel (by decide)), h.br.tn t e1 e2,
    h.u.fr f (fun e => h.br.cel.neT h.u.blk (by decide) e.symm) (fun e => h.u.map.neB h.br.cel e) (fun b hb => h.cl b (h.lo b hb)) (fun b hb => h.br.cel.sl_ne (by decide) h.u.log b hb), h.sl.fr f h.cp,
    h.hr.fr f (h.hr.neT h.br.cel (by decide)), h.ht.fr f (h.ht.neT h.br.cel (by decide)), h.hi.fr f (h.hi.neT h.br.cel (by decide)), h.lr, h.lt, h.li, h.rt, h.lcb, h.lub, h.cp, h.cl, h.lo, h.go⟩
theorem PR.iss (h : PR w w1 pb bb cb ub mb fv pv lv0 gv0 lv gv prog last rb tb ib rv tv iv B U) {U' : BusD} {lv' gv' : Value} (hu : UB w2 ub mb lv' gv' U') (f : Fr (KI ub mb gv) w1 w2) (ho : ∀ k, lv'.ownBlock = some k → lv.ownBlock = some k) (hg : ∀ k, gv'.ownBlock = some k → gv.ownBlock = some k ∨ w1.heap.size ≤ k) :
    PR w w2 pb bb cb ub mb fv pv lv0 gv0 lv' gv' prog last rb tb ib rv tv iv B U' := by
  have key : ∀ (b : Nat) (cs : Array Value) (T : TypeId), Blk w1 b cs T → T ≠ 79 → T ≠ 68 → ¬ KI ub mb gv b := by
    rintro b cs T hb h1 h2 (e | e | e)
    · exact hb.neT h.u.blk h1 e
    · exact h.u.map.neB hb e.symm
    · exact hb.sl_ne (fun q => h2 q.symm) h.u.log b e rfl
  have keyS : ∀ (v : Value) (T : TypeId) (es n : Nat) (xs : List Value), Sl w1 v T es n xs → T ≠ 79 → T ≠ 68 → ∀ b, v.ownBlock = some b → ¬ KI ub mb gv b := by
    rintro v T es n xs hs h1 h2 b hb (e | e | e)
    · exact h.u.blk.sl_ne h1 hs b hb e
    · exact Sl.ne_map h.u.map hs b hb e
    · exact Sl.ne_sl h2 hs h.u.log b hb e
  refine ⟨h.fr.trans' f fun b hb e => ?_, h.hp.fr f (key _ _ _ h.hp (by decide) (by decide)), ⟨h.br.blk.fr f (key _ _ _ h.br.blk (by decide) (by decide)), h.br.cel.fr f (key _ _ _ h.br.cel (by decide) (by decide)), h.br.sl.fr f (keyS _ _ _ _ _ h.br.sl (by decide) (by decide)), h.br.ok, h.br.len, h.br.now⟩, hu, h.sl.fr f (keyS _ _ _ _ _ h.sl (by decide) (by decide)),
    h.hr.fr f (key _ _ _ h.hr (by decide) (by decide)), h.ht.fr f (key _ _ _ h.ht (by decide) (by decide)), h.hi.fr f (key _ _ _ h.hi (by decide) (by decide)), h.lr, h.lt, h.li, h.rt, h.lcb, h.lub, h.cp, h.cl, fun k hk => h.lo k (ho k hk), fun k hk => ?_⟩
  · rcases e with e | e | e
    · exact .inr (.inr (.inr (.inl e)))
    · exact .inr (.inr (.inr (.inr (.inl e))))
    · rcases h.go b e with q | q
      · exact .inr (.inr (.inr (.inr (.inr q))))
      · omega
  · rcases hg k hk with q | q
    · exact h.go k q
    · exact .inr (Nat.le_trans h.fr.size q)
/-- A row of the call's own is laid anew. -/
theorem PR.own (h : PR w w1 pb bb cb ub mb fv pv lv0 gv0 lv gv prog last rb tb ib rv tv iv B U) {b : Nat} {cs cs' : Array Value} {T : TypeId} (hb : Blk w1 b cs T) (hl : w.heap.size ≤ b) (h1 : T = 51 ∨ T = 112) :
    Fr (KP pb bb cb ub mb gv0) w (put w1 b cs' T) ∧ Blk (put w1 b cs' T) pb (pairV bb ub pv last) 93 ∧ BR (put w1 b cs' T) bb cb fv B ∧ UB (put w1 b cs' T) ub mb lv gv U ∧ Sl (put w1 b cs' T) pv 30 1 prog.length (prow prog) := by
  have f : Fr (· = b) w1 (put w1 b cs' T) := (Fr.refl (· = b) w1).put (fun _ => rfl) _ _
  have key : ∀ (b' : Nat) (c2 : Array Value) (T' : TypeId), Blk w1 b' c2 T' → T' ≠ 51 → T' ≠ 112 → ¬ b' = b := fun b' c2 T' hb' h3 h4 => hb'.neT hb (by rcases h1 with rfl | rfl <;> assumption)
  have keyS : ∀ (v : Value) (T' : TypeId) (es n : Nat) (xs : List Value), Sl w1 v T' es n xs → T' ≠ 51 → T' ≠ 112 → ∀ k, v.ownBlock = some k → ¬ k = b := fun v T' es n xs hs h3 h4 k hk => hb.sl_ne (by rcases h1 with rfl | rfl <;> assumption) hs k hk
  exact ⟨h.fr.put (fun q => absurd q (by omega)) _ _, h.hp.fr f (key _ _ _ h.hp (by decide) (by decide)), ⟨h.br.blk.fr f (key _ _ _ h.br.blk (by decide) (by decide)), h.br.cel.fr f (key _ _ _ h.br.cel (by decide) (by decide)), h.br.sl.fr f (keyS _ _ _ _ _ h.br.sl (by decide) (by decide)), h.br.ok, h.br.len, h.br.now⟩,
    h.u.fr f (key _ _ _ h.u.blk (by decide) (by decide)) (fun e => h.u.map.neB hb e) (keyS _ _ _ _ _ h.u.lat (by decide) (by decide)) (keyS _ _ _ _ _ h.u.log (by decide) (by decide)), h.sl.fr f (keyS _ _ _ _ _ h.sl (by decide) (by decide))⟩
theorem PR.rep (h : PR w w1 pb bb cb ub mb fv pv lv0 gv0 lv gv prog last rb tb ib rv tv iv B U) (tv' : Array Value) : PR w (put w1 tb tv' 51) pb bb cb ub mb fv pv lv0 gv0 lv gv prog last rb tb ib rv tv' iv B U := by
  obtain ⟨a, b, c, d, e⟩ := h.own (cs' := tv') h.ht h.lt (.inl rfl)
  exact ⟨a, b, c, d, e, h.hr.put_ne h.rt, Blk.put_same h.ht.lt, h.hi.put_ne (h.hi.neT h.ht (by decide)), h.lr, h.lt, h.li, h.rt, h.lcb, h.lub, h.cp, h.cl, h.lo, h.go⟩
theorem PR.inp (h : PR w w1 pb bb cb ub mb fv pv lv0 gv0 lv gv prog last rb tb ib rv tv iv B U) (iv' : Array Value) : PR w (put w1 ib iv' 112) pb bb cb ub mb fv pv lv0 gv0 lv gv prog last rb tb ib rv tv iv' B U := by
  obtain ⟨a, b, c, d, e⟩ := h.own (cs' := iv') h.hi h.li (.inr rfl)
  exact ⟨a, b, c, d, e, h.hr.put_ne (h.hr.neT h.hi (by decide)), h.ht.put_ne (h.ht.neT h.hi (by decide)), Blk.put_same h.hi.lt, h.lr, h.lt, h.li, h.rt, h.lcb, h.lub, h.cp, h.cl, h.lo, h.go⟩
theorem PR.res (h : PR w w1 pb bb cb ub mb fv pv lv0 gv0 lv gv prog last rb tb ib rv tv iv B U) (rv' : Array Value) : PR w (put w1 rb rv' 51) pb bb cb ub mb fv pv lv0 gv0 lv gv prog last rb tb ib rv' tv iv B U := by
  obtain ⟨a, b, c, d, e⟩ := h.own (cs' := rv') h.hr h.lr (.inl rfl)
  exact ⟨a, b, c, d, e, Blk.put_same h.hr.lt, h.ht.put_ne (Ne.symm h.rt), h.hi.put_ne (h.hi.neT h.hr (by decide)), h.lr, h.lt, h.li, h.rt, h.lcb, h.lub, h.cp, h.cl, h.lo, h.go⟩
theorem PR.clock (h : PR w w1 pb bb cb ub mb fv pv lv0 gv0 lv gv prog last rb tb ib rv tv iv B U) (hn : B.now < 4294967295) : PR w (put w1 bb (bV cb fv (B.now + 1)) 125) pb bb cb ub mb fv pv lv0 gv0 lv gv prog last rb tb ib rv tv iv (nextB B) U := by
  have hb := h.br.blk
  have f : Fr (· = bb) w1 (put w1 bb (bV cb fv (B.now + 1)) 125) := (Fr.refl (· = bb) w1).put (fun _ => rfl) _ _
  have h9 := h.br.now
  refine ⟨h.fr.put (fun _ => .inr (.inl rfl)) _ _, h.hp.fr f (h.hp.neT hb (by decide)), ⟨Blk.put_same hb.lt, h.br.cel.fr f (h.br.cel.neT hb (by decide)), h.br.sl.fr f fun b hb' => hb.sl_ne (by decide) h.br.sl b hb', h.br.ok, h.br.len, ⟨by show 0 ≤ B.now + 1; omega, by show B.now + 1 < 4294967296; omega⟩⟩,
    h.u.fr f (h.u.blk.neT hb (by decide)) (fun e => h.u.map.neB hb e) (fun b q => hb.sl_ne (by decide) h.u.lat b q) (fun b q => hb.sl_ne (by decide) h.u.log b q), h.sl.fr f fun b q => hb.sl_ne (by decide) h.sl b q, h.hr.fr f (h.hr.neT hb (by decide)), h.ht.fr f (h.ht.neT hb (by decide)), h.hi.fr f (h.hi.neT hb (by decide)), h.lr, h.lt, h.li, h.rt, h.lcb, h.lub, h.cp, h.cl, h.lo, h.go⟩
theorem PR.last_ (h : PR w w1 pb bb cb ub mb fv pv lv0 gv0 lv gv prog last rb tb ib rv tv iv B U) (last' : REP) : PR w (put w1 pb (pairV bb ub pv last') 93) pb bb cb ub mb fv pv lv0 gv0 lv gv prog last' rb tb ib rv tv iv B U := by
  have hb := h.hp
  have f : Fr (· = pb) w1 (put w1 pb (pairV bb ub pv last') 93) := (Fr.refl (· = pb) w1).put (fun _ => rfl) _ _
  exact ⟨h.fr.put (fun _ => .inl rfl) _ _, Blk.put_same hb.lt, ⟨h.br.blk.fr f (h.br.blk.neT hb (by decide)), h.br.cel.fr f (h.br.cel.neT hb (by decide)), h.br.sl.fr f fun b hb' => hb.sl_ne (by decide) h.br.sl b hb', h.br.ok, h.br.len, h.br.now⟩,
    h.u.fr f (h.u.blk.neT hb (by decide)) (fun e => h.u.map.neB hb e) (fun b q => hb.sl_ne (by decide) h.u.lat b q) (fun b q => hb.sl_ne (by decide) h.u.log b q), h.sl.fr f fun b q => hb.sl_ne (by decide) h.sl b q, h.hr.fr f (h.hr.neT hb (by decide)), h.ht.fr f (h.ht.neT hb (by decide)), h.hi.fr f (h.hi.neT hb (by decide)), h.lr, h.lt, h.li, h.rt, h.lcb, h.lub, h.cp, h.cl, h.lo, h.go⟩
theorem PR.cr0 (h : PR w w1 pb bb cb ub mb fv pv lv0 gv0 lv gv prog last rb tb ib rv tv iv B U) : CR w1 pb 1 bb 0 pv := ⟨h.hp.cell 1, h.hp.cell 2, h.hp.cell 3⟩
theorem PR.cr1 (h : PR w w1 pb bb cb ub mb fv pv lv0 gv0 lv gv prog last rb tb ib rv tv iv B U) : CR w1 pb 4 bb 18 pv := ⟨h.hp.cell 4, h.hp.cell 5, h.hp.cell 6⟩
end
theorem pr_start {w : World} {pb bb cb ub mb : Nat} {fv pv lv gv : Value} {prog : List Int} {last : REP} {B : BD} {U : BusD} (hp : Blk w pb (pairV bb ub pv last) 93) (hb : BR w bb cb fv B) (hu : UB w ub mb lv gv U) (hs : Sl w pv 30 1 prog.length (prow prog)) (cp : ∀ k, pv.ownBlock = some k → k ≠ cb) (cl : ∀ k, lv.ownBlock = some k → k ≠ cb) (rv tv iv : Array Value) :
    PR w (((w.alloc (.cells rv 51)).alloc (.cells tv 51)).alloc (.cells iv 112)) pb bb cb ub mb fv pv lv gv lv gv prog last w.heap.size (w.heap.size + 1) (w.heap.size + 1 + 1) rv tv iv B U := by
  have b4 : Below w.heap.size w (((w.alloc (.cells rv 51)).alloc (.cells tv 51)).alloc (.cells iv 112)) := (((Below.refl _ _).alloc (Nat.le_refl _) _).alloc (by simp) _).alloc (by simp; omega) _
  have h1 : Blk (((w.alloc (.cells rv 51)).alloc (.cells tv 51)).alloc (.cells iv 112)) w.heap.size rv 51 := ((Below.heap_alloc _ _ _ (by simp; omega)).trans (Below.heap_alloc _ _ _ (by simp))).trans (Blk.new w rv 51)
  have h2 : Blk (((w.alloc (.cells rv 51)).alloc (.cells tv 51)).alloc (.cells iv 112)) (w.heap.size + 1) tv 51 := by
    refine (Below.heap_alloc _ _ _ (by simp)).trans ?_
    have := Blk.new (w.alloc (.cells rv 51)) tv 51
    rw [size_alloc'] at this
    exact this
  have h3 : Blk (((w.alloc (.cells rv 51)).alloc (.cells tv 51)).alloc (.cells iv 112)) (w.heap.size + 1 + 1) iv 112 := by
    have := Blk.new ((w.alloc (.cells rv 51)).alloc (.cells tv 51)) iv 112
    rw [size_alloc', size_alloc'] at this
    exact this
  exact ⟨Fr.of_below b4, (b4.block _ hp.lt).trans hp, hb.below b4, hu.below b4, hs.same fun b q => b4.block b (hs.lt b q), h1, h2, h3, Nat.le_refl _, by omega, by omega, by omega, hb.cel.lt, hu.blk.lt, cp, cl, fun _ h => h, fun _ h => .inl h⟩
end Go.Proofs.Qxb6500749a
