import Derived.Test.Qxb6500749aPst
import Derived.Test.Qxb6500749aDst
namespace Go.Proofs.Qxb6500749a
open Go.RowKit
/-! ### Pieces of the rig, with their marks -/
def BlkM (own : Nat → Nat) (w : World) (b : Nat) (cs : Array Value) (T : TypeId) (m : Nat) : Prop := Blk w b cs T ∧ own b = m
def SlM (own : Nat → Nat) (w : World) (v : Value) (T : TypeId) (es n : Nat) (xs : List Value) (m : Nat) : Prop := Sl w v T es n xs ∧ ∀ k, v.ownBlock = some k → own k = m
def MapM (own : Nat → Nat) (w : World) (b : Nat) (f : Int → Int) (m : Nat) : Prop := MapB w b f ∧ own b = m
structure UBM (own : Nat → Nat) (w : World) (ub mb : Nat) (lv gv : Value) (U : BusD) (m : Nat) : Prop where
  u : UB w ub mb lv gv U
  o1 : own ub = m
  o2 : own mb = m + 1
  o3 : ∀ k, lv.ownBlock = some k → own k = m + 2
  o4 : ∀ k, gv.ownBlock = some k → own k = m + 3
structure BRM (own : Nat → Nat) (w : World) (bb cb : Nat) (fv : Value) (B : BD) (m : Nat) : Prop where
  b : BR w bb cb fv B
  o1 : own bb = m
  o2 : own cb = m + 1
  o3 : ∀ k, fv.ownBlock = some k → own k = 10
theorem Fr.ext {own own' : Nat → Nat} {S K : Nat → Prop} {w w' : World} (f : Fr K w w') (hK : ∀ k, k < w.heap.size → K k → S (own k)) (ha : ∀ k, k < w.heap.size → own' k = own k) : Ext own own' S w w' :=
  ⟨f.os, f.tape, f.output, f.size, ha, fun k hk hs => f.block k hk fun q => hs (hK k hk q)⟩
theorem Ext.fr {own own' : Nat → Nat} {S : Nat → Prop} {w w' : World} (h : Ext own own' S w w') : Fr (fun k => S (own k)) w w' := ⟨h.os, h.tape, h.output, h.size, h.block⟩
section
variable {own own' : Nat → Nat} {S : Nat → Prop} {w w' : World} {m : Nat}
theorem BlkM.ext {b : Nat} {cs : Array Value} {T : TypeId} (h : BlkM own w b cs T m) (e : Ext own own' S w w') (hs : ¬ S m) : BlkM own' w' b cs T m :=
  ⟨h.1.fr e.fr (by rw [h.2]; exact hs), (e.keep b h.1.lt).trans h.2⟩
theorem SlM.ext {v : Value} {T : TypeId} {es n : Nat} {xs : List Value} (h : SlM own w v T es n xs m) (e : Ext own own' S w w') (hs : ¬ S m) : SlM own' w' v T es n xs m :=
  ⟨h.1.fr e.fr fun b hb => by rw [h.2 b hb]; exact hs, fun k hk => (e.keep k (h.1.lt k hk)).trans (h.2 k hk)⟩
theorem MapM.ext {b : Nat} {f : Int → Int} (h : MapM own w b f m) (e : Ext own own' S w w') (hs : ¬ S m) : MapM own' w' b f m :=
  ⟨h.1.fr e.fr (by rw [h.2]; exact hs), (e.keep b h.1.lt).trans h.2⟩
theorem UBM.ext {ub mb : Nat} {lv gv : Value} {U : BusD} (h : UBM own w ub mb lv gv U m) (e : Ext own own' S w w') (h1 : ¬ S m) (h2 : ¬ S (m + 1)) (h3 : ¬ S (m + 2)) (h4 : ¬ S (m + 3)) : UBM own' w' ub mb lv gv U m :=
  ⟨h.u.fr e.fr (by rw [h.o1]; exact h1) (by rw [h.o2]; exact h2) (fun b hb => by rw [h.o3 b hb]; exact h3) (fun b hb => by rw [h.o4 b hb]; exact h4),
    (e.keep _ h.u.blk.lt).trans h.o1, (e.keep _ h.u.map.lt).trans h.o2, fun k hk => (e.keep k (h.u.lat.lt k hk)).trans (h.o3 k hk), fun k hk => (e.keep k (h.u.log.lt k hk)).trans (h.o4 k hk)⟩
theorem BRM.ext {bb cb : Nat} {fv : Value} {B : BD} (h : BRM own w bb cb fv B m) (e : Ext own own' S w w') (h1 : ¬ S m) (h2 : ¬ S (m + 1)) (h3 : ¬ S 10) : BRM own' w' bb cb fv B m :=
  ⟨⟨h.b.blk.fr e.fr (by rw [h.o1]; exact h1), h.b.cel.fr e.fr (by rw [h.o2]; exact h2), h.b.sl.fr e.fr fun b hb => by rw [h.o3 b hb]; exact h3, h.b.ok, h.b.len, h.b.now⟩,
    (e.keep _ h.b.blk.lt).trans h.o1, (e.keep _ h.b.cel.lt).trans h.o2, fun k hk => (e.keep k (h.b.sl.lt k hk)).trans (h.o3 k hk)⟩
end
/-! ### The rig as data -/
structure RG where
  prog : List Int
  img : Int → Int
  uP : BusD
  uD : BusD
  hc : Bool
  ho : Bool
  fc : FD
  fo : FD
  kc : Bool
  ko : Bool
  hd : Bool
  desc : Int
  run : Bool
  BP : BD
  last : REP
  DM : DD
  BM : BD
  reps : List REP
/-- Where it lies. -/
structure LY where
  rg : Nat
  img : Nat
  ubP : Nat
  mbP : Nat
  ubD : Nat
  mbD : Nat
  pb : Nat
  bbP : Nat
  cbP : Nat
  db : Nat
  bbD : Nat
  cbD : Nat
  pv : Value
  rv : Value
  fv : Value
  lvP : Value
  gvP : Value
  lvD : Value
  gvD : Value
def ptr (r : Bool) (b : Nat) : Value := .pointer (if r = true then some ⟨b, 0, none⟩ else none)
def rigV (L : LY) (R : RG) : Array Value := #[L.pv, .map (some L.img), .pointer (some ⟨L.ubP, 0, none⟩), .pointer (some ⟨L.ubD, 0, none⟩), .bool R.hc, .bool R.ho,
  .int .u32 R.fc.site, .int .u32 (R.fc.bit : Nat), .int .u32 R.fc.cyc, .int .u32 R.fc.dur, .int .u8 R.fc.kind, .int .u32 R.fo.site, .int .u32 (R.fo.bit : Nat), .int .u32 R.fo.cyc, .int .u32 R.fo.dur, .int .u8 R.fo.kind,
  .bool R.kc, .bool R.ko, .bool R.hd, .int .u32 R.desc, ptr R.run L.pb, ptr R.run L.db, L.rv]
def reprow (r : REP) : List Value := (repV r).toList
structure RR (own : Nat → Nat) (w : World) (L : LY) (R : RG) : Prop where
  rg : BlkM own w L.rg (rigV L R) 38 6
  prog : SlM own w L.pv 30 1 R.prog.length (prow R.prog) 7
  img : MapM own w L.img R.img 8
  reps : SlM own w L.rv 51 13 R.reps.length (R.reps.flatMap reprow) 9
  uP : UBM own w L.ubP L.mbP L.lvP L.gvP R.uP 2
  uD : UBM own w L.ubD L.mbD L.lvD L.gvD R.uD 15
  pair : R.run = true → BlkM own w L.pb (pairV L.bbP L.ubP L.pv R.last) 93 11
  bP : R.run = true → BRM own w L.bbP L.cbP L.fv R.BP 0
  dma : R.run = true → BlkM own w L.db (dmaV L.bbD L.ubD R.DM) 97 12
  bD : R.run = true → BRM own w L.bbD L.cbD L.fv R.BM 13
theorem RR.ext {own own' : Nat → Nat} {S : Nat → Prop} {w w' : World} {L : LY} {R : RG} (h : RR own w L R) (e : Ext own own' S w w') (hs : ∀ k, k ≤ 18 → ¬ S k) : RR own' w' L R :=
  ⟨h.rg.ext e (hs _ (by decide)), h.prog.ext e (hs _ (by decide)), h.img.ext e (hs _ (by decide)), h.reps.ext e (hs _ (by decide)), h.uP.ext e (hs _ (by decide)) (hs _ (by decide)) (hs _ (by decide)) (hs _ (by decide)), h.uD.ext e (hs _ (by decide)) (hs _ (by decide)) (hs _ (by decide)) (hs _ (by decide)),
    fun q => (h.pair q).ext e (hs _ (by decide)), fun q => (h.bP q).ext e (hs _ (by decide)) (hs _ (by decide)) (hs _ (by decide)), fun q => (h.dma q).ext e (hs _ (by decide)), fun q => (h.bD q).ext e (hs _ (by decide)) (hs _ (by decide)) (hs _ (by decide))⟩
theorem RR.below {own : Nat → Nat} {w w' : World} {L : LY} {R : RG} (h : RR own w L R) (k : Below w.heap.size w w') : RR own w' L R :=
  h.ext (S := fun _ => False) (Ext.of_below k) (fun _ _ q => q)
theorem RR.drew {own : Nat → Nat} {w : World} {L : LY} {R : RG} (h : RR own w L R) : RR own w.drew L R := h.below ⟨rfl, rfl, rfl, Nat.le_refl _, fun _ _ => rfl⟩
/-- The marks, with the new block of v marked m and all other new ones 50. -/
def nmark (own : Nat → Nat) (B : Nat) (v : Value) (m : Nat) : Nat → Nat := fun k => if k < B then own k else if v.ownBlock = some k then m else 50
theorem nmark_lt {own : Nat → Nat} {B : Nat} {v : Value} {m k : Nat} (h : k < B) : nmark own B v m k = own k := if_pos h
theorem nmark_v {own : Nat → Nat} {B : Nat} {v v0 : Value} {m : Nat} (ho : ∀ k, v0.ownBlock = some k → own k = m) (hv : ∀ k, v.ownBlock = some k → v0.ownBlock = some k ∨ B ≤ k) : ∀ k, v.ownBlock = some k → nmark own B v m k = m := by
  intro k hk
  unfold nmark
  split
  · rename_i hl
    rcases hv k hk with q | q
    · exact ho k q
    · omega
  · rfl
section
variable {own : Nat → Nat} {w w' : World} {L : LY} {R : RG}
/-- The rig's row laid anew (scalars alone). -/
theorem RR.row (h : RR own w L R) {R' : RG} (e : R' = { R with hc := R'.hc, ho := R'.ho, fc := R'.fc, fo := R'.fo, hd := R'.hd, desc := R'.desc }) :
    RR own (put w L.rg (rigV L R') 38) L R' ∧ Ext own own (fun k => k ≤ 18) w (put w L.rg (rigV L R') 38) := by
  have x : Ext own own (fun k => k = 6) w (put w L.rg (rigV L R') 38) := Ext.put h.rg.2
  have hr : R'.run = R.run := by rw [e]
  have e1 : R'.prog = R.prog := by rw [e]
  have e2 : R'.img = R.img := by rw [e]
  have e3 : R'.reps = R.reps := by rw [e]
  have e4 : R'.uP = R.uP := by rw [e]
  have e5 : R'.uD = R.uD := by rw [e]
  have e6 : R'.last = R.last := by rw [e]
  have e7 : R'.BP = R.BP := by rw [e]
  have e8 : R'.DM = R.DM := by rw [e]
  have e9 : R'.BM = R.BM := by rw [e]
  refine ⟨⟨⟨Blk.put_same h.rg.1.lt, h.rg.2⟩, ?_, ?_, ?_, ?_, ?_, fun q => ?_, fun q => ?_, fun q => ?_, fun q => ?_⟩, x.mono (fun k hk => by omega)⟩
  · rw [e1]; exact h.prog.ext x (by decide)
  · rw [e2]; exact h.img.ext x (by decide)
  · rw [e3]; exact h.reps.ext x (by decide)
  · rw [e4]; exact h.uP.ext x (by decide) (by decide) (by decide) (by decide)
  · rw [e5]; exact h.uD.ext x (by decide) (by decide) (by decide) (by decide)
  · rw [e6]; exact (h.pair (by rw [← hr]; exact q)).ext x (by decide)
  · rw [e7]; exact (h.bP (by rw [← hr]; exact q)).ext x (by decide) (by decide) (by decide)
  · rw [e8]; exact (h.dma (by rw [← hr]; exact q)).ext x (by decide)
  · rw [e9]; exact (h.bD (by rw [← hr]; exact q)).ext x (by decide) (by decide) (by decide)
/-- The pair's bus has turned (poked: its map alone). -/
theorem RR.pokeP (h : RR own w L R) {U : BusD} (hu : UB w' L.ubP L.mbP L.lvP L.gvP U) (f : Fr (· = L.mbP) w w') : RR own w' L { R with uP := U } ∧ Ext own own (fun k => k ≤ 18) w w' := by
  have x : Ext own own (fun k => k = 3) w w' := f.ext (fun k _ e => by rw [e]; exact h.uP.o2) (fun _ _ => rfl)
  exact ⟨⟨h.rg.ext x (by decide), h.prog.ext x (by decide), h.img.ext x (by decide), h.reps.ext x (by decide), ⟨hu, h.uP.o1, h.uP.o2, h.uP.o3, h.uP.o4⟩, h.uD.ext x (by decide) (by decide) (by decide) (by decide),
    fun q => (h.pair q).ext x (by decide), fun q => (h.bP q).ext x (by decide) (by decide) (by decide), fun q => (h.dma q).ext x (by decide), fun q => (h.bD q).ext x (by decide) (by decide) (by decide)⟩, x.mono (fun k hk => by omega)⟩
theorem RR.pokeD (h : RR own w L R) {U : BusD} (hu : UB w' L.ubD L.mbD L.lvD L.gvD U) (f : Fr (· = L.mbD) w w') : RR own w' L { R with uD := U } ∧ Ext own own (fun k => k ≤ 18) w w' := by
  have x : Ext own own (fun k => k = 16) w w' := f.ext (fun k _ e => by rw [e]; exact h.uD.o2) (fun _ _ => rfl)
  exact ⟨⟨h.rg.ext x (by decide), h.prog.ext x (by decide), h.img.ext x (by decide), h.reps.ext x (by decide), h.uP.ext x (by decide) (by decide) (by decide) (by decide), ⟨hu, h.uD.o1, h.uD.o2, h.uD.o3, h.uD.o4⟩,
    fun q => (h.pair q).ext x (by decide), fun q => (h.bP q).ext x (by decide) (by decide) (by decide), fun q => (h.dma q).ext x (by decide), fun q => (h.bD q).ext x (by decide) (by decide) (by decide)⟩, x.mono (fun k hk => by omega)⟩
theorem RR.image (h : RR own w L R) {f : Int → Int} (o : Obj) (hf : MapB (putO w L.img o) L.img f) : RR own (putO w L.img o) L { R with img := f } ∧ Ext own own (fun k => k ≤ 18) w (putO w L.img o) := by
  have x : Ext own own (fun k => k = 8) w (putO w L.img o) := ((Fr.refl (· = L.img) w).putO (fun _ => rfl) o).ext (fun k _ e => by rw [e]; exact h.img.2) (fun _ _ => rfl)
  exact ⟨⟨h.rg.ext x (by decide), h.prog.ext x (by decide), ⟨hf, h.img.2⟩, h.reps.ext x (by decide), h.uP.ext x (by decide) (by decide) (by decide) (by decide), h.uD.ext x (by decide) (by decide) (by decide) (by decide),
    fun q => (h.pair q).ext x (by decide), fun q => (h.bP q).ext x (by decide) (by decide) (by decide), fun q => (h.dma q).ext x (by decide), fun q => (h.bD q).ext x (by decide) (by decide) (by decide)⟩, x.mono (fun k hk => by omega)⟩
theorem RR.queP (h : RR own w L R) {U : BusD} {lv : Value} (hu : UB w' L.ubP L.mbP lv L.gvP U) (f : Fr (KQ L.ubP L.lvP) w w') (ho : ∀ k, lv.ownBlock = some k → L.lvP.ownBlock = some k ∨ w.heap.size ≤ k) :
    RR (nmark own w.heap.size lv 4) w' { L with lvP := lv } { R with uP := U } ∧ Ext own (nmark own w.heap.size lv 4) (fun k => k ≤ 18) w w' := by
  have x : Ext own (nmark own w.heap.size lv 4) (fun k => k = 2 ∨ k = 4) w w' := f.ext (fun k _ e => by
    rcases e with e | e
    · rw [e]; exact .inl h.uP.o1
    · exact .inr (h.uP.o3 k e)) (fun _ hk => nmark_lt hk)
  exact ⟨⟨h.rg.ext x (by decide), h.prog.ext x (by decide), h.img.ext x (by decide), h.reps.ext x (by decide),
    ⟨hu, (x.keep _ h.uP.u.blk.lt).trans h.uP.o1, (x.keep _ h.uP.u.map.lt).trans h.uP.o2, nmark_v h.uP.o3 ho, fun k hk => (x.keep k (h.uP.u.log.lt k hk)).trans (h.uP.o4 k hk)⟩, h.uD.ext x (by decide) (by decide) (by decide) (by decide),
    fun q => (h.pair q).ext x (by decide), fun q => (h.bP q).ext x (by decide) (by decide) (by decide), fun q => (h.dma q).ext x (by decide), fun q => (h.bD q).ext x (by decide) (by decide) (by decide)⟩, x.mono (fun k hk => by omega)⟩
theorem RR.queD (h : RR own w L R) {U : BusD} {lv : Value} (hu : UB w' L.ubD L.mbD lv L.gvD U) (f : Fr (KQ L.ubD L.lvD) w w') (ho : ∀ k, lv.ownBlock = some k → L.lvD.ownBlock = some k ∨ w.heap.size ≤ k) :
    RR (nmark own w.heap.size lv 17) w' { L with lvD := lv } { R with uD := U } ∧ Ext own (nmark own w.heap.size lv 17) (fun k => k ≤ 18) w w' := by
  have x : Ext own (nmark own w.heap.size lv 17) (fun k => k = 15 ∨ k = 17) w w' := f.ext (fun k _ e => by
    rcases e with e | e
    · rw [e]; exact .inl h.uD.o1
    · exact .inr (h.uD.o3 k e)) (fun _ hk => nmark_lt hk)
  exact ⟨⟨h.rg.ext x (by decide), h.prog.ext x (by decide), h.img.ext x (by decide), h.reps.ext x (by decide), h.uP.ext x (by decide) (by decide) (by decide) (by decide),
    ⟨hu, (x.keep _ h.uD.u.blk.lt).trans h.uD.o1, (x.keep _ h.uD.u.map.lt).trans h.uD.o2, nmark_v h.uD.o3 ho, fun k hk => (x.keep k (h.uD.u.log.lt k hk)).trans (h.uD.o4 k hk)⟩,
    fun q => (h.pair q).ext x (by decide), fun q => (h.bP q).ext x (by decide) (by decide) (by decide), fun q => (h.dma q).ext x (by decide), fun q => (h.bD q).ext x (by decide) (by decide) (by decide)⟩, x.mono (fun k hk => by omega)⟩
/-- The pair has played a cycle. -/
theorem RR.stepP (h : RR own w L R) (hr : R.run = true) {B : BD} {U : BusD} {r : REP} {lv gv : Value} (hp : Blk w' L.pb (pairV L.bbP L.ubP L.pv r) 93) (hb : BR w' L.bbP L.cbP L.fv B) (hu : UB w' L.ubP L.mbP lv gv U) (f : Fr (KP L.pb L.bbP L.cbP L.ubP L.mbP L.gvP) w w')
    (hl : ∀ k, lv.ownBlock = some k → L.lvP.ownBlock = some k) (hg : ∀ k, gv.ownBlock = some k → L.gvP.ownBlock = some k ∨ w.heap.size ≤ k) :
    RR (nmark own w.heap.size gv 5) w' { L with lvP := lv, gvP := gv } { R with uP := U, BP := B, last := r } ∧ Ext own (nmark own w.heap.size gv 5) (fun k => k ≤ 18) w w' := by
  have x : Ext own (nmark own w.heap.size gv 5) (fun k => k = 11 ∨ k = 0 ∨ k = 1 ∨ k = 2 ∨ k = 3 ∨ k = 5) w w' := f.ext (fun k _ e => by
    rcases e with e | e | e | e | e | e
    · rw [e]; exact .inl (h.pair hr).2
    · rw [e]; exact .inr (.inl (h.bP hr).o1)
    · rw [e]; exact .inr (.inr (.inl (h.bP hr).o2))
    · rw [e]; exact .inr (.inr (.inr (.inl h.uP.o1)))
    · rw [e]; exact .inr (.inr (.inr (.inr (.inl h.uP.o2))))
    · exact .inr (.inr (.inr (.inr (.inr (h.uP.o4 k e)))))) (fun _ hk => nmark_lt hk)
  exact ⟨⟨h.rg.ext x (by decide), h.prog.ext x (by decide), h.img.ext x (by decide), h.reps.ext x (by decide),
    ⟨hu, (x.keep _ h.uP.u.blk.lt).trans h.uP.o1, (x.keep _ h.uP.u.map.lt).trans h.uP.o2, fun k hk => (x.keep k (h.uP.u.lat.lt k (hl k hk))).trans (h.uP.o3 k (hl k hk)), nmark_v h.uP.o4 hg⟩, h.uD.ext x (by decide) (by decide) (by decide) (by decide),
    fun _ => ⟨hp, (x.keep _ (h.pair hr).1.lt).trans (h.pair hr).2⟩, fun _ => ⟨hb, (x.keep _ (h.bP hr).b.blk.lt).trans (h.bP hr).o1, (x.keep _ (h.bP hr).b.cel.lt).trans (h.bP hr).o2, fun k hk => (x.keep k ((h.bP hr).b.sl.lt k hk)).trans ((h.bP hr).o3 k hk)⟩,
    fun q => (h.dma q).ext x (by decide), fun q => (h.bD q).ext x (by decide) (by decide) (by decide)⟩, x.mono (fun k hk => by omega)⟩
/-- The DMA master has played a cycle. -/
theorem RR.stepD (h : RR own w L R) (hr : R.run = true) {D : DD} {B : BD} {U : BusD} {lv gv : Value} (hp : Blk w' L.db (dmaV L.bbD L.ubD D) 97) (hb : BR w' L.bbD L.cbD L.fv B) (hu : UB w' L.ubD L.mbD lv gv U) (f : Fr (KP L.db L.bbD L.cbD L.ubD L.mbD L.gvD) w w')
    (hl : ∀ k, lv.ownBlock = some k → L.lvD.ownBlock = some k) (hg : ∀ k, gv.ownBlock = some k → L.gvD.ownBlock = some k ∨ w.heap.size ≤ k) :
    RR (nmark own w.heap.size gv 18) w' { L with lvD := lv, gvD := gv } { R with uD := U, BM := B, DM := D } ∧ Ext own (nmark own w.heap.size gv 18) (fun k => k ≤ 18) w w' := by
  have x : Ext own (nmark own w.heap.size gv 18) (fun k => k = 12 ∨ k = 13 ∨ k = 14 ∨ k = 15 ∨ k = 16 ∨ k = 18) w w' := f.ext (fun k _ e => by
    rcases e with e | e | e | e | e | e
    · rw [e]; exact .inl (h.dma hr).2
    · rw [e]; exact .inr (.inl (h.bD hr).o1)
    · rw [e]; exact .inr (.inr (.inl (h.bD hr).o2))
    · rw [e]; exact .inr (.inr (.inr (.inl h.uD.o1)))
    · rw [e]; exact .inr (.inr (.inr (.inr (.inl h.uD.o2))))
    · exact .inr (.inr (.inr (.inr (.inr (h.uD.o4 k e)))))) (fun _ hk => nmark_lt hk)
  exact ⟨⟨h.rg.ext x (by decide), h.prog.ext x (by decide), h.img.ext x (by decide), h.reps.ext x (by decide), h.uP.ext x (by decide) (by decide) (by decide) (by decide),
    ⟨hu, (x.keep _ h.uD.u.blk.lt).trans h.uD.o1, (x.keep _ h.uD.u.map.lt).trans h.uD.o2, fun k hk => (x.keep k (h.uD.u.lat.lt k (hl k hk))).trans (h.uD.o3 k (hl k hk)), nmark_v h.uD.o4 hg⟩,
    fun q => (h.pair q).ext x (by decide), fun q => (h.bP q).ext x (by decide) (by decide) (by decide),
    fun _ => ⟨hp, (x.keep _ (h.dma hr).1.lt).trans (h.dma hr).2⟩, fun _ => ⟨hb, (x.keep _ (h.bD hr).b.blk.lt).trans (h.bD hr).o1, (x.keep _ (h.bD hr).b.cel.lt).trans (h.bD hr).o2, fun k hk => (x.keep k ((h.bD hr).b.sl.lt k hk)).trans ((h.bD hr).o3 k hk)⟩⟩, x.mono (fun k hk => by omega)⟩
/-- The reports have grown; the row is laid anew. -/
theorem RR.report (h : RR own w L R) {rv : Value} (rs : List REP) (hgr : w.grownBy w' L.rv.ownBlock) (hs : Sl w' rv 51 13 rs.length (rs.flatMap reprow)) (hn : ∀ k, rv.ownBlock = some k → L.rv.ownBlock = some k ∨ w.heap.size ≤ k) :
    RR (nmark own w.heap.size rv 9) (put w' L.rg (rigV { L with rv := rv } R) 38) { L with rv := rv } { R with reps := rs } ∧ Ext own (nmark own w.heap.size rv 9) (fun k => k ≤ 18) w (put w' L.rg (rigV { L with rv := rv } R) 38) := by
  have f1 : Fr (fun k => L.rv.ownBlock = some k) w w' := ⟨hgr.os, hgr.tape, hgr.output, hgr.size, fun k hk hn => hgr.block k hk (Ne.symm hn)⟩
  have hb : Blk w' L.rg (rigV L R) 38 := h.rg.1.fr f1 (fun e => h.rg.1.sl_ne (by decide) h.reps.1 _ e rfl)
  have f2 : Fr (fun k => k = L.rg ∨ L.rv.ownBlock = some k) w (put w' L.rg (rigV { L with rv := rv } R) 38) := (f1.mono (fun _ _ q => .inr q)).put (fun _ => .inl rfl) _ _
  have x : Ext own (nmark own w.heap.size rv 9) (fun k => k = 6 ∨ k = 9) w (put w' L.rg (rigV { L with rv := rv } R) 38) := f2.ext (fun k _ e => by
    rcases e with e | e
    · rw [e]; exact .inl h.rg.2
    · exact .inr (h.reps.2 k e)) (fun _ hk => nmark_lt hk)
  refine ⟨⟨⟨Blk.put_same hb.lt, (x.keep _ h.rg.1.lt).trans h.rg.2⟩, h.prog.ext x (by decide), h.img.ext x (by decide), ⟨hs.same fun k hk => put_heap_ne _ _ _ _ _ (hb.sl_ne (by decide) hs k hk), nmark_v h.reps.2 hn⟩, h.uP.ext x (by decide) (by decide) (by decide) (by decide), h.uD.ext x (by decide) (by decide) (by decide) (by decide),
    fun q => (h.pair q).ext x (by decide), fun q => (h.bP q).ext x (by decide) (by decide) (by decide), fun q => (h.dma q).ext x (by decide), fun q => (h.bD q).ext x (by decide) (by decide) (by decide)⟩, x.mono (fun k hk => by omega)⟩
/-- The program has grown (not running). -/
theorem RR.instr (h : RR own w L R) (hr : R.run = false) {pv : Value} (ps : List Int) (hgr : w.grownBy w' L.pv.ownBlock) (hs : Sl w' pv 30 1 ps.length (prow ps)) (hn : ∀ k, pv.ownBlock = some k → L.pv.ownBlock = some k ∨ w.heap.size ≤ k) :
    RR (nmark own w.heap.size pv 7) (put w' L.rg (rigV { L with pv := pv } R) 38) { L with pv := pv } { R with prog := ps } ∧ Ext own (nmark own w.heap.size pv 7) (fun k => k ≤ 18) w (put w' L.rg (rigV { L with pv := pv } R) 38) := by
  have f1 : Fr (fun k => L.pv.ownBlock = some k) w w' := ⟨hgr.os, hgr.tape, hgr.output, hgr.size, fun k hk hn => hgr.block k hk (Ne.symm hn)⟩
  have hb : Blk w' L.rg (rigV L R) 38 := h.rg.1.fr f1 (fun e => h.rg.1.sl_ne (by decide) h.prog.1 _ e rfl)
  have f2 : Fr (fun k => k = L.rg ∨ L.pv.ownBlock = some k) w (put w' L.rg (rigV { L with pv := pv } R) 38) := (f1.mono (fun _ _ q => .inr q)).put (fun _ => .inl rfl) _ _
  have x : Ext own (nmark own w.heap.size pv 7) (fun k => k = 6 ∨ k = 7) w (put w' L.rg (rigV { L with pv := pv } R) 38) := f2.ext (fun k _ e => by
    rcases e with e | e
    · rw [e]; exact .inl h.rg.2
    · exact .inr (h.prog.2 k e)) (fun _ hk => nmark_lt hk)
  have no : ¬ R.run = true := by rw [hr]; decide
  exact ⟨⟨⟨Blk.put_same hb.lt, (x.keep _ h.rg.1.lt).trans h.rg.2⟩, ⟨hs.same fun k hk => put_heap_ne _ _ _ _ _ (hb.sl_ne (by decide) hs k hk), nmark_v h.prog.2 hn⟩, h.img.ext x (by decide), h.reps.ext x (by decide), h.uP.ext x (by decide) (by decide) (by decide) (by decide), h.uD.ext x (by decide) (by decide) (by decide) (by decide),
    fun q => absurd q no, fun q => absurd q no, fun q => absurd q no, fun q => absurd q no⟩, x.mono (fun k hk => by omega)⟩
end
end Go.Proofs.Qxb6500749a
