import Derived.Test.Qxb6500749aTrp
namespace Go.Proofs.Qxb6500749a
open Go.RowKit
attribute [local go_sem] put_size put_cell_same put_cell_ne put_frozen_same put_frozen_ne put_setCell_same put_setCell_ne put_drew
attribute [local go_sem] drewN_setCell drewN_alloc drewN_put
/-! ### One instruction played, as data -/
def zBU : BU := ⟨0, 0, 0⟩
def finF (base : Nat) (B : BD) (nx : Int) (o : BU) : BD × BU := (B.set (base + 16) nx, o)
def execI (base : Nat) (pc : Int) (i : IN) (B : BD) : BD × BU :=
  if i.op = 0 then finF base B ((pc + 1) % 4294967296) zBU
  else if i.op = 1 then (B.set (base + 17) 2, ⟨4, 0, 0⟩)
  else if i.op = 2 then finF base (B.set (base + i.rd) i.i16) ((pc + 1) % 4294967296) zBU
  else if i.op = 3 then finF base (B.set (base + i.rd) (i.i16 * 65536 % 4294967296)) ((pc + 1) % 4294967296) zBU
  else if i.op = 4 then finF base (B.set (base + i.rd) (B.get (base + i.ra))) ((pc + 1) % 4294967296) zBU
  else if i.op = 13 then finF base (B.set (base + i.rd) ((B.get (base + i.ra) + i.i12) % 4294967296)) ((pc + 1) % 4294967296) zBU
  else if i.op = 14 then finF base (B.set (base + i.rd) (bits BinOp.and IntKind.u32 (B.get (base + i.ra)) i.i12)) ((pc + 1) % 4294967296) zBU
  else if i.op = 17 then finF base (B.set (base + 17) (bits BinOp.or IntKind.u32 5 ((i.rd : Nat) * 16))) ((pc + 1) % 4294967296) ⟨1, (B.get (base + i.ra) + i.i12) % 4294967296, 0⟩
  else if i.op = 18 then finF base (B.set (base + 17) 1) ((pc + 1) % 4294967296) ⟨3, (B.get (base + i.ra) + i.i12) % 4294967296, B.get (base + i.rd)⟩
  else if i.op = 19 ∨ i.op = 20 ∨ i.op = 21 then finF base B (if takF i.op (B.get (base + i.ra)) (B.get (base + i.rb)) = true then (pc + i.i12) % 4294967296 else (pc + 1) % 4294967296) zBU
  else if i.op = 22 then finF base (B.set (base + i.rd) ((pc + 1) % 4294967296)) ((pc + i.i16) % 4294967296) zBU
  else if i.op = 23 then finF base B (B.get (base + i.ra)) zBU
  else if i.op < 17 then finF base (B.set (base + i.rd) (aluF i.op (B.get (base + i.ra)) (B.get (base + i.rb)))) ((pc + 1) % 4294967296) zBU
  else (B.set (base + 17) 3, ⟨8, 0, 0⟩)
def execF (prog : List Int) (base : Nat) (B : BD) : BD × BU := execI base (B.get (base + 16)) (decF (fetF prog (B.get (base + 16)))) B
/-! ### Words stay words -/
def W32 (x : Int) : Prop := 0 ≤ x ∧ x < 4294967296
def BD.Ok (B : BD) : Prop := ∀ i, W32 (B.c i)
theorem W32.emod (x : Int) : W32 (x % 4294967296) := ⟨by omega, by omega⟩
theorem W32.band (a b : Int) : W32 (Go.bits BinOp.and IntKind.u32 a b) := by
  show W32 (IntKind.u32.wrap _)
  rw [IntKind.wrap_u32']; exact W32.emod _
theorem W32.bor (a b : Int) : W32 (Go.bits BinOp.or IntKind.u32 a b) := by
  show W32 (IntKind.u32.wrap _)
  rw [IntKind.wrap_u32']; exact W32.emod _
theorem W32.bxor (a b : Int) : W32 (Go.bits BinOp.xor IntKind.u32 a b) := by
  show W32 (IntKind.u32.wrap _)
  rw [IntKind.wrap_u32']; exact W32.emod _
theorem W32.bandNot (a b : Int) : W32 (Go.bits BinOp.andNot IntKind.u32 a b) := by
  show W32 (IntKind.u32.wrap _)
  rw [IntKind.wrap_u32']; exact W32.emod _
theorem wV_w32 (f : FD) (v : Int) (h : W32 v) : W32 (wV f v) := by
  unfold wV
  split
  · exact W32.bxor _ _
  · split
    · exact W32.bandNot _ _
    · split
      · exact W32.bor _ _
      · exact h
theorem wireF_w32 (now : Int) (site : Nat) (fs : List FD) : ∀ v, W32 v → W32 (wireF now site fs v) := by
  unfold wireF
  induction fs with
  | nil => intro v h; exact h
  | cons f fs ih => intro v h; rw [List.foldl_cons]; apply ih; split; exact wV_w32 f v h; exact h
theorem dropF_w32 (now : Int) (site : Nat) (fs : List FD) : ∀ v, W32 v → W32 (dropF now site fs v) := by
  unfold dropF
  induction fs with
  | nil => intro v h; exact h
  | cons f fs ih => intro v h; rw [List.foldl_cons]; apply ih; split; exact W32.bandNot _ _; exact h
theorem keepF_w32 (now : Int) (site : Nat) (c0 : Int) (fs : List FD) : ∀ v, W32 v → W32 (keepF now site c0 fs v) := by
  unfold keepF
  induction fs with
  | nil => intro v h; exact h
  | cons f fs ih => intro v h; rw [List.foldl_cons]; apply ih; split; exact W32.bor _ _; exact h
theorem BD.Ok.get {B : BD} (h : B.Ok) (site : Nat) : W32 (B.get site) := wireF_w32 _ _ _ _ (h site)
theorem BD.Ok.set {B : BD} (h : B.Ok) (site : Nat) (v : Int) (hv : W32 v) : (B.set site v).Ok := by
  intro i
  show W32 (upd B.c site _ i)
  by_cases e : i = site
  · rw [e, upd_same]; exact keepF_w32 _ _ _ _ _ hv
  · rw [upd_ne _ _ _ _ e]; exact h i
/-! ### The frame of an instruction -/
structure XR (w w1 : World) (pb o bb cb base : Nat) (fv : Value) (a : Option Addr) (n cap : Nat) (rb ib ob : Nat) (rv iv ov : Array Value) (B : BD) : Prop where
  tn : Tn w w1 cb B.c
  br : BR w1 bb cb fv B
  cr : CR w1 pb o bb base (.slice a n cap)
  hr : Blk w1 rb rv 49
  hi : Blk w1 ib iv 132
  ho : Blk w1 ob ov 49
  lr : w.heap.size ≤ rb
  li : w.heap.size ≤ ib
  lo : w.heap.size ≤ ob
  ro : rb ≠ ob
  hc : cb < w.heap.size
  hp : pb < w.heap.size
  pc : pb ≠ cb
theorem XR.below {w w1 w2 : World} {pb o bb cb base : Nat} {fv : Value} {a : Option Addr} {n cap rb ib ob : Nat} {rv iv ov : Array Value} {B : BD} (h : XR w w1 pb o bb cb base fv a n cap rb ib ob rv iv ov B) (k : Below w1.heap.size w1 w2) : XR w w2 pb o bb cb base fv a n cap rb ib ob rv iv ov B :=
  ⟨h.tn.trans (Tn.of_below k h.tn.cel), h.br.below k, h.cr.tn (Tn.of_below k h.tn.cel) h.pc, (k.block _ h.hr.lt).trans h.hr, (k.block _ h.hi.lt).trans h.hi, (k.block _ h.ho.lt).trans h.ho, h.lr, h.li, h.lo, h.ro, h.hc, h.hp, h.pc⟩
theorem XR.drew {w w1 : World} {pb o bb cb base : Nat} {fv : Value} {a : Option Addr} {n cap rb ib ob : Nat} {rv iv ov : Array Value} {B : BD} (h : XR w w1 pb o bb cb base fv a n cap rb ib ob rv iv ov B) : XR w w1.drew pb o bb cb base fv a n cap rb ib ob rv iv ov B :=
  h.below ⟨rfl, rfl, rfl, Nat.le_refl _, fun _ _ => rfl⟩
theorem XR.set {w w1 w0 : World} {pb o bb cb base : Nat} {fv : Value} {a : Option Addr} {n cap rb ib ob : Nat} {rv iv ov : Array Value} {B : BD} (h : XR w w1 pb o bb cb base fv a n cap rb ib ob rv iv ov B) (k : Below w1.heap.size w1 w0) (site : Nat) (v : Int) :
    XR w (put w0 cb (encK (B.set site v).c) 30) pb o bb cb base fv a n cap rb ib ob rv iv ov (B.set site v) := by
  have hc := h.tn.cel.lt
  have ht : Tn w1 (put w0 cb (encK (B.set site v).c) 30) cb (B.set site v).c := Tn.of_put k hc _
  have h1 := h.hc
  have h2 := h.lr
  have h3 := h.li
  have h4 := h.lo
  exact ⟨h.tn.trans ht, h.br.turn k site v, h.cr.tn ht h.pc, (ht.block _ h.hr.lt (by omega)).trans h.hr, (ht.block _ h.hi.lt (by omega)).trans h.hi, (ht.block _ h.ho.lt (by omega)).trans h.ho, h.lr, h.li, h.lo, h.ro, h.hc, h.hp, h.pc⟩
theorem XR.out {w w1 : World} {pb o bb cb base : Nat} {fv : Value} {a : Option Addr} {n cap rb ib ob : Nat} {rv iv ov : Array Value} {B : BD} (h : XR w w1 pb o bb cb base fv a n cap rb ib ob rv iv ov B) (ov' : Array Value) :
    XR w (put w1 ob ov' 49) pb o bb cb base fv a n cap rb ib ob rv iv ov' B := by
  have h1 := h.hc
  have h4 := h.lo
  have hio : ib ≠ ob := h.hi.neT h.ho (by decide)
  have hbe : Below w.heap.size w1 (put w1 ob ov' 49) := ⟨rfl, rfl, rfl, by rw [put_size]; exact Nat.le_refl _, fun k hk => put_heap_ne _ _ _ _ _ (by omega)⟩
  have hpl := h.hp
  refine ⟨h.tn.below h.hc hbe, ?_, ?_, h.hr.put_ne h.ro, h.hi.put_ne hio, Blk.put_same h.ho.lt, h.lr, h.li, h.lo, h.ro, h.hc, h.hp, h.pc⟩
  · exact ⟨h.br.blk.put_ne (h.br.blk.neT h.ho (by decide)), h.br.cel.put_ne (by omega), h.br.sl.same fun k hk => put_heap_ne _ _ _ _ _ (h.ho.sl_ne (by decide) h.br.sl k hk), h.br.ok, h.br.len, h.br.now⟩
  · exact ⟨by rw [put_cell_ne _ _ _ _ _ _ _ (by omega)]; exact h.cr.c0, by rw [put_cell_ne _ _ _ _ _ _ _ (by omega)]; exact h.cr.c1, by rw [put_cell_ne _ _ _ _ _ _ _ (by omega)]; exact h.cr.c2⟩
/-- A world in which the result's row is laid last. -/
theorem XR.ret {w w1 : World} {pb o bb cb base : Nat} {fv : Value} {a : Option Addr} {n cap rb ib ob : Nat} {rv iv ov : Array Value} {B : BD} (h : XR w w1 pb o bb cb base fv a n cap rb ib ob rv iv ov B) (b : Nat) (hb : w.heap.size ≤ b) (rv' : Array Value) (T : TypeId) : Tn w (put w1 b rv' T) cb B.c :=
  h.tn.below h.hc ⟨rfl, rfl, rfl, by rw [put_size]; exact Nat.le_refl _, fun k hk => put_heap_ne _ _ _ _ _ (by omega)⟩
theorem xr_start {w W w1 w2 : World} {pb o bb cb base : Nat} {fv : Value} {a : Option Addr} {n cap : Nat} {B : BD} (q1 : Below w.heap.size w W) (q2 : Blk W w.heap.size #[.int .u32 0, .int .u32 0, .int .u32 0] 49) (q3 : CR w pb o bb base (.slice a n cap)) (q4 : BR w bb cb fv B) (q6 : pb ≠ cb)
    (b1 : Below W.heap.size W w1) (b2 : Below w1.heap.size w1 w2) (iv : Array Value) :
    XR w ((w2.alloc (.cells iv 132)).alloc (.cells #[.int .u32 0, .int .u32 0, .int .u32 0] 49)) pb o bb cb base fv a n cap w.heap.size w2.heap.size (w2.heap.size + 1) #[.int .u32 0, .int .u32 0, .int .u32 0] iv #[.int .u32 0, .int .u32 0, .int .u32 0] B := by
  have b3 : Below W.heap.size W w2 := b1.trans (b2.mono b1.size)
  have b4 : Below w2.heap.size w2 ((w2.alloc (.cells iv 132)).alloc (.cells #[.int .u32 0, .int .u32 0, .int .u32 0] 49)) := ((Below.refl _ _).alloc (Nat.le_refl _) _).alloc (by simp) _
  have b5 : Below W.heap.size W ((w2.alloc (.cells iv 132)).alloc (.cells #[.int .u32 0, .int .u32 0, .int .u32 0] 49)) := b3.trans (b4.mono b3.size)
  have b6 : Below w.heap.size w ((w2.alloc (.cells iv 132)).alloc (.cells #[.int .u32 0, .int .u32 0, .int .u32 0] 49)) := q1.trans (b5.mono q1.size)
  have h1 := q2.lt
  have h2 := b3.size
  have hi : Blk ((w2.alloc (.cells iv 132)).alloc (.cells #[.int .u32 0, .int .u32 0, .int .u32 0] 49)) w2.heap.size iv 132 := (Below.heap_alloc _ _ _ (by simp)).trans (Blk.new w2 iv 132)
  have ho : Blk ((w2.alloc (.cells iv 132)).alloc (.cells #[.int .u32 0, .int .u32 0, .int .u32 0] 49)) (w2.heap.size + 1) #[.int .u32 0, .int .u32 0, .int .u32 0] 49 := by
    have := Blk.new (w2.alloc (.cells iv 132)) #[.int .u32 0, .int .u32 0, .int .u32 0] 49
    simpa using this
  exact ⟨Tn.of_below b6 q4.cel, q4.below b6, q3.tn (Tn.of_below b6 q4.cel) q6, (b5.block _ h1).trans q2, hi, ho, Nat.le_refl _, by omega, by omega, by omega, q4.cel.lt, World.block_lt_of_cell? _ _ q3.c0, q6⟩
theorem fetF_w32 {prog : List Int} (h : ∀ x ∈ prog, W32 x) (pc : Int) (hp : W32 pc) : W32 (fetF prog pc) := by
  unfold fetF
  split
  · rename_i h1
    rw [List.getD_eq_getElem?_getD, List.getElem?_eq_getElem (by have := hp.1; omega)]
    exact h _ (List.getElem_mem _)
  · exact ⟨by decide, by decide⟩
theorem decF_ok (x : Int) (h : W32 x) : ((decF x).rd < 16 ∧ (decF x).ra < 16 ∧ (decF x).rb < 16) ∧ (W32 (decF x).i12 ∧ W32 (decF x).i16) ∧ 0 ≤ (decF x).op ∧ (decF x).op < 256 := by
  have h1 := h.1
  have h2 := h.2
  refine ⟨⟨?_, ?_, ?_⟩, ⟨W32.emod _, W32.emod _⟩, ?_, ?_⟩
  · show (x / 1048576 % 16).toNat < 16; omega
  · show (x / 65536 % 16).toNat < 16; omega
  · show (x / 4096 % 16).toNat < 16; omega
  · show 0 ≤ x / 16777216; omega
  · show x / 16777216 < 256; omega
section
variable {P : Program} {ops : Array Oper} (J : World → Prop) (fl : List Nat) (nd : Nat → Bool) (Q : Act → World → Prop)
theorem wpAnyJ_stepJ {fuel : Nat} {listed : Array Bool} {a : Act} {w : World} (rs : List Nat) (hr : Region.ready .any ops listed = rs) (hne : rs.isEmpty = false) (hfl : rs.all (fun i => !fl.contains i) = true)
    (h : ∀ i ∈ rs, wpOp P ops NoWay i (fun a' w' => (nd i = true → J w') ∧ wpAnyJ J fl nd Q P ops fuel (listed.setIfInBounds i true) a' w') a w) : wpAnyJ J fl nd Q P ops (fuel + 1) listed a w := by
  refine ⟨fun h0 => ?_, fun i hi => ?_⟩
  · rw [hr] at h0; rw [h0] at hne; cases hne
  · rw [hr] at hi
    have hq := List.all_eq_true.1 hfl i hi
    simp only [Bool.not_eq_true'] at hq
    refine wpOp_mono (fun a' w' h' => ⟨?_, h'.2⟩) (h i hi)
    rw [hq, if_neg (by simp)]
    exact h'.1
end
theorem XR.tset {w w1 w2 : World} {pb o bb cb base : Nat} {fv : Value} {a : Option Addr} {n cap rb ib ob : Nat} {rv iv ov : Array Value} {B B' : BD} (h : XR w w1 pb o bb cb base fv a n cap rb ib ob rv iv ov B) (ht : Tn w1 w2 cb B'.c) (e1 : B'.fs = B.fs) (e2 : B'.now = B.now) :
    XR w w2 pb o bb cb base fv a n cap rb ib ob rv iv ov B' := by
  have h1 := h.hc
  have h2 := h.lr
  have h3 := h.li
  have h4 := h.lo
  exact ⟨h.tn.trans ht, h.br.tn ht e1 e2, h.cr.tn ht h.pc, (ht.block _ h.hr.lt (by omega)).trans h.hr, (ht.block _ h.hi.lt (by omega)).trans h.hi, (ht.block _ h.ho.lt (by omega)).trans h.ho, h.lr, h.li, h.lo, h.ro, h.hc, h.hp, h.pc⟩
theorem execI_d (base : Nat) (pc : Int) (i : IN) (B : BD) (h : 24 ≤ i.op) : execI base pc i B = (B.set (base + 17) 3, ⟨8, 0, 0⟩) := by
  unfold execI
  simp only [show i.op ≠ 0 by omega, show i.op ≠ 1 by omega, show i.op ≠ 2 by omega, show i.op ≠ 3 by omega, show i.op ≠ 4 by omega, show i.op ≠ 13 by omega, show i.op ≠ 14 by omega, show i.op ≠ 17 by omega, show i.op ≠ 18 by omega, show i.op ≠ 19 by omega, show i.op ≠ 20 by omega, show i.op ≠ 21 by omega, show i.op ≠ 22 by omega, show i.op ≠ 23 by omega, show ¬ i.op < 17 by omega, if_false, or_self]
end Go.Proofs.Qxb6500749a
