import Derived.Test.Qxb6500749aCmp
import Derived.Test.Qxb6500749aLin
import Derived.Test.Qxb6500749aBpk
namespace Go.Proofs.Qxb6500749a
open Go.RowKit
/-! ### The pair as data -/
structure REP where
  raw : BU
  del : BU
  sha : BU
  fa : Bool
  fb : Bool
  al : Bool
  gr : Bool
def repV (r : REP) : Array Value := #[.int .u32 r.raw.c, .int .u32 r.raw.a, .int .u32 r.raw.d, .int .u32 r.del.c, .int .u32 r.del.a, .int .u32 r.del.d, .int .u32 r.sha.c, .int .u32 r.sha.a, .int .u32 r.sha.d, .bool r.fa, .bool r.fb, .bool r.al, .bool r.gr]
def rep0 : REP := ⟨zBU, zBU, zBU, false, false, false, false⟩
def pairV (bb ub : Nat) (pv : Value) (r : REP) : Array Value := #[.pointer (some ⟨bb, 0, none⟩), .pointer (some ⟨bb, 0, none⟩), .int .i64 0, pv, .pointer (some ⟨bb, 0, none⟩), .int .i64 18, pv, .pointer (some ⟨bb, 0, none⟩), .int .i64 36, .int .i64 2, .pointer (some ⟨bb, 0, none⟩), .int .i64 40, .int .i64 3, .pointer (some ⟨ub, 0, none⟩),
  .int .u32 r.raw.c, .int .u32 r.raw.a, .int .u32 r.raw.d, .int .u32 r.del.c, .int .u32 r.del.a, .int .u32 r.del.d, .int .u32 r.sha.c, .int .u32 r.sha.a, .int .u32 r.sha.d, .bool r.fa, .bool r.fb, .bool r.al, .bool r.gr]
def shiI (B : BD) (x0 x1 : Int) : BD := ((((B).set 38 ((B).get 36)).set 39 (((B).set 38 ((B).get 36)).get 37)).set 36 (x0)).set 37 (x1)
def shiO (B : BD) (x0 x1 x2 : Int) : BD := ((((((B).set 43 ((B).get 40)).set 44 (((B).set 43 ((B).get 40)).get 41)).set 45 ((((B).set 43 ((B).get 40)).set 44 (((B).set 43 ((B).get 40)).get 41)).get 42)).set 40 (x0)).set 41 (x1)).set 42 (x2)
def andB (x : Int) (k : Int) : Int := bits BinOp.and IntKind.u32 x k
def flagI (b : Bool) : Int := if b = true then 1 else 0
def inFl (i : INP) : Int := bits BinOp.or IntKind.u32 (flagI i.v) (flagI i.e * 2)
def shaI (B : BD) : INP := ⟨andB (B.get 38) 1 != 0, andB (B.get 38) 2 != 0, B.get 39⟩
def shaF (prog : List Int) (B : BD) : BD × BU := if B.now ≥ 2 then coreF prog 18 (shaI B) B else (B, zBU)
def delF (B : BD) : BU := ⟨andB (B.get 43) 15, B.get 44, B.get 45⟩
def alF (B : BD) (sha : BU) : Bool := cmpF B 46 (delF B) sha || cmpF B 47 (delF B) sha || (andB (B.get 48) 1 == 1)
def goF (B : BD) (sha : BU) : Bool := (andB (delF B).c 1 != 0) && !alF B sha
/-- The clock edge. -/
def edgF (B : BD) (al : Bool) (raw : BU) (i : INP) : BD := shiI (shiO (B.set 48 (flagI al)) raw.c raw.a raw.d) (inFl i) i.d
def nextB (B : BD) : BD := { B with now := B.now + 1 }
structure PO where
  B : BD
  U : BusD
  r : REP
def pairF (prog : List Int) (B : BD) (U : BusD) : PO :=
  let t := tickF U
  let m := coreF prog 0 t.2 B
  let s := shaF prog m.1
  ⟨nextB (edgF s.1 (alF s.1 s.2) m.2 t.2), if goF s.1 s.2 = true then issF t.1 (andB (delF s.1).c 2 != 0) (delF s.1).a (delF s.1).d else t.1,
    ⟨m.2, delF s.1, s.2, cmpF s.1 46 (delF s.1) s.2, cmpF s.1 47 (delF s.1) s.2, alF s.1 s.2, goF s.1 s.2 && !t.1.busy⟩⟩
/-! ### Words stay words -/
def BU.Ok (b : BU) : Prop := W32 b.c ∧ W32 b.a ∧ W32 b.d
theorem w32_zero : W32 0 := ⟨by decide, by decide⟩
theorem w32_one : W32 1 := ⟨by decide, by decide⟩
theorem zBU_ok : zBU.Ok := ⟨w32_zero, w32_zero, w32_zero⟩
theorem w32_ite {c : Prop} [Decidable c] {x y : Int} (hx : W32 x) (hy : W32 y) : W32 (if c then x else y) := by split <;> assumption
theorem aluF_w32 (op a b : Int) (ha : W32 a) : W32 (aluF op a b) := by
  unfold aluF
  repeat' apply w32_ite
  all_goals first | exact W32.emod _ | exact W32.band _ _ | exact W32.bor _ _ | exact W32.bxor _ _ | exact w32_one | exact w32_zero | skip
  refine ⟨Int.ediv_nonneg ha.1 (Int.le_of_lt (Int.pow_pos (by decide))), ?_⟩
  exact Int.lt_of_le_of_lt (Int.ediv_le_self _ ha.1) ha.2
theorem okP_ite {c : Prop} [Decidable c] {x y : BD × BU} (hx : x.1.Ok ∧ x.2.Ok) (hy : y.1.Ok ∧ y.2.Ok) : (if c then x else y).1.Ok ∧ (if c then x else y).2.Ok := by split <;> assumption
theorem w32_lit (x : Int) (h : 0 ≤ x ∧ x < 4294967296) : W32 x := h
theorem execI_ok (base : Nat) (pc : Int) (i : IN) (B : BD) (hB : B.Ok) (h16 : W32 i.i16) : (execI base pc i B).1.Ok ∧ (execI base pc i B).2.Ok := by
  have hg := fun s => hB.get s
  unfold execI finF
  repeat' apply okP_ite
  all_goals refine ⟨?_, ?_⟩
  all_goals simp only []
  all_goals first
    | exact zBU_ok
    | exact ⟨W32.emod 1, W32.emod _, w32_zero⟩
    | exact ⟨w32_lit 3 (by decide), W32.emod _, hg _⟩
    | exact ⟨w32_lit 4 (by decide), w32_zero, w32_zero⟩
    | exact ⟨w32_lit 8 (by decide), w32_zero, w32_zero⟩
    | (repeat' apply BD.Ok.set)
  all_goals first
    | exact hB
    | exact W32.emod _
    | exact h16
    | exact hg _
    | exact W32.band _ _
    | exact W32.bor _ _
    | exact aluF_w32 _ _ _ (hg _)
    | exact w32_ite (W32.emod _) (W32.emod _)
    | exact w32_lit _ (by decide)
theorem coreF_ok (prog : List Int) (hp : ∀ x ∈ prog, W32 x) (base : Nat) (i : INP) (hi : W32 i.d) (B : BD) (hB : B.Ok) : (coreF prog base i B).1.Ok ∧ (coreF prog base i B).2.Ok := by
  unfold coreF
  refine okP_ite ⟨hB, w32_lit 4 (by decide), w32_zero, w32_zero⟩ (okP_ite ⟨hB, w32_lit 8 (by decide), w32_zero, w32_zero⟩ (okP_ite ?_ ?_))
  · unfold awaitF
    refine okP_ite ⟨hB, zBU_ok⟩ (okP_ite ⟨hB.set _ _ (w32_lit 3 (by decide)), w32_lit 8 (by decide), w32_zero, w32_zero⟩ (okP_ite ⟨?_, zBU_ok⟩ ⟨hB.set _ _ w32_zero, zBU_ok⟩))
    exact (hB.set _ _ hi).set _ _ w32_zero
  · have h1 := fetF_w32 hp _ (hB.get (base + 16))
    have h2 := decF_ok _ h1
    exact execI_ok base _ _ B hB h2.2.1.2
theorem shaF_ok (prog : List Int) (hp : ∀ x ∈ prog, W32 x) (B : BD) (hB : B.Ok) : (shaF prog B).1.Ok ∧ (shaF prog B).2.Ok := by
  unfold shaF
  exact okP_ite (coreF_ok prog hp 18 _ (hB.get 39) B hB) ⟨hB, zBU_ok⟩
theorem shaF_keep (prog : List Int) (B : BD) : (shaF prog B).1.fs = B.fs ∧ (shaF prog B).1.now = B.now := by
  unfold shaF
  split
  · exact coreF_keep _ _ _ _
  · exact ⟨rfl, rfl⟩
theorem shiO_ok (B : BD) (hB : B.Ok) (x0 x1 x2 : Int) (h0 : W32 x0) (h1 : W32 x1) (h2 : W32 x2) : (shiO B x0 x1 x2).Ok := by
  unfold shiO
  have a := hB.set 43 _ (hB.get 40)
  have b := a.set 44 _ (a.get 41)
  exact (((b.set 45 _ (b.get 42)).set _ _ h0).set _ _ h1).set _ _ h2
theorem shiI_ok (B : BD) (hB : B.Ok) (x0 x1 : Int) (h0 : W32 x0) (h1 : W32 x1) : (shiI B x0 x1).Ok := by
  unfold shiI
  have a := hB.set 38 _ (hB.get 36)
  exact ((a.set 39 _ (a.get 37)).set _ _ h0).set _ _ h1
theorem flagI_w32 (b : Bool) : W32 (flagI b) := w32_ite w32_one w32_zero
theorem edgF_ok (B : BD) (hB : B.Ok) (al : Bool) (raw : BU) (hr : raw.Ok) (i : INP) (hi : W32 i.d) : (edgF B al raw i).Ok := by
  unfold edgF
  exact shiI_ok _ (shiO_ok _ (hB.set _ _ (flagI_w32 _)) _ _ _ hr.1 hr.2.1 hr.2.2) _ _ (W32.bor _ _) hi
theorem tickF_ok (U : BusD) (hl : ∀ t ∈ U.log, W32 t.r) : W32 (tickF U).2.d := by
  unfold tickF
  split
  · split
    · exact w32_zero
    · show W32 ((U.log.getLast?.map TR.r).getD 0)
      cases hg : U.log.getLast? with
      | none => exact w32_zero
      | some t => exact hl t (List.mem_of_getLast? hg)
  · exact w32_zero
/-- The bus's data, sound, with at most N transfers. -/
structure BOk (N : Nat) (U : BusD) : Prop where
  lat : ∀ x ∈ U.lat, 0 ≤ x ∧ x ≤ 63
  llen : U.lat.length ≤ 16
  left : 0 ≤ U.left ∧ U.left ≤ 64
  busy : U.busy = true → 1 ≤ U.left ∧ U.log ≠ []
  mem : ∀ a, W32 (U.m a)
  glen : U.log.length ≤ N
  lr : ∀ t ∈ U.log, W32 t.r
theorem BOk.ok {N : Nat} {U : BusD} (h : BOk N U) (hN : N < 1000000000000) : U.Ok := ⟨h.lat, h.llen, h.left, h.busy, h.mem, Nat.lt_of_le_of_lt h.glen hN⟩
theorem BOk.mono {N M : Nat} {U : BusD} (h : BOk N U) (hN : N ≤ M) : BOk M U := ⟨h.lat, h.llen, h.left, h.busy, h.mem, Nat.le_trans h.glen hN, h.lr⟩
theorem BOk.tick {N : Nat} {U : BusD} (h : BOk N U) : BOk N (tickF U).1 := by
  unfold tickF
  split
  · rename_i hb
    have := h.busy hb
    have h2 := h.left
    split
    · exact ⟨h.lat, h.llen, ⟨by show 0 ≤ U.left - 1; omega, by show U.left - 1 ≤ 64; omega⟩, fun _ => ⟨by show 1 ≤ U.left - 1; omega, this.2⟩, h.mem, h.glen, h.lr⟩
    · exact ⟨h.lat, h.llen, ⟨by show 0 ≤ U.left - 1; omega, by show U.left - 1 ≤ 64; omega⟩, fun q => Bool.noConfusion (show false = true from q), h.mem, h.glen, h.lr⟩
  · exact h
theorem BOk.iss {N : Nat} {U : BusD} (h : BOk N U) (rw : Bool) (ad da : Int) (hd : W32 da) : BOk (N + 1) (issF U rw ad da) := by
  unfold issF
  split
  · exact h.mono (Nat.le_succ _)
  · refine ⟨fun x hx => h.lat x (List.mem_of_mem_tail hx), Nat.le_trans (by simp) h.llen, ?_, fun _ => ⟨?_, by simp⟩, ?_, ?_, ?_⟩
    · show 0 ≤ 1 + U.lat.headD 0 ∧ 1 + U.lat.headD 0 ≤ 64
      cases hl : U.lat with
      | nil => simp
      | cons x xs => have := h.lat x (by rw [hl]; simp); simp; omega
    · show 1 ≤ 1 + U.lat.headD 0
      cases hl : U.lat with
      | nil => simp
      | cons x xs => have := h.lat x (by rw [hl]; simp); simp; omega
    · intro a
      show W32 ((if mapF ad = true ∧ rw = true then (fun x => if x = ad then da else U.m x) else U.m) a)
      split
      · exact w32_ite hd (h.mem a)
      · exact h.mem a
    · show (U.log ++ [_]).length ≤ N + 1
      have := h.glen
      simp; omega
    · intro t ht
      rcases List.mem_append.1 ht with q | q
      · exact h.lr t q
      · simp at q
        subst q
        exact w32_ite (h.mem ad) w32_zero
end Go.Proofs.Qxb6500749a
