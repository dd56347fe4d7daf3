import Derived.Test.Qxb6500750aDoorBks
import Derived.Test.Qxb6500750aDoorJnt3
namespace Go.Proofs.Qxb6500750aDoor
open Go.RowKit
/-! ### onTick -/
theorem and_one8 (x : Nat) (_ : x < 256) : bits BinOp.and IntKind.u8 (x : Nat) 1 = ((x % 2 : Nat) : Int) := by
  have h : (BitVec.ofInt 8 (x : Nat) &&& BitVec.ofInt 8 1).toNat = x % 2 := by
    rw [BitVec.toNat_and, show (BitVec.ofInt 8 1).toNat = 2 ^ 1 - 1 from rfl, Nat.and_two_pow_sub_one_eq_mod, BitVec.toNat_ofInt]
    omega
  show IntKind.u8.wrap (((BitVec.ofInt 8 (x : Nat) &&& BitVec.ofInt 8 1).toNat : Nat) : Int) = _
  rw [h]
  simp [IntKind.wrap, IntKind.bits, IntKind.signed]; omega
theorem bitsV_bit (f : Nat → Bool) (t : Nat) (ht : t < 7) : bits BinOp.and IntKind.u8 (bitsV f / 2 ^ t) 1 = if f t = true then 1 else 0 := by
  have hb : ∀ b n, b2i b n = n * b2i b 1 := fun b n => by cases b <;> simp [b2i]
  have h01 : ∀ b, 0 ≤ b2i b 1 ∧ b2i b 1 ≤ 1 := fun b => by cases b <;> simp [b2i]
  have hx : 0 ≤ bitsV f / 2 ^ t ∧ bitsV f / 2 ^ t < 256 ∧ bitsV f / 2 ^ t % 2 = b2i (f t) 1 := by
    unfold bitsV
    rw [hb (f 1), hb (f 2), hb (f 3), hb (f 4), hb (f 5), hb (f 6)]
    have h0 := h01 (f 0); have h1 := h01 (f 1); have h2 := h01 (f 2); have h3 := h01 (f 3); have h4 := h01 (f 4); have h5 := h01 (f 5); have h6 := h01 (f 6)
    have ht' : t = 0 ∨ t = 1 ∨ t = 2 ∨ t = 3 ∨ t = 4 ∨ t = 5 ∨ t = 6 := by omega
    rcases ht' with rfl | rfl | rfl | rfl | rfl | rfl | rfl <;> simp only [Int.reducePow] <;> omega
  obtain ⟨h1, h2, h3⟩ := hx
  obtain ⟨n, hn⟩ := Int.eq_ofNat_of_zero_le h1
  rw [hn] at h2 h3 ⊢
  rw [and_one8 n (by omega)]
  have h4 : ((n % 2 : Nat) : Int) = ((n : Nat) : Int) % 2 := by omega
  rw [h4, h3]
  cases f t <;> rfl
def seenC (seen : Nat → Int) : Array Value := row 6 fun i => .int .i64 (seen i)
theorem seen_get (seen : Nat → Int) (s : Nat) (hs : s < 6) : (seenC seen)[s]? = some (.int .i64 (seen s)) := row_get _ _ _ hs
theorem due_nn (ρ : RepD) (t : Nat) : 0 ≤ due ρ t := by unfold due; split <;> split <;> omega
/-- The books a step further, all else as it was. -/
structure Later (ab xb : Nat) (pbs : Nat → Nat) (B0 : BK) (acc : Nat → List Req) (p : Nat → PS) (W0 : World) (B : BK) (w : World) : Prop where
  base : Base ab xb pbs w B acc p
  frm : Frm ab B0.a.fm (fun k => B0.fl k ≠ none) W0 w
  old : ∀ b, b < W0.heap.size → B.fl b ≠ none → B0.fl b ≠ none
  fm : B.a.fm = B0.a.fm
  rg : B.a.rg = B0.a.rg
  av : B.a.av = B0.a.av
theorem Later.refl {ab xb : Nat} {pbs : Nat → Nat} {B0 : BK} {acc : Nat → List Req} {p : Nat → PS} {W0 : World} (h : Base ab xb pbs W0 B0 acc p) : Later ab xb pbs B0 acc p W0 B0 W0 := ⟨h, Frm.refl _ _ _ _, fun _ _ h => h, rfl, rfl, rfl⟩
theorem Later.on {ab xb : Nat} {pbs : Nat → Nat} {B0 B B' : BK} {acc : Nat → List Req} {p : Nat → PS} {W0 w w' : World} (h : Later ab xb pbs B0 acc p W0 B w) (hf : Frm ab B.a.fm (fun k => B.fl k ≠ none) w w') (hb : BRep ab w' B') (e1 : B'.a.rg = B.a.rg) (e2 : B'.a.av = B.a.av) (e3 : B'.a.fm = B.a.fm)
    (ho : ∀ b, b < w.heap.size → B'.fl b ≠ none → B.fl b ≠ none) : Later ab xb pbs B0 acc p W0 B' w' where
  base := h.base.same hf rfl hb e1 e2
  frm := h.frm.trans (by rw [← h.fm]; exact hf) h.old
  old := fun b hb' hn => h.old b hb' (ho b (Nat.lt_of_lt_of_le hb' h.frm.size) hn)
  fm := e3.trans h.fm
  rg := e1.trans h.rg
  av := e2.trans h.av
/-- Blocks that are none of the books' stand. -/
theorem Later.blk {ab xb : Nat} {pbs : Nat → Nat} {B0 B : BK} {acc : Nat → List Req} {p : Nat → PS} {W0 w : World} (h0 : BRep ab W0 B0) (h : Later ab xb pbs B0 acc p W0 B w) {b : Nat} {cs : Array Value} {T : TypeId} (hB : Blk W0 b cs T) (h1 : T ≠ 82) (h2 : T ≠ 156) : Blk w b cs T :=
  (h.frm.block b hB.lt (hB.ne_of_T h0.blk h1) (h0.map.ne_blk hB) (fun hn => by
    cases hfl : B0.fl b with
    | none => exact hn hfl
    | some f => exact (hB.ne_of_T (h0.fl b f hfl) h2) rfl)).trans hB
theorem BRep.drewN {ab : Nat} {w : World} {B : BK} (h : BRep ab w B) (n : Nat) : BRep ab (w.drewN n) B := ⟨h.blk, h.map.same rfl, h.fl⟩
theorem Later.drewN {ab xb : Nat} {pbs : Nat → Nat} {B0 B : BK} {acc : Nat → List Req} {p : Nat → PS} {W0 w : World} (h : Later ab xb pbs B0 acc p W0 B w) (n : Nat) : Later ab xb pbs B0 acc p W0 B (w.drewN n) :=
  h.on (Frm.of_below (below_drewN (Below.refl _ _))) (h.base.bk.drewN n) rfl rfl rfl (fun _ _ h => h)
/-- A number that no flight has. -/
theorem Later.fresh {ab xb : Nat} {pbs : Nat → Nat} {B0 B : BK} {acc : Nat → List Req} {p : Nat → PS} {W0 w : World} (h : Later ab xb pbs B0 acc p W0 B w) {nb : Nat} (hn : w.heap.size ≤ nb) : B.fl nb = none := by
  cases hf : B.fl nb with
  | none => rfl
  | some f => have := (h.base.bk.fl nb f hf).lt; omega
theorem roundT_quiet {ρ : RepD} {p : Nat → PS} {acc : Nat → List Req} {t nb : Nat} {B : BK} (hg : ρ.g t = -1) : roundT ρ p acc t nb B = midT ρ p t B := by
  unfold roundT grT; rw [if_pos hg]
/-- The flight at t turned: the books a step further. -/
theorem Later.turn {ab xb : Nat} {pbs : Nat → Nat} {B0 B : BK} {acc : Nat → List Req} {p : Nat → PS} {W0 w w' : World} (h : Later ab xb pbs B0 acc p W0 B w) {b : Nat} {f f' : FL} (hf : B.fl b = some f) (hb : Below w.heap.size (put w b (encF f') 156) w') : Later ab xb pbs B0 acc p W0 (setFl B b f') w' := by
  have hbk := h.base.bk
  have hB := hbk.fl b f hf
  have hko : ∀ k, k < w.heap.size → k ≠ b → w'.heap[k]? = w.heap[k]? := fun k hk hne => (hb.block k hk).trans (put_heap_ne _ _ _ _ _ hne)
  refine h.on ⟨hb.os, hb.tape, hb.output, by have := hb.size; rw [put_size] at this; exact this, fun k hk _ _ hn => hko k hk (fun e => hn (by rw [e, hf]; simp))⟩ ⟨?_, ?_, fun b' g hg => ?_⟩ rfl rfl rfl (fun b' _ hn => ?_)
  · exact (hko ab hbk.blk.lt (hbk.blk.ne_of_T hB (by decide))).trans hbk.blk
  · exact hbk.map.same (hko _ hbk.map.lt (fun e => hbk.map.ne_blk hB e.symm))
  · by_cases e : b' = b
    · subst e
      have hg : upd B.fl b' (some f') b' = some g := hg
      rw [upd_same] at hg
      cases hg
      exact (hb.block b' hB.lt).trans (Blk.put_same hB.lt)
    · have hg : upd B.fl b (some f') b' = some g := hg
      rw [upd_ne _ _ _ _ e] at hg
      exact (hko b' (hbk.fl b' g hg).lt e).trans (hbk.fl b' g hg)
  · by_cases e : b' = b
    · subst e; rw [hf]; simp
    · have hn : upd B.fl b (some f') b' ≠ none := hn
      rw [upd_ne _ _ _ _ e] at hn; exact hn
/-- A grant booked: the books a step further. -/
theorem Later.grant {ab xb : Nat} {pbs : Nat → Nat} {B0 B : BK} {acc : Nat → List Req} {p : Nat → PS} {W0 w w' : World} (h : Later ab xb pbs B0 acc p W0 B w) {t g q : Nat} {f1 : FL} (P : GrantPost ab t g q B.a B.γ f1 w w') :
    ∃ nb, w.heap.size ≤ nb ∧ Later ab xb pbs B0 acc p W0 { a := { B.a with gr := upd B.a.gr g ((q : Nat) + 1), turn := upd B.a.turn t (((g : Nat) + 1) % 3), pt := upd B.a.pt t (.pointer (some ⟨nb, 0, none⟩)) }, γ := gset B.γ (g : Nat) (q : Nat) (some nb), fl := upd B.fl nb (some f1) } w' := by
  obtain ⟨fb, hfb, k1, k2, k3⟩ := P.out
  have hbk := h.base.bk
  refine ⟨fb, hfb, h.on ⟨P.os, P.tape, P.output, P.size, fun k hk h1 h2 _ => P.block k hk h1 h2⟩ ⟨k1, k3, fun b' f hf => ?_⟩ rfl rfl rfl (fun b' hb' hn => ?_)⟩
  · by_cases e : b' = fb
    · subst e
      have hf : upd B.fl b' (some f1) b' = some f := hf
      rw [upd_same] at hf; cases hf; exact k2
    · have hf : upd B.fl fb (some f1) b' = some f := hf
      rw [upd_ne _ _ _ _ e] at hf
      have hB := hbk.fl b' f hf
      exact (P.block b' hB.lt (hB.ne_of_T hbk.blk (by decide)) (hbk.map.ne_blk hB)).trans hB
  · have hn : upd B.fl fb (some f1) b' ≠ none := hn
    rw [upd_ne _ _ _ _ (by omega)] at hn; exact hn
/-- An answer booked. -/
theorem Later.ret {ab xb : Nat} {pbs : Nat → Nat} {B0 B : BK} {acc : Nat → List Req} {p : Nat → PS} {W0 w w' : World} (h : Later ab xb pbs B0 acc p W0 B w) {m q : Nat} (P : RetPost ab m q B.a B.γ w w') :
    Later ab xb pbs B0 acc p W0 { B with a := { B.a with rt := upd B.a.rt m ((q : Nat) + 1) }, γ := gset B.γ (m : Nat) (q : Nat) none } w' := by
  have hbk := h.base.bk
  refine h.on ⟨P.os, P.tape, P.output, P.size, fun k hk h1 h2 _ => P.block k hk h1 h2⟩ ⟨P.blk, P.map, fun b' f hf => ?_⟩ rfl rfl rfl (fun _ _ hn => hn)
  have hB := hbk.fl b' f hf
  exact (P.block b' hB.lt (hB.ne_of_T hbk.blk (by decide)) (hbk.map.ne_blk hB)).trans hB
end Go.Proofs.Qxb6500750aDoor
