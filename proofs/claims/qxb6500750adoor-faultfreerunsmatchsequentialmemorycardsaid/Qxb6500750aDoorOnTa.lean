import Derived.Test.Qxb6500750aDoorLtr
import Derived.Deep.MidRow
namespace Go.Proofs.Qxb6500750aDoor
open Go.RowKit
/-! ### onTick: the calls of a round -/
theorem note_call {ab xb : Nat} {pbs : Nat → Nat} {B0 B : BK} {acc : Nat → List Req} {p : Nat → PS} {W0 w : World} (h : Later ab xb pbs B0 acc p W0 B w) {t b : Nat} {f : FL} (ht : t < 6) (hf : B.fl b = some f) (hft : f.t = (t : Nat)) (hn : 0 ≤ f.n ∧ f.n ≤ 3) (hac : 0 ≤ f.ac ∧ f.ac < 1000)
    (hne : (p t).atts ≠ []) (hpl : planOK (lastA (p t)).p) (hsz : (p t).atts.length < 1000000000) :
    Calls Tryd.prog 57 #[.pointer (some ⟨ab, 0, none⟩), .pointer (some ⟨b, 0, none⟩)] w fun e w' => e = .returned (.tuple #[]) ∧ Below w.heap.size (put w b (encF (noted f (some (lastA (p t))))) 156) w' := by
  obtain ⟨L, e1, e2, e3⟩ := h.base.link t ht
  have hbk := h.base.bk
  have hF := hbk.fl b f hf
  refine note_link ab b B.a.rg t L (p t) f (lastA (p t)) ht hft ⟨hn.1, by omega⟩ ⟨hac.1, by omega⟩ w hF ?_ ?_ e2 e3 (lastA_some hne) hpl (hbk.blk.ne_of_T hF (by decide)) (h.base.rig.ne_of_T hF (by decide)) (e2.ne_of_T hF (by decide)) (hF.sl_ne (by decide) e3) hsz
  · rw [hbk.blk.cell, ag_rg]
  · rw [h.base.rig.cell, gg_s _ _ _ ht, lk_lt _ _ ht, e1]
theorem grant_calls {ab xb : Nat} {pbs : Nat → Nat} {B0 B B' : BK} {acc : Nat → List Req} {p : Nat → PS} {W0 w : World} {ρ : RepD} {W : Nat → Nat → Bool} {pk : Int} {seen : Nat → Int} {t : Nat} {gv : Int} {wvv : Nat} (hok : RoundOK ρ p acc W pk seen t B) (h : Later ab xb pbs B0 acc p W0 B' w) (ea : B'.a = B.a) (eγ : B'.γ = B.γ) (ht : t < 7) (hgv : ρ.g t = gv) (hwv : wv (W t) = wvv) (hg : gv ≠ -1) :
    Calls Tryd.prog 58 #[.pointer (some ⟨ab, 0, none⟩), .int .i64 (t : Nat), .int .i64 gv, .int .u32 (pickAt pk t : Nat), .int .u8 (wvv : Nat)] w fun e w' => e = .returned (.tuple #[]) ∧ ∃ nb, w.heap.size ≤ nb ∧ Later ab xb pbs B0 acc p W0 (grT ρ p acc t nb B') w' := by
  rcases hok.gr with h1 | ⟨g, q, turn, r, hgg, hg3, htu, hw0, hch, htt, hba, hgr, hacc, hlen, hγ, hlk⟩
  · exact (hg (hgv.symm.trans h1)).elim
  obtain ⟨o0, o1, o2, o3⟩ := hok.on
  subst hgv
  subst hwv
  have hbk := h.base.bk
  rw [hgg]
  have hmne : B'.a.fm ≠ ab := fun e => hbk.map.ne_blk hbk.blk e.symm
  refine (onGrant_any ab t g q turn (pickAt pk t) B'.a (W t) B'.γ (acc g) r (noteT p t (flight0 g r t)) ht hg3 htu (pickAt_lt _ _) hw0 hch (by rw [ea]; exact htt) (by rw [ea]; exact o0) (by rw [ea]; exact o2) (by rw [ea]; exact o3) (by rw [ea]; exact hba) (by rw [ea]; exact hgr) hacc hlen (by rw [eγ]; exact hγ)
    w hbk.blk hbk.map (h.base.av g hg3) hmne ?_ ?_).mono ?_
  · intro V fb hfb hc hV hF
    by_cases ht6 : t < 6
    · obtain ⟨L, e1, e2, e3⟩ := h.base.link t ht6
      obtain ⟨k1, k2, k3⟩ := hlk ht6
      have hk : ∀ b cs T, Blk w b cs T → T ≠ 82 → Blk V b cs T := fun b cs T hB hT => (hV b hB.lt (hB.ne_of_T hbk.blk hT)).trans hB
      have hl2 := hk _ _ _ e2 (by decide)
      have hr2 := hk _ _ _ h.base.rig (by decide)
      have hs2 : Sl V L.av 59 7 (p t).atts.length ((p t).atts.flatMap attRow) := e3.same fun k hk' => hV k (e3.lt k hk') (hbk.blk.sl_ne (by decide) e3 k hk')
      have hnt : noteT p t (flight0 g r t) = noted (flight0 g r t) (some (lastA (p t))) := by unfold noteT; rw [if_pos ht6]
      rw [hnt]
      refine note_link ab fb B'.a.rg t L (p t) (flight0 g r t) (lastA (p t)) ht6 rfl ⟨Int.le_refl 0, show (0 : Int) < 1000000 by decide⟩ ⟨Int.le_refl 0, show (0 : Int) < 1000000 by decide⟩ V hF hc ?_ hl2 hs2 (lastA_some k1) k2 ?_ ?_ ?_ ?_ (hok.len ht6).2.2.2.1
      · rw [hr2.cell, gg_s _ _ _ ht6, lk_lt _ _ ht6, e1]
      · intro e; have := hbk.blk.lt; omega
      · exact hr2.ne_of_T hF (by decide)
      · exact hl2.ne_of_T hF (by decide)
      · exact hF.sl_ne (by decide) hs2
    · have ht' : t = 6 := by omega
      have hnt : noteT p t (flight0 g r t) = noted (flight0 g r t) none := by unfold noteT; rw [if_neg ht6]
      rw [hnt]
      refine (note_err ab fb (flight0 g r t) (by rw [ht']; rfl) ⟨Int.le_refl 0, show (0 : Int) < 1000000 by decide⟩ V hF).mono ?_
      rintro e w' ⟨h1, h2⟩
      refine ⟨h1, ?_⟩
      rw [h2]
      have := Below.refl V.heap.size (put V fb (encF (noted (flight0 g r t) none)) 156)
      exact this
  · intro ht6
    obtain ⟨L, e1, e2, e3⟩ := h.base.link t ht6
    obtain ⟨k1, k2, k3⟩ := hlk ht6
    refine ⟨L, p t, lastA (p t), ⟨?_, e2, e3⟩, e2.ne_of_T hbk.blk (by decide), hbk.map.ne_blk e2, h.base.rig.ne_of_T hbk.blk (by decide), hbk.map.ne_blk h.base.rig, fun k hk => ⟨hbk.blk.sl_ne (by decide) e3 k hk, hbk.map.ne_sl e3 k hk⟩, (hok.len ht6).2.2.2.1, lastA_some k1, k3⟩
    rw [h.base.rig.cell, gg_s _ _ _ ht6, lk_lt _ _ ht6, e1]
  · rintro e w' ⟨he, hP⟩
    refine ⟨he, ?_⟩
    obtain ⟨nb, h1, h2⟩ := h.grant hP
    refine ⟨nb, h1, ?_⟩
    have hgT : grT ρ p acc t nb B' = { a := { B'.a with gr := upd B'.a.gr g ((q : Nat) + 1), turn := upd B'.a.turn t (((g : Nat) + 1) % 3), pt := upd B'.a.pt t (.pointer (some ⟨nb, 0, none⟩)) }, γ := gset B'.γ (g : Nat) (q : Nat) (some nb), fl := upd B'.fl nb (some (noteT p t (flight0 g r t))) } := by
      have e1 : (ρ.g t).toNat = g := by rw [hgg]; rfl
      have e2 : (B'.a.gr g).toNat = q := by rw [ea, hgr]; rfl
      unfold grT
      rw [if_neg (by rw [hgg]; omega)]
      simp only [e1, e2, hacc, Option.getD_some]
    rw [hgT]
    exact h2
/-- What a round reads of the world, by its books. -/
theorem Later.view {ab xb : Nat} {pbs : Nat → Nat} {B0 B : BK} {acc : Nat → List Req} {p : Nat → PS} {W0 w : World} (h0 : BRep ab W0 B0) (h : Later ab xb pbs B0 acc p W0 B w) {b2 k : Nat} {W : Nat → Nat → Bool} (hB2 : Blk W0 b2 (encW W) 134) (hk : k < 7) (A : AU) (hA0 : B.a = A) :
    ∃ w6, w = put w6 ab (encA A) 82 ∧ ab < w6.heap.size ∧ w6.cell? ⟨b2, k, none⟩ = some (.int .u8 (wv (W k))) ∧ b2 ≠ ab ∧ b2 < w6.heap.size ∧
      (k < 6 → ∃ L : PL, w6.cell? ⟨A.rg, 1 + k, none⟩ = some (.pointer (some ⟨L.pb, 0, none⟩)) ∧ A.rg ≠ ab ∧ A.rg < w6.heap.size ∧ Blk (put w6 ab (encA A) 82) L.pb (pcells L (p k)) 113) ∧
      (∀ b f, B.fl b = some f → b ≠ ab ∧ b < w6.heap.size ∧ ∀ j, w6.cell? ⟨b, j, none⟩ = (encF f)[j]?) := by
  subst hA0
  have hbk := h.base.bk
  have h2 := h.blk h0 hB2 (by decide) (by decide)
  have n2 := h2.ne_of_T hbk.blk (by decide)
  have hrg := h.base.rig
  have nr := hrg.ne_of_T hbk.blk (by decide)
  have hlk := h.base.link
  have hfl := hbk.fl
  have hA := hbk.blk
  clear h hbk
  obtain ⟨w6, rfl, hl⟩ := hA.out
  have hsz : ∀ b, b < (put w6 ab (encA B.a) 82).heap.size → b < w6.heap.size := fun b hb => by rw [put_size] at hb; exact hb
  refine ⟨w6, rfl, hl, ?_, n2, hsz _ h2.lt, fun h6 => ?_, fun b f hf => ?_⟩
  · refine (put_cell_ne _ _ _ _ (encA B.a) 82 _ n2).symm.trans ?_; rw [h2.cell, wg_get _ _ hk]
  · obtain ⟨L, e1, e2, e3⟩ := hlk k h6
    refine ⟨L, ?_, nr, hsz _ hrg.lt, e2⟩
    refine (put_cell_ne _ _ _ _ (encA B.a) 82 _ nr).symm.trans ?_; rw [hrg.cell, gg_s _ _ _ h6, lk_lt _ _ h6, e1]
  · have hB := hfl b f hf
    have nb := hB.ne_of_T hA (by decide)
    refine ⟨nb, hsz _ hB.lt, fun j => ?_⟩
    refine (put_cell_ne _ _ _ _ (encA B.a) 82 _ nb).symm.trans ?_; rw [hB.cell]
theorem fg_0 (f : FL) : (encF f)[0]? = some (.int .i64 f.m) := rfl
theorem fg_1 (f : FL) : (encF f)[1]? = some (.bool f.w) := rfl
theorem fg_3 (f : FL) : (encF f)[3]? = some (.int .i64 f.n) := rfl
theorem fg_4 (f : FL) : (encF f)[4]? = some (.int .i64 f.ac) := rfl
theorem fg_5 (f : FL) : (encF f)[5]? = some (.int .u8 f.la) := rfl
theorem fg_6 (f : FL) : (encF f)[6]? = some (.bool f.rep) := rfl
theorem fs_6 (f : FL) : (encF f).setIfInBounds 6 (.bool true) = encF { f with rep := true } := rfl
/-- The flight given up. -/
theorem Later.given {ab xb : Nat} {pbs : Nat → Nat} {B0 B : BK} {acc : Nat → List Req} {p : Nat → PS} {W0 w2 : World} {b : Nat} {f : FL} {cs : Array Value} (h : Later ab xb pbs B0 acc p W0 B (put (put w2 b cs 156) ab (encA B.a) 82)) (hf : B.fl b = some f) (hne : b ≠ ab) (n : Nat) :
    Later ab xb pbs B0 acc p W0 (setFl B b { f with rep := true }) ((put (put w2 b (encF { f with rep := true }) 156) ab (encA B.a) 82).drewN n) := by
  refine (h.turn hf (f' := { f with rep := true }) ?_).drewN n
  have e : put (put (put w2 b cs 156) ab (encA B.a) 82) b (encF { f with rep := true }) 156 = put (put w2 b (encF { f with rep := true }) 156) ab (encA B.a) 82 := by
    rw [put_comm _ _ _ _ _ _ _ hne, put_put, put_comm _ _ _ _ _ _ _ (Ne.symm hne)]
  rw [e]
  exact Below.refl _ _
/-! ### The returns -/
def retRow (r : Ret) : Array Value := #[.bool r.va, .int .u32 r.sq, .int .u8 r.st, .int .u32 r.da, .int .u8 r.re, .int .u8 r.ca]
def retsV (ρ : RepD) : Array Value := #[.bool (ρ.r 0).va, .int .u32 (ρ.r 0).sq, .int .u8 (ρ.r 0).st, .int .u32 (ρ.r 0).da, .int .u8 (ρ.r 0).re, .int .u8 (ρ.r 0).ca, .bool (ρ.r 1).va, .int .u32 (ρ.r 1).sq, .int .u8 (ρ.r 1).st, .int .u32 (ρ.r 1).da, .int .u8 (ρ.r 1).re, .int .u8 (ρ.r 1).ca, .bool (ρ.r 2).va, .int .u32 (ρ.r 2).sq, .int .u8 (ρ.r 2).st, .int .u32 (ρ.r 2).da, .int .u8 (ρ.r 2).re, .int .u8 (ρ.r 2).ca]
theorem index_rets (ρ : RepD) : ∀ (k : Nat) (_ : k < 3) (w : World), (Instr.index 39 (.agg (retsV ρ)) (.int .i64 k)).run Tryd.prog w = .ok (.agg #[.bool (ρ.r k).va, .int .u32 (ρ.r k).sq, .int .u8 (ρ.r k).st, .int .u32 (ρ.r k).da, .int .u8 (ρ.r k).re, .int .u8 (ρ.r k).ca]) w
  | 0, _, _ => by kernel_rfl
  | 1, _, _ => by kernel_rfl
  | 2, _, _ => by kernel_rfl
  | _ + 3, h, _ => absurd h (by omega)
theorem rets_range {ρ : RepD} {w : World} {b : Nat} (h : Blk w b (encR ρ) 41) : w.rangeAt b 7 (retsV ρ).toList := by
  intro j v hv
  rw [h.cell]
  have hj : j < 18 := by
    have := (List.getElem?_eq_some_iff.1 hv).1
    exact this
  have hx : (encR ρ)[7 + j]? = (retsV ρ).toList[j]? := by
    unfold encR
    rw [row_get _ _ _ (by omega)]
    obtain rfl | rfl | rfl | rfl | rfl | rfl | rfl | rfl | rfl | rfl | rfl | rfl | rfl | rfl | rfl | rfl | rfl | rfl : j = 0 ∨ j = 1 ∨ j = 2 ∨ j = 3 ∨ j = 4 ∨ j = 5 ∨ j = 6 ∨ j = 7 ∨ j = 8 ∨ j = 9 ∨ j = 10 ∨ j = 11 ∨ j = 12 ∨ j = 13 ∨ j = 14 ∨ j = 15 ∨ j = 16 ∨ j = 17 := by omega
    all_goals rfl
  rw [hx]; exact hv
def tkM (m : Nat) (B : BK) : BK := { B with a := { B.a with tk := upd B.a.tk m false } }
theorem gset_none {γ : Int → Int → Option Nat} {m q : Int} (h : γ m q = none) : gset γ m q none = γ := by
  funext a b
  unfold gset
  split
  · rename_i hh; rw [hh.1, hh.2, h]
  · rfl
theorem ret_call {ab xb : Nat} {pbs : Nat → Nat} {B0 B : BK} {acc : Nat → List Req} {p : Nat → PS} {W0 w : World} {ρ : RepD} {m : Nat} (hm : m < 3) (hok : RetOK ρ m B) (hv : (ρ.r m).va = true) (h : Later ab xb pbs B0 acc p W0 (tkM m B) w) :
    Calls Tryd.prog 60 #[.pointer (some ⟨ab, 0, none⟩), .int .i64 (m : Nat), .agg (retRow (ρ.r m))] w fun e w' => e = .returned (.tuple #[]) ∧ Later ab xb pbs B0 acc p W0 (retM ρ m B) w' := by
  obtain ⟨o0, o1, o2, o3⟩ := hok.on
  obtain ⟨q, e1, e2, e3, e4, hh⟩ := hok.ret hv
  have hbk := h.base.bk
  have hmne : B.a.fm ≠ ab := fun e => hbk.map.ne_blk hbk.blk e.symm
  have hrM : retM ρ m B = { B with a := { B.a with tk := upd B.a.tk m false, rt := upd B.a.rt m ((q : Nat) + 1) }, γ := gset B.γ (m : Nat) (q : Nat) none } := by
    unfold retM; rw [if_pos hv, e1]
  rw [hrM]
  rcases hh with ⟨hγ, hr⟩ | ⟨b, f, hγ, hf, hr, hrep, hn1, hn4⟩
  · have hrow : retRow (ρ.r m) = #[.bool true, .int .u32 (q : Nat), .int .u8 4, .int .u32 0, .int .u8 0, .int .u8 0] := by rw [hr]; rfl
    rw [hrow]
    refine (onReturn_cancel ab m q (tkM m B).a B.γ hm o0 o2 e2 e3 e4 hγ w hbk.blk hbk.map hmne).mono ?_
    rintro e w' ⟨he, hb⟩
    refine ⟨he, ?_⟩
    rw [gset_none hγ]
    have hko : ∀ k, k < w.heap.size → k ≠ ab → w'.heap[k]? = w.heap[k]? := fun k hk hne => (hb.block k hk).trans (put_heap_ne _ _ _ _ _ hne)
    refine h.on ⟨hb.os, hb.tape, hb.output, by have := hb.size; rw [put_size] at this; exact this, fun k hk h1 _ _ => hko k hk h1⟩ ⟨?_, ?_, fun b' f hf => ?_⟩ rfl rfl rfl (fun _ _ hn => hn)
    · exact (hb.block ab hbk.blk.lt).trans (Blk.put_same hbk.blk.lt)
    · exact hbk.map.same (hko _ hbk.map.lt hmne)
    · have hB := hbk.fl b' f hf
      exact (hko b' hB.lt (hB.ne_of_T hbk.blk (by decide))).trans hB
  · have hrow : retRow (ρ.r m) = #[.bool true, .int .u32 (q : Nat), .int .u8 (wantS f), .int .u32 (ρ.r m).da, .int .u8 (f.n - 1), .int .u8 f.la] := by
      unfold retRow; rw [hr]
    rw [hrow]
    have hB := hbk.fl b f hf
    refine (onReturn_flight ab m q b (tkM m B).a B.γ f (ρ.r m).da hm o0 o1 e2 e3 e4 hγ ⟨hn1, hn4⟩ hrep w hbk.blk hbk.map hB hmne (hB.ne_of_T hbk.blk (by decide)) (hbk.map.ne_blk hB)).mono ?_
    rintro e w' ⟨he, hP⟩
    exact ⟨he, h.ret hP⟩
end Go.Proofs.Qxb6500750aDoor
