import Derived.Test.Qxb6500750aDoorLtr
import Derived.Test.Qxb6500750aDoorJnt6
import Derived.Test.Qxb6500750aDoorStep3
namespace Go.Proofs.Qxb6500750aDoor
open Go.RowKit
/-! ### The audit whole: the rig, the tables, the books -/
structure AI (own : Nat → Nat) (w : World) (ab xb : Nat) (pbs : Nat → Nat) (σ : SS) (B : BK) (acc : Nat → List Req) : Prop where
  rr : RRep own w B.a.rg xb pbs σ
  glb : Glb own w
  bk : BRep ab w B
  av : ∀ m, m < 3 → Sl w (B.a.av m) 91 3 (acc m).length ((acc m).flatMap reqRow)
  adr : ∀ m, m < 3 → ∀ r ∈ acc m, 0 ≤ r.ad ∧ r.ad < 4294967296
  oab : own ab = 10
  oav : ∀ m, m < 3 → ∀ k, (B.a.av m).ownBlock = some k → own k = 11 + m
  ofm : own B.a.fm = 14
  ofl : ∀ b f, B.fl b = some f → own b = 15
/-- What the audit's step may turn. -/
def SA (k : Nat) : Prop := k ≤ 6 ∨ (10 ≤ k ∧ k ≤ 15) ∨ k = 49
theorem AI.moved {own own' : Nat → Nat} {S : Nat → Prop} {w w' : World} {ab xb : Nat} {pbs : Nat → Nat} {σ σ' : SS} {B : BK} {acc : Nat → List Req} (h : AI own w ab xb pbs σ B acc) (hx : Ext own own' S w w') (hs : ∀ k, 9 ≤ k → k ≤ 15 → ¬ S k) (hr : RRep own' w' B.a.rg xb pbs σ') : AI own' w' ab xb pbs σ' B acc where
  rr := hr
  glb := h.glb.ext hx (hs 9 (by omega) (by omega))
  bk := ⟨h.bk.blk.ext hx (by rw [h.oab]; exact hs 10 (by omega) (by omega)), h.bk.map.same (hx.block _ h.bk.map.lt (by rw [h.ofm]; exact hs 14 (by omega) (by omega))), fun b f hf => (h.bk.fl b f hf).ext hx (by rw [h.ofl b f hf]; exact hs 15 (by omega) (by omega))⟩
  av := fun m hm => (h.av m hm).same fun k hk => hx.block k ((h.av m hm).lt k hk) (by rw [h.oav m hm k hk]; exact hs _ (by omega) (by omega))
  adr := h.adr
  oab := (hx.keep _ h.bk.blk.lt).trans h.oab
  oav := fun m hm k hk => (hx.keep k ((h.av m hm).lt k hk)).trans (h.oav m hm k hk)
  ofm := (hx.keep _ h.bk.map.lt).trans h.ofm
  ofl := fun b f hf => (hx.keep b (h.bk.fl b f hf).lt).trans (h.ofl b f hf)
theorem AI.ext {own own' : Nat → Nat} {S : Nat → Prop} {w w' : World} {ab xb : Nat} {pbs : Nat → Nat} {σ : SS} {B : BK} {acc : Nat → List Req} (h : AI own w ab xb pbs σ B acc) (hx : Ext own own' S w w') (hs : ∀ k, k ≤ 15 → ¬ S k) : AI own' w' ab xb pbs σ B acc :=
  h.moved hx (fun k _ hk => hs k hk) (h.rr.ext hx (fun k hk => hs k (by omega)))
theorem AI.below {own : Nat → Nat} {w w' : World} {ab xb : Nat} {pbs : Nat → Nat} {σ : SS} {B : BK} {acc : Nat → List Req} (h : AI own w ab xb pbs σ B acc) (hb : Below w.heap.size w w') : AI own w' ab xb pbs σ B acc :=
  h.ext (Ext.of_below (S := fun _ => False) hb) (fun _ _ h => h)
theorem AI.base {own : Nat → Nat} {w : World} {ab xb : Nat} {pbs : Nat → Nat} {σ : SS} {B : BK} {acc : Nat → List Req} (h : AI own w ab xb pbs σ B acc) : Base ab xb pbs w B acc σ.p := by
  refine ⟨h.bk, h.rr.blk, fun s hs => ?_, h.av⟩
  obtain ⟨L, e, hL⟩ := h.rr.x.port s hs
  exact ⟨L, e, hL.blk, hL.atts⟩
/-- Behind onTick. -/
theorem AI.tick {own : Nat → Nat} {w w' W0 : World} {ab xb : Nat} {pbs : Nat → Nat} {σ : SS} {B B' : BK} {acc : Nat → List Req} (h : AI own w ab xb pbs σ B acc) (hb : Below w.heap.size w W0) (hl : Later ab xb pbs B acc σ.p W0 B' w') :
    AI (mark own w.heap.size 15) w' ab xb pbs σ B' acc ∧ Ext own (mark own w.heap.size 15) SA w w' := by
  have hx : Ext own (mark own w.heap.size 15) (fun k => k = 10 ∨ k = 14 ∨ k = 15) w w' := by
    refine ⟨hl.frm.os.trans hb.os, hl.frm.tape.trans hb.tape, hl.frm.output.trans hb.output, Nat.le_trans hb.size hl.frm.size, fun k hk => mark_lt hk, fun k hk hs => ?_⟩
    refine (hl.frm.block k (Nat.lt_of_lt_of_le hk hb.size) (fun e => hs (by rw [e, h.oab]; exact .inl rfl)) (fun e => hs (by rw [e, h.ofm]; exact .inr (.inl rfl))) (fun hn => ?_)).trans (hb.block k hk)
    cases hf : B.fl k with
    | none => exact hn hf
    | some f => exact hs (by rw [h.ofl k f hf]; exact .inr (.inr rfl))
  have hold : ∀ b, b < w.heap.size → B'.fl b ≠ none → B.fl b ≠ none := fun b hb' hn => hl.old b (Nat.lt_of_lt_of_le hb' hb.size) hn
  refine ⟨⟨by rw [hl.rg]; exact h.rr.ext hx (fun k hk h => by omega), h.glb.ext hx (by omega), hl.base.bk, hl.base.av, h.adr, (mark_lt h.bk.blk.lt).trans h.oab, fun m hm k hk => ?_, ?_, fun b f hf => ?_⟩, hx.mono (fun k hk => .inr (.inl (by omega)))⟩
  · rw [hl.av] at hk
    rw [mark_lt ((h.av m hm).lt k hk)]; exact h.oav m hm k hk
  · rw [hl.fm, mark_lt h.bk.map.lt]; exact h.ofm
  · by_cases hlt : b < w.heap.size
    · rw [mark_lt hlt]
      cases hf0 : B.fl b with
      | none => exact absurd hf0 (hold b hlt (by rw [hf]; simp))
      | some f0 => exact h.ofl b f0 hf0
    · exact mark_ge (Nat.not_lt.1 hlt)
/-- Behind an issue that was taken. -/
theorem AI.taken {own : Nat → Nat} {w w' : World} {ab xb : Nat} {pbs : Nat → Nat} {σ : SS} {B : BK} {acc : Nat → List Req} (h : AI own w ab xb pbs σ B acc) {m : Nat} (hm : m < 3) (r : Req) (hr : 0 ≤ r.ad ∧ r.ad < 4294967296) (P : TakenPost ab (acc m).length B.a m (acc m ++ [r]) w w') :
    ∃ v', AI (mark own w.heap.size (11 + m)) w' ab xb pbs σ { B with a := { B.a with av := upd B.a.av m v', tk := upd B.a.tk m true } } (upd acc m (acc m ++ [r])) ∧ Ext own (mark own w.heap.size (11 + m)) SA w w' := by
  obtain ⟨v', h1, h2, h3⟩ := P.out
  have hx : Ext own (mark own w.heap.size (11 + m)) (fun k => k = 10 ∨ k = 11 + m) w w' := by
    refine ⟨P.os, P.tape, P.output, P.size, fun k hk => mark_lt hk, fun k hk hs => ?_⟩
    exact P.block k hk (fun e => hs (by rw [e, h.oab]; exact .inl rfl)) (fun e => hs (.inr (h.oav m hm k e)))
  refine ⟨v', ⟨?_, ?_, ⟨h1, ?_, fun b f hf => ?_⟩, fun m' hm' => ?_, fun m' hm' r' hr' => ?_, ?_, fun m' hm' k hk => ?_, ?_, fun b f hf => ?_⟩, hx.mono (fun k hk => .inr (.inl (by omega)))⟩
  · exact h.rr.ext hx (fun k hk h => by omega)
  · exact h.glb.ext hx (by omega)
  · exact h.bk.map.same (hx.block _ h.bk.map.lt (by rw [h.ofm]; omega))
  · exact (h.bk.fl b f hf).ext hx (by rw [h.ofl b f hf]; omega)
  · by_cases e : m' = m
    · subst e
      show Sl w' (upd B.a.av m' v' m') 91 3 (upd acc m' (acc m' ++ [r]) m').length ((upd acc m' (acc m' ++ [r]) m').flatMap reqRow)
      rw [upd_same, upd_same, List.length_append]
      exact h2
    · show Sl w' (upd B.a.av m v' m') 91 3 (upd acc m (acc m ++ [r]) m').length ((upd acc m (acc m ++ [r]) m').flatMap reqRow)
      rw [upd_ne _ _ _ _ e, upd_ne _ _ _ _ e]
      exact (h.av m' hm').same fun k hk => hx.block k ((h.av m' hm').lt k hk) (by rw [h.oav m' hm' k hk]; omega)
  · by_cases e : m' = m
    · subst e
      rw [upd_same] at hr'
      rcases List.mem_append.1 hr' with h5 | h5
      · exact h.adr m' hm' r' h5
      · rw [List.mem_singleton.1 h5]; exact hr
    · rw [upd_ne _ _ _ _ e] at hr'
      exact h.adr m' hm' r' hr'
  · rw [mark_lt h.bk.blk.lt]; exact h.oab
  · by_cases e : m' = m
    · subst e
      have hk : (upd B.a.av m' v' m').ownBlock = some k := hk
      rw [upd_same] at hk
      rcases h3 k hk with h5 | h5
      · rw [mark_lt ((h.av m' hm').lt k h5)]; exact h.oav m' hm' k h5
      · exact mark_ge h5
    · have hk : (upd B.a.av m v' m').ownBlock = some k := hk
      rw [upd_ne _ _ _ _ e] at hk
      rw [mark_lt ((h.av m' hm').lt k hk)]; exact h.oav m' hm' k hk
  · show mark own w.heap.size (11 + m) B.a.fm = 14
    rw [mark_lt h.bk.map.lt]; exact h.ofm
  · rw [mark_lt (h.bk.fl b f hf).lt]; exact h.ofl b f hf
/-- The books' own block laid anew. -/
theorem AI.relaid {own : Nat → Nat} {w : World} {ab xb : Nat} {pbs : Nat → Nat} {σ : SS} {B : BK} {acc : Nat → List Req} (h : AI own w ab xb pbs σ B acc) (a' : AU) (e1 : a'.rg = B.a.rg) (e2 : a'.av = B.a.av) (e3 : a'.fm = B.a.fm) :
    AI own (put w ab (encA a') 82) ab xb pbs σ { B with a := a' } acc ∧ Ext own own SA w (put w ab (encA a') 82) := by
  have hx : Ext own own (fun k => k = 10) w (put w ab (encA a') 82) := Ext.put h.oab
  refine ⟨⟨?_, h.glb.ext hx (by decide), ⟨Blk.put_same h.bk.blk.lt, ?_, fun b f hf => ?_⟩, fun m hm => ?_, h.adr, h.oab, fun m hm k hk => ?_, ?_, h.ofl⟩, hx.mono (fun k hk => .inr (.inl (by omega)))⟩
  · show RRep own _ a'.rg xb pbs σ
    rw [e1]; exact h.rr.ext hx (fun k hk h => by omega)
  · show FMap _ a'.fm B.γ
    rw [e3]; exact h.bk.map.same (hx.block _ h.bk.map.lt (by rw [h.ofm]; decide))
  · exact (h.bk.fl b f hf).ext hx (by rw [h.ofl b f hf]; decide)
  · show Sl _ (a'.av m) _ _ _ _
    rw [e2]; exact (h.av m hm).same fun k hk => hx.block k ((h.av m hm).lt k hk) (by rw [h.oav m hm k hk]; omega)
  · have hk : (a'.av m).ownBlock = some k := hk
    rw [e2] at hk; exact h.oav m hm k hk
  · show own a'.fm = 14
    rw [e3]; exact h.ofm
/-- Behind a reset: a new map at fm, nothing taken. -/
theorem AI.reset {own : Nat → Nat} {w w' : World} {ab xb : Nat} {pbs : Nat → Nat} {σ : SS} {B : BK} {acc : Nat → List Req} (h : AI own w ab xb pbs σ B acc) (a' : AU) (e1 : a'.rg = B.a.rg) (e2 : ∀ m, m < 3 → a'.av m = .slice none 0 0) (hfm : w.heap.size ≤ a'.fm)
    (o1 : w'.os = w.os) (o2 : w'.tape = w.tape) (o3 : w'.output = w.output) (o4 : w.heap.size ≤ w'.heap.size) (hko : ∀ k, k < w.heap.size → k ≠ ab → w'.heap[k]? = w.heap[k]?) (hA : Blk w' ab (encA a') 82) (hM : FMap w' a'.fm (fun _ _ => none)) :
    AI (mark own w.heap.size 14) w' ab xb pbs σ ⟨a', fun _ _ => none, B.fl⟩ (fun _ => []) ∧ Ext own (mark own w.heap.size 14) SA w w' := by
  have hx : Ext own (mark own w.heap.size 14) (fun k => k = 10) w w' := ⟨o1, o2, o3, o4, fun k hk => mark_lt hk, fun k hk hs => hko k hk (fun e => hs (by rw [e]; exact h.oab))⟩
  refine ⟨⟨?_, h.glb.ext hx (by decide), ⟨hA, hM, fun b f hf => ?_⟩, fun m hm => ?_, fun m hm r hr => (by cases hr), ?_, fun m hm k hk => ?_, mark_ge hfm, fun b f hf => ?_⟩, hx.mono (fun k hk => .inr (.inl (by omega)))⟩
  · show RRep _ _ a'.rg xb pbs σ
    rw [e1]; exact h.rr.ext hx (fun k hk h => by omega)
  · exact (h.bk.fl b f hf).ext hx (by rw [h.ofl b f hf]; decide)
  · show Sl _ (a'.av m) _ _ _ _
    rw [e2 m hm]; exact Sl.nil _ _ _
  · rw [mark_lt h.bk.blk.lt]; exact h.oab
  · have hk : (a'.av m).ownBlock = some k := hk
    rw [e2 m hm] at hk; simp [Value.ownBlock] at hk
  · rw [mark_lt (h.bk.fl b f hf).lt]; exact h.ofl b f hf
end Go.Proofs.Qxb6500750aDoor
