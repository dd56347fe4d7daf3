import Derived.Test.Qxb6500750aDoorRows
import Derived.Test.Qxb6500750aDoorMlz
import Derived.ProofKit
import Derived.LaidMore
import Derived.OpenShut
import Derived.Deep.Slices
namespace Go.Proofs.Qxb6500750aDoor
open Go.ChangeShapes Go.WideShapes Go.ChangeAt Go.RowKit Go.Deep
/-! ### The rows' frame for the laws over the audit -/
def U32 (x : Int) : Prop := 0 ≤ x ∧ x < 4294967296
def U8 (x : Int) : Prop := 0 ≤ x ∧ x < 256
def OpD.Ok (o : OpD) : Prop := U8 o.k ∧ U32 o.a ∧ U32 o.b ∧ U32 o.c
/-- The slice (a, n, ..) reads as the script s. -/
def Scr (w : World) (a : Option Addr) (n : Nat) (s : Nat → OpD) : Prop :=
  (∀ k, k < n → (s k).Ok) ∧ (0 < n → ∃ b off, a = some ⟨b, off, none⟩ ∧ b < w.heap.size ∧ ∀ k, k < n →
    w.cell? ⟨b, off + k * 4, none⟩ = some (.int .u8 (s k).k) ∧ w.cell? ⟨b, off + k * 4 + 1, none⟩ = some (.int .u32 (s k).a) ∧
    w.cell? ⟨b, off + k * 4 + 2, none⟩ = some (.int .u32 (s k).b) ∧ w.cell? ⟨b, off + k * 4 + 3, none⟩ = some (.int .u32 (s k).c))
theorem own : ownKnob Tryd.prog.godebug = none := by kernel_rfl
theorem laidOut : laidOutB Tryd.prog = true := by kernel_rfl
theorem c29 : Tryd.prog.cellsOf 29 = 1 := by kernel_rfl
theorem c5 : Tryd.prog.cellsOf 5 = 1 := by kernel_rfl
theorem c28 : Tryd.prog.cellsOf 28 = 1 := by kernel_rfl
theorem c31 : Tryd.prog.cellsOf 31 = 4 := by kernel_rfl
theorem c66 : Tryd.prog.cellsOf 66 = 2 := by kernel_rfl
theorem c115 : Tryd.prog.cellsOf 115 = 2 := by kernel_rfl

theorem two_of_len {α : Type} {l : List α} (h : l.length = 2) : ∃ a b, l = [a, b] := by
  match l, h with
  | [a, b], _ => exact ⟨a, b, rfl⟩
theorem four_of_len {α : Type} {l : List α} (h : l.length = 4) : ∃ a b c d, l = [a, b, c, d] := by
  match l, h with
  | [a, b, c, d], _ => exact ⟨a, b, c, d, rfl⟩
section
variable {H : Type} {enc : TypeId × Value → H} {W : World} {base : Nat} {sp : Nat → Bool} {held : Bool}
/-- A struct of two words that reads as two numbers: its two cells. -/
theorem pair_cells {t : TypeId} {f0 f1 : Field} {fuel : Nat} {cs : List Value} {x y : Int} {p : List MemPlace} (ht : Tryd.prog.underlying t = some (.struct #[f0, f1]))
    (h0 : f0.type = 29 ∧ f0.offset = 0) (h1 : f1.type = 29 ∧ f1.offset = 1) (hc : cs.length = 2)
    (h : DataW.trod enc Tryd.prog W base sp held fuel t cs = some (.agg [.lit (.int .u32 x), .lit (.int .u32 y)], p)) : cs = [.int .u32 x, .int .u32 y] := by
  obtain ⟨xs, n, _, hx, _, hlen, hf⟩ := DataW.trod_struct ht h
  have e0 := hf 0 f0 rfl
  have e1 := hf 1 f1 rfl
  rw [h0.1, h0.2, c29] at e0
  rw [h1.1, h1.2, c29] at e1
  obtain ⟨c0, c1, rfl⟩ := two_of_len hc
  obtain ⟨x0, x1, rfl⟩ := two_of_len hlen
  simp at hx e0 e1
  obtain ⟨n0, q0, r0, _⟩ := DataW.trod_int Tryd.underlying29 e0
  obtain ⟨n1, q1, r1, _⟩ := DataW.trod_int Tryd.underlying29 e1
  subst r0 r1
  simp at hx q0 q1
  obtain ⟨⟨rfl, rfl⟩, _⟩ := hx
  rw [q0, q1]
/-- An array of six such structs: its twelve cells. -/
theorem six_cells {t e : TypeId} {f0 f1 : Field} {fuel : Nat} {cs : List Value} {F L : Nat → Int} {p : List MemPlace} (ht : Tryd.prog.underlying t = some (.array 6 e)) (he : Tryd.prog.underlying e = some (.struct #[f0, f1])) (hc : Tryd.prog.cellsOf e = 2) (hct : Tryd.prog.cellsOf t = 12)
    (h0 : f0.type = 29 ∧ f0.offset = 0) (h1 : f1.type = 29 ∧ f1.offset = 1)
    (h : DataW.trod enc Tryd.prog W base sp held fuel t cs = some (.agg ((List.range 6).map fun k => .agg [.lit (.int .u32 (F k)), .lit (.int .u32 (L k))]), p)) :
    ∀ k, k < 6 → cs[2 * k]? = some (.int .u32 (F k)) ∧ cs[2 * k + 1]? = some (.int .u32 (L k)) := by
  obtain ⟨xs, m, _, hx, hl, hlen, hf⟩ := DataW.trod_array ht h
  intro k hk
  have e := hf k hk
  rw [hc] at e
  have hxk : xs[k]? = some (xs[k]'(by omega)) := List.getElem?_eq_getElem (by omega)
  have hd : (xs[k]'(by omega)).1 = .agg [.lit (.int .u32 (F k)), .lit (.int .u32 (L k))] := by
    have h2 : (xs.map (·.1))[k]? = some (.agg [.lit (.int .u32 (F k)), .lit (.int .u32 (L k))]) := by
      have h3 := (Prod.mk.inj hx).1
      rw [← (DataW.agg.inj h3), List.getElem?_map, List.getElem?_range hk]
      rfl
    rw [List.getElem?_map, hxk] at h2
    simpa using h2
  rw [hxk] at e
  have hlen2 : ((cs.drop (k * 2)).take 2).length = 2 := by simp; omega
  have := pair_cells (enc := enc) he h0 h1 hlen2 (p := (xs[k]'(by omega)).2) (by rw [e, ← hd])
  have g0 : ((cs.drop (k * 2)).take 2)[0]? = some (.int .u32 (F k)) := by rw [this]; rfl
  have g1 : ((cs.drop (k * 2)).take 2)[1]? = some (.int .u32 (L k)) := by rw [this]; rfl
  rw [List.getElem?_take, if_pos (by omega), List.getElem?_drop] at g0 g1
  rw [show k * 2 + 0 = 2 * k from by omega] at g0
  rw [show k * 2 + 1 = 2 * k + 1 from by omega] at g1
  exact ⟨g0, g1⟩
end

/-- The fields of the two tables' structs. -/
theorem s66 : ∃ f0 f1 : Field, Tryd.prog.underlying 66 = some (.struct #[f0, f1]) ∧ (f0.type = 29 ∧ f0.offset = 0) ∧ (f1.type = 29 ∧ f1.offset = 1) := ⟨_, _, Tryd.underlying66, ⟨rfl, rfl⟩, ⟨rfl, rfl⟩⟩
theorem s115 : ∃ f0 f1 : Field, Tryd.prog.underlying 115 = some (.struct #[f0, f1]) ∧ (f0.type = 29 ∧ f0.offset = 0) ∧ (f1.type = 29 ∧ f1.offset = 1) := ⟨_, _, Tryd.underlying115, ⟨rfl, rfl⟩, ⟨rfl, rfl⟩⟩
theorem c67 : Tryd.prog.cellsOf 67 = 12 := by kernel_rfl
theorem c116 : Tryd.prog.cellsOf 116 = 12 := by kernel_rfl

theorem maps_of {W : World} {n : String} {cs : Array Value} {f : Nat} {p : List MemPlace} (hg : Tryd.prog.globalNamed n = some 0) (hv : W.var? Tryd.prog n = some cs)
    (hd : DataW.trod (fun _ => ()) Tryd.prog W 0 (fun _ => true) false f 67 cs.toList = some (Rows.laid_e2e_api_Map, p)) : Maps W := fun k hk => by
  obtain ⟨f0, f1, hs, h0, h1⟩ := s66
  have g := six_cells (F := mfirst) (L := mlast) Tryd.underlying67 hs c66 c67 h0 h1 (show _ = some (_, p) from hd) k hk
  simp only [Array.getElem?_toList] at g
  exact ⟨(World.var?_cell hg hv (2 * k)).trans g.1, (World.var?_cell hg hv (2 * k + 1)).trans g.2⟩
theorem wins_of {W : World} {n : String} {cs : Array Value} {f : Nat} {p : List MemPlace} (hg : Tryd.prog.globalNamed n = some 1) (hv : W.var? Tryd.prog n = some cs)
    (hd : DataW.trod (fun _ => ()) Tryd.prog W 0 (fun _ => true) false f 116 cs.toList = some (Rows.laid_e2e_xbar_windows, p)) : Wins W := fun k hk => by
  obtain ⟨f0, f1, hs, h0, h1⟩ := s115
  have g := six_cells (F := wmask) (L := wmatch) Tryd.underlying116 hs c115 c116 h0 h1 (show _ = some (_, p) from hd) k hk
  simp only [Array.getElem?_toList] at g
  exact ⟨(World.var?_cell hg hv (2 * k)).trans g.1, (World.var?_cell hg hv (2 * k + 1)).trans g.2⟩

/-- A table of bytes: its cells. -/
theorem byte_cells {H : Type} {enc : TypeId × Value → H} {W : World} {base : Nat} {sp : Nat → Bool} {held : Bool} {t : TypeId} {n : Nat} {fuel : Nat} {cs : List Value} {F : Nat → Int} {p : List MemPlace} (ht : Tryd.prog.underlying t = some (.array n 5))
    (h : DataW.trod enc Tryd.prog W base sp held fuel t cs = some (.agg ((List.range n).map fun k => .lit (.int .u8 (F k))), p)) :
    ∀ k, k < n → cs[k]? = some (.int .u8 (F k)) := by
  obtain ⟨xs, m, _, hx, hl, hlen, hf⟩ := DataW.trod_array ht h
  intro k hk
  have e := hf k hk
  rw [c5] at e
  have hxk : xs[k]? = some (xs[k]'(by omega)) := List.getElem?_eq_getElem (by omega)
  have hd : (xs[k]'(by omega)).1 = .lit (.int .u8 (F k)) := by
    have h2 : (xs.map (·.1))[k]? = some (.lit (.int .u8 (F k))) := by
      have h3 := (Prod.mk.inj hx).1
      rw [← (DataW.agg.inj h3), List.getElem?_map, List.getElem?_range hk]
      rfl
    rw [List.getElem?_map, hxk] at h2
    simpa using h2
  rw [hxk] at e
  obtain ⟨n0, q0, r0, _⟩ := DataW.trod_int Tryd.underlying5 e
  have r1 := congrArg Prod.fst r0
  rw [hd] at r1
  have hn : F k = n0 := by simpa using r1
  rw [← hn] at q0
  have g0 : ((cs.drop (k * 1)).take 1)[0]? = some (.int .u8 (F k)) := by rw [q0]; rfl
  rw [List.getElem?_take, if_pos (by omega), List.getElem?_drop] at g0
  rw [show k * 1 + 0 = k from by omega] at g0
  exact g0
def tab64 (k : Nat) : Int := match (Rows.laid_math_bits_deBruijn64tab (H := Unit)) with
  | .agg l => (match l[k]? with | some (.lit (.int _ x)) => x | _ => 0)
  | _ => 0
theorem tab64_is : (Rows.laid_math_bits_deBruijn64tab (H := Unit)) = .agg ((List.range 64).map fun k => .lit (.int .u8 (tab64 k))) := by kernel_rfl
theorem tab64_at : ∀ (j : Nat) (_ : j < 6), tab64 (2 ^ j - 1) = ((j : Nat) : Int)
  | 0, _ => by kernel_rfl
  | 1, _ => by kernel_rfl
  | 2, _ => by kernel_rfl
  | 3, _ => by kernel_rfl
  | 4, _ => by kernel_rfl
  | 5, _ => by kernel_rfl
  | _ + 6, h => absurd h (by omega)
theorem und_of {α β : Type} {x : Option α} {t : α} {f : α → Option β} {d : β} (h : x = some t) (h9 : x.bind f = some d) : f t = some d := by
  subst h; exact h9
theorem of_laid4 {W : World} (h : laidMetH Tryd.prog Rows.orderBoundsAndInterleavingRow.laid W) : Maps W ∧ Wins W ∧ DeB W ∧ 3 < W.heap.size := by
  rw [MakeChecks.laidMetH_plain _ _ _ (by kernel_rfl)] at h
  obtain ⟨ps, ⟨g0, t0, cs0, f0, p0, q0, hg0, ht0, hv0, hd0, ⟨g2, t2, cs2, f2, p2, q2, hg2, ht2, hv2, hd2, ⟨g3, t3, cs3, f3, p3, q3, hg3, ht3, hv3, hd3, ⟨g1, t1, cs1, f1, p1, q1, hg1, ht1, hv1, hd1, _, _⟩, _⟩, _⟩, _⟩, _, _⟩ := h
  obtain rfl : g0 = 0 := (Option.some.inj ((show _ = some 0 by kernel_rfl).symm.trans hg0)).symm
  obtain rfl : g1 = 1 := (Option.some.inj ((show _ = some 1 by kernel_rfl).symm.trans hg1)).symm
  obtain rfl : g3 = 3 := (Option.some.inj ((show _ = some 3 by kernel_rfl).symm.trans hg3)).symm
  obtain rfl : t0 = 67 := (Option.some.inj ((show _ = some 67 by kernel_rfl).symm.trans ht0)).symm
  obtain rfl : t1 = 116 := (Option.some.inj ((show _ = some 116 by kernel_rfl).symm.trans ht1)).symm
  have hu3 : Tryd.prog.underlying t3 = some (.array 64 5) := by
    have h9 : (Option.map (fun x => x.type) Tryd.prog.globals[3]?).bind (fun t => Tryd.prog.underlying t) = some (.array 64 5) := by kernel_rfl
    exact und_of ht3 h9
  have hb := byte_cells (F := tab64) hu3 (by rw [← tab64_is]; exact hd3)
  have hdeb : DeB W := fun j hj => by
    have hk : 2 ^ j - 1 < 64 := by
      have : j = 0 ∨ j = 1 ∨ j = 2 ∨ j = 3 ∨ j = 4 ∨ j = 5 := by omega
      rcases this with rfl | rfl | rfl | rfl | rfl | rfl <;> decide
    have g := hb (2 ^ j - 1) hk
    simp only [Array.getElem?_toList] at g
    rw [tab64_at j hj] at g
    exact (World.var?_cell hg3 hv3 (2 ^ j - 1)).trans g
  exact ⟨maps_of hg0 hv0 hd0, wins_of hg1 hv1 hd1, hdeb, World.block_lt_of_cell? W _ (hdeb 0 (by decide))⟩
/-- The fields of a step. -/
theorem s31 : ∃ f0 f1 f2 f3 : Field, Tryd.prog.underlying 31 = some (.struct #[f0, f1, f2, f3]) ∧ (f0.type = 28 ∧ f0.offset = 0) ∧ (f1.type = 29 ∧ f1.offset = 1) ∧ (f2.type = 29 ∧ f2.offset = 2) ∧ (f3.type = 29 ∧ f3.offset = 3) :=
  ⟨_, _, _, _, Tryd.underlying31, ⟨rfl, rfl⟩, ⟨rfl, rfl⟩, ⟨rfl, rfl⟩, ⟨rfl, rfl⟩⟩
theorem u32_of_wf {x : Int} (h : (Lit.int .u32 x).wf = true) : U32 x := by
  simp [Lit.wf, IntKind.min, IntKind.max, IntKind.signed, IntKind.bits] at h
  exact ⟨by omega, by omega⟩
theorem u8_of_wf {x : Int} (h : (Lit.int .u8 x).wf = true) : U8 x := by
  simp [Lit.wf, IntKind.min, IntKind.max, IntKind.signed, IntKind.bits] at h
  exact ⟨by omega, by omega⟩
theorem op_cells {H : Type} {enc : TypeId × Value → H} {W : World} {base : Nat} {sp : Nat → Bool} {held : Bool} {fuel : Nat} {cs : List Value} {x : DataW H × List MemPlace} (hc : cs.length = 4)
    (h : DataW.trod enc Tryd.prog W base sp held fuel 31 cs = some x) : ∃ o : OpD, o.Ok ∧ cs = [.int .u8 o.k, .int .u32 o.a, .int .u32 o.b, .int .u32 o.c] := by
  obtain ⟨f0, f1, f2, f3, hs, h0, h1, h2, h3⟩ := s31
  obtain ⟨xs, n, _, _, _, hlen, hf⟩ := DataW.trod_struct hs h
  have e0 := hf 0 f0 rfl
  have e1 := hf 1 f1 rfl
  have e2 := hf 2 f2 rfl
  have e3 := hf 3 f3 rfl
  rw [h0.1, h0.2, c28] at e0
  rw [h1.1, h1.2, c29] at e1
  rw [h2.1, h2.2, c29] at e2
  rw [h3.1, h3.2, c29] at e3
  obtain ⟨y0, y1, y2, y3, rfl⟩ := four_of_len hc
  obtain ⟨x0, x1, x2, x3, rfl⟩ := four_of_len hlen
  simp at e0 e1 e2 e3
  obtain ⟨n0, q0, _, w0⟩ := DataW.trod_int Tryd.underlying28 e0
  obtain ⟨n1, q1, _, w1⟩ := DataW.trod_int Tryd.underlying29 e1
  obtain ⟨n2, q2, _, w2⟩ := DataW.trod_int Tryd.underlying29 e2
  obtain ⟨n3, q3, _, w3⟩ := DataW.trod_int Tryd.underlying29 e3
  simp at q0 q1 q2 q3
  exact ⟨⟨n0, n1, n2, n3⟩, ⟨u8_of_wf w0, u32_of_wf w1, u32_of_wf w2, u32_of_wf w3⟩, by rw [q0, q1, q2, q3]⟩

theorem scr_of_trod {H : Type} {enc : TypeId × Value → H} {W : World} {held : Bool} {fuel : Nat} {a : Option Addr} {n c : Nat} {x : DataW H × List MemPlace}
    (h : DataW.trod enc Tryd.prog W 0 (fun _ => true) held fuel 22 (Value.cells (.slice a n c)).toList = some x) : ∃ s, Scr W a n s := by
  rcases open_slice Tryd.underlying22 h with ⟨hcs, _⟩ | ⟨ad, len, cap, m, k, D, Pl, hcs, hb, hl, hm, hmm, _, hx⟩
  · simp [Value.cells] at hcs
    obtain ⟨rfl, rfl, rfl⟩ := hcs
    exact ⟨fun _ => ⟨0, 0, 0, 0⟩, fun k hk => absurd hk (by omega), fun hk => absurd hk (by omega)⟩
  · simp [Value.cells] at hcs
    obtain ⟨rfl, rfl, rfl⟩ := hcs
    simp only [if_true] at hmm
    subst hmm
    rw [c31] at hx
    have hall : ∀ i, ∃ o : OpD, i < n → o.Ok ∧ W.cell? (ad.add (i * 4)) = some (.int .u8 o.k) ∧ W.cell? ((ad.add (i * 4)).add 1) = some (.int .u32 o.a) ∧ W.cell? ((ad.add (i * 4)).add 2) = some (.int .u32 o.b) ∧ W.cell? ((ad.add (i * 4)).add 3) = some (.int .u32 o.c) := by
      intro i
      by_cases hi : i < n
      · obtain ⟨cs', h1, h2⟩ := hx i (by omega)
        obtain ⟨_, hlen, hcell⟩ := World.cells?_some h1
        obtain ⟨o, ok, rfl⟩ := op_cells hlen h2
        refine ⟨o, fun _ => ⟨ok, ?_, ?_, ?_, ?_⟩⟩
        · have := hcell 0 (by omega); simpa [Addr.add] using this
        · exact hcell 1 (by omega)
        · exact hcell 2 (by omega)
        · exact hcell 3 (by omega)
      · exact ⟨⟨0, 0, 0, 0⟩, fun h => absurd h hi⟩
    obtain ⟨s, hs⟩ : ∃ s : Nat → OpD, ∀ i, i < n → (s i).Ok ∧ W.cell? (ad.add (i * 4)) = some (.int .u8 (s i).k) ∧ W.cell? ((ad.add (i * 4)).add 1) = some (.int .u32 (s i).a) ∧ W.cell? ((ad.add (i * 4)).add 2) = some (.int .u32 (s i).b) ∧ W.cell? ((ad.add (i * 4)).add 3) = some (.int .u32 (s i).c) :=
      ⟨fun i => Classical.choose (hall i), fun i => Classical.choose_spec (hall i)⟩
    clear hall hx
    refine ⟨s, fun i hi => (hs i hi).1, fun hn => ?_⟩
    obtain ⟨b, off, spot⟩ := ad
    have h0 := (hs 0 hn).2.1
    have hspot : spot = none := by
      have := World.cell?_spot h0
      simpa [Addr.add] using this
    subst hspot
    have hadd : ∀ i, (⟨b, off, none⟩ : Addr).add i = ⟨b, off + i, none⟩ := fun i => add_plain b off i
    refine ⟨b, off, rfl, ?_, fun i hi => ?_⟩
    · have := World.block_lt_of_cell? W _ h0
      rw [hadd] at this
      exact this
    · have := (hs i hi).2
      rw [hadd] at this
      have h1 : ∀ j, (⟨b, off + i * 4, none⟩ : Addr).add j = ⟨b, off + i * 4 + j, none⟩ := fun j => add_plain b (off + i * 4) j
      rw [h1, h1, h1] at this
      exact this

end Go.Proofs.Qxb6500750aDoor
