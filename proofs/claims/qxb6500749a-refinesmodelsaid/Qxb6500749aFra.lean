import Derived.Test.Qxb6500749aRows
import Derived.Test.Qxb6500749aPly
import Derived.ProofKit
import Derived.OpenShut
import Derived.Deep.Slices
namespace Go.Proofs.Qxb6500749a
open Go.ChangeShapes Go.WideShapes Go.ChangeAt Go.RowKit Go.Deep
/-! ### The rows' frame: a script as an argument -/
theorem ownK : ownKnob Try.prog.godebug = none := by kernel_rfl
theorem laidOut : laidOutB Try.prog = true := by kernel_rfl
theorem k30 : Try.prog.cellsOf 30 = 1 := by kernel_rfl
theorem k71 : Try.prog.cellsOf 71 = 1 := by kernel_rfl
theorem k73 : Try.prog.cellsOf 73 = 6 := by kernel_rfl
theorem six_of_len {α : Type} {l : List α} (h : l.length = 6) : ∃ a b c d e f, l = [a, b, c, d, e, f] := by
  match l, h with
  | [a, b, c, d, e, f], _ => exact ⟨a, b, c, d, e, f, rfl⟩
theorem s73 : ∃ f0 f1 f2 f3 f4 f5 : Field, Try.prog.underlying 73 = some (.struct #[f0, f1, f2, f3, f4, f5]) ∧ (f0.type = 71 ∧ f0.offset = 0) ∧ (f1.type = 30 ∧ f1.offset = 1) ∧ (f2.type = 30 ∧ f2.offset = 2) ∧ (f3.type = 30 ∧ f3.offset = 3) ∧ (f4.type = 30 ∧ f4.offset = 4) ∧ (f5.type = 30 ∧ f5.offset = 5) :=
  ⟨_, _, _, _, _, _, Try.underlying73, ⟨rfl, rfl⟩, ⟨rfl, rfl⟩, ⟨rfl, rfl⟩, ⟨rfl, rfl⟩, ⟨rfl, rfl⟩, ⟨rfl, rfl⟩⟩
theorem u32_of_wf {x : Int} (h : (Lit.int .u32 x).wf = true) : W32 x := by
  simp [Lit.wf, IntKind.min, IntKind.max, IntKind.signed, IntKind.bits] at h
  exact ⟨by omega, by omega⟩
theorem u8_of_wf {x : Int} (h : (Lit.int .u8 x).wf = true) : 0 ≤ x ∧ x < 256 := by
  simp [Lit.wf, IntKind.min, IntKind.max, IntKind.signed, IntKind.bits] at h
  exact ⟨by omega, by omega⟩
theorem op_cells {H : Type} {enc : TypeId × Value → H} {W : World} {base : Nat} {sp : Nat → Bool} {held : Bool} {fuel : Nat} {cs : List Value} {x : DataW H × List MemPlace} (hc : cs.length = 6)
    (h : DataW.trod enc Try.prog W base sp held fuel 73 cs = some x) : ∃ o : OpD, o.Ok ∧ cs = (opV o).toList := by
  obtain ⟨f0, f1, f2, f3, f4, f5, hs, h0, h1, h2, h3, h4, h5⟩ := s73
  obtain ⟨xs, n, _, _, _, hlen, hf⟩ := DataW.trod_struct hs h
  have e0 := hf 0 f0 rfl
  have e1 := hf 1 f1 rfl
  have e2 := hf 2 f2 rfl
  have e3 := hf 3 f3 rfl
  have e4 := hf 4 f4 rfl
  have e5 := hf 5 f5 rfl
  rw [h0.1, h0.2, k71] at e0
  rw [h1.1, h1.2, k30] at e1
  rw [h2.1, h2.2, k30] at e2
  rw [h3.1, h3.2, k30] at e3
  rw [h4.1, h4.2, k30] at e4
  rw [h5.1, h5.2, k30] at e5
  obtain ⟨y0, y1, y2, y3, y4, y5, rfl⟩ := six_of_len hc
  obtain ⟨x0, x1, x2, x3, x4, x5, rfl⟩ := six_of_len hlen
  simp at e0 e1 e2 e3 e4 e5
  obtain ⟨n0, q0, _, w0⟩ := DataW.trod_int Try.underlying71 e0
  obtain ⟨n1, q1, _, w1⟩ := DataW.trod_int Try.underlying30 e1
  obtain ⟨n2, q2, _, w2⟩ := DataW.trod_int Try.underlying30 e2
  obtain ⟨n3, q3, _, w3⟩ := DataW.trod_int Try.underlying30 e3
  obtain ⟨n4, q4, _, w4⟩ := DataW.trod_int Try.underlying30 e4
  obtain ⟨n5, q5, _, w5⟩ := DataW.trod_int Try.underlying30 e5
  simp at q0 q1 q2 q3 q4 q5
  exact ⟨⟨n0, n1, n2, n3, n4, n5⟩, ⟨u8_of_wf w0, u32_of_wf w1, u32_of_wf w2, u32_of_wf w3, u32_of_wf w4, u32_of_wf w5⟩, by rw [q0, q1, q2, q3, q4, q5]; rfl⟩
theorem scr_of_trod {H : Type} {enc : TypeId × Value → H} {W : World} {held : Bool} {fuel : Nat} {a : Option Addr} {n c : Nat} {x : DataW H × List MemPlace}
    (h : DataW.trod enc Try.prog W 0 (fun _ => true) held fuel 22 (Value.cells (.slice a n c)).toList = some x) : ∃ s, Scr W a n s := by
  rcases open_slice Try.underlying22 h with ⟨hcs, _⟩ | ⟨ad, len, cap, m, k, D, Pl, hcs, hb, hl, hm, hmm, _, hx⟩
  · simp [Value.cells] at hcs
    obtain ⟨rfl, rfl, rfl⟩ := hcs
    exact ⟨fun _ => ⟨0, 0, 0, 0, 0, 0⟩, fun k hk => absurd hk (by omega), fun hk => absurd hk (by omega)⟩
  · simp [Value.cells] at hcs
    obtain ⟨rfl, rfl, rfl⟩ := hcs
    simp only [if_true] at hmm
    subst hmm
    rw [k73] at hx
    have hall : ∀ i, ∃ o : OpD, i < n → o.Ok ∧ ∀ j, j < 6 → W.cell? ((ad.add (i * 6)).add j) = (opV o)[j]? := by
      intro i
      by_cases hi : i < n
      · obtain ⟨cs', h1, h2⟩ := hx i (by omega)
        obtain ⟨_, hlen, hcell⟩ := World.cells?_some h1
        obtain ⟨o, ok, rfl⟩ := op_cells hlen h2
        refine ⟨o, fun _ => ⟨ok, fun j hj => ?_⟩⟩
        have := hcell j hj
        rw [this]
        simp
      · exact ⟨⟨0, 0, 0, 0, 0, 0⟩, fun h => absurd h hi⟩
    obtain ⟨s, hs⟩ : ∃ s : Nat → OpD, ∀ i, i < n → (s i).Ok ∧ ∀ j, j < 6 → W.cell? ((ad.add (i * 6)).add j) = (opV (s i))[j]? :=
      ⟨fun i => Classical.choose (hall i), fun i => Classical.choose_spec (hall i)⟩
    clear hall hx
    refine ⟨s, fun i hi => (hs i hi).1, fun hn => ?_⟩
    obtain ⟨b, off, spot⟩ := ad
    have h0 : W.cell? (((⟨b, off, spot⟩ : Addr).add (0 * 6)).add 0) = some (.int .u8 (s 0).k) := (hs 0 hn).2 0 (by decide)
    have hspot : spot = none := by
      have := World.cell?_spot h0
      simpa [Addr.add] using this
    subst hspot
    refine ⟨b, off, rfl, ?_, fun i hi j hj => ?_⟩
    · have := World.block_lt_of_cell? W _ h0
      rw [addr_add, addr_add] at this
      exact this
    · have := (hs i hi).2 j hj
      rw [addr_add, addr_add] at this
      exact this
end Go.Proofs.Qxb6500749a
