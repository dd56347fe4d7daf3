import Derived.Test.Qxb6500750aDoorAud
import Derived.BigQuiet
namespace Go.Proofs.Qxb6500750aDoor
open Go.RowKit
attribute [local go_sem] put_size put_cell_same put_cell_ne put_frozen_same put_frozen_ne put_setCell_same put_setCell_ne put_drew
attribute [local go_sem] drewN_setCell drewN_alloc drewN_put
attribute [local go_sem] gg_0 gg_s
attribute [local go_sem] ag_rg ag_av ag_gr ag_rt ag_tk ag_ba ag_cut ag_turn ag_pt ag_fm ag_f0 ag_f1 ag_f2 ag_f3 as_av as_gr as_rt as_tk as_ba as_cut as_turn as_pt as_f0 as_f1 as_f2 as_f3 as_fm
/-! ### note -/
def noted (f : FL) (o : Option Att) : FL :=
  match o with
  | none => { f with n := f.n + 1 }
  | some l => { f with n := f.n + 1, la := endP l.p, ac := if l.acted then f.ac + 1 else f.ac }
theorem note_err (ab fb : Nat) (f : FL) (ht : f.t = 6) (hn : 0 ≤ f.n ∧ f.n < 1000000) (w : World) (hF : Blk w fb (encF f) 156) :
    Calls Tryd.prog 57 #[.pointer (some ⟨ab, 0, none⟩), .pointer (some ⟨fb, 0, none⟩)] w fun e w' => e = .returned (.tuple #[]) ∧ w' = put w fb (encF (noted f none)) 156 := by
  obtain ⟨n0, n1⟩ := hn
  have hadd : IntKind.i64.wrap (f.n + 1) = f.n + 1 := by simp [IntKind.wrap, IntKind.bits, IntKind.signed]; omega
  obtain ⟨w0, rfl, hl⟩ := hF.out
  unfold encF noted
  rw [ht, put_put]
  clear hF
  go_enter Tryd.func57, Tryd.ntmps57
  go_wp2_with fail
  refine bodyPost_ret (results_none rfl _ _ _) rfl ?_
  exact ⟨rfl, rfl⟩
/-- The last row of a port's attempts. -/
theorem last_att {w : World} {v : Value} {atts : List Att} (h : Sl w v 59 7 atts.length (atts.flatMap attRow)) {l : Att} (hl : atts.getLast? = some l) :
    ∃ b off cap, v = .slice (some ⟨b, off, none⟩) atts.length cap ∧ atts.length ≤ cap ∧ 0 < atts.length ∧ ∀ j, j < 7 → w.cell? ⟨b, off + (atts.length - 1) * 7 + j, none⟩ = (attRow l)[j]? := by
  have hne : atts ≠ [] := fun e => by rw [e] at hl; cases hl
  have hpos : 0 < atts.length := List.length_pos_iff.2 hne
  obtain ⟨b, off, cap, hv, hc, _⟩ := h.form hpos
  refine ⟨b, off, cap, hv, hc, hpos, fun j hj => ?_⟩
  obtain ⟨pre, rfl⟩ : ∃ pre, atts = pre ++ [l] := ⟨atts.dropLast, by
    rw [List.getLast?_eq_some_getLast hne] at hl
    have := List.dropLast_concat_getLast hne
    rw [Option.some.inj hl] at this
    exact this.symm⟩
  have hlen : ∀ xs : List Att, (xs.flatMap attRow).length = xs.length * 7 := fun xs => by
    induction xs with
    | nil => rfl
    | cons x xs ih => simp only [List.flatMap_cons, List.length_append, ih, List.length_cons]; simp [attRow]; omega
  have hj2 : (pre ++ [l]).length - 1 = pre.length := by simp
  rw [hj2]
  have := h.cell hv (pre.length * 7 + j) (by rw [hlen]; simp; omega)
  rw [Nat.add_assoc] at *
  rw [this, List.flatMap_append, List.getElem?_append_right (by rw [hlen]; omega), hlen]
  simp
set_option maxRecDepth 100000 in
set_option maxHeartbeats 4000000 in
theorem note_link (ab fb rg s : Nat) (L : PL) (q : PS) (f : FL) (l : Att) (hs : s < 6) (ht : f.t = (s : Nat)) (hn : 0 ≤ f.n ∧ f.n < 1000000) (hac : 0 ≤ f.ac ∧ f.ac < 1000000) (w : World) (hF : Blk w fb (encF f) 156)
    (hA : w.cell? ⟨ab, 0, none⟩ = some (.pointer (some ⟨rg, 0, none⟩))) (hG : w.cell? ⟨rg, 1 + s, none⟩ = some (.pointer (some ⟨L.pb, 0, none⟩))) (hP : Blk w L.pb (pcells L q) 113) (hV : Sl w L.av 59 7 q.atts.length (q.atts.flatMap attRow)) (hl : q.atts.getLast? = some l) (hpl : planOK l.p)
    (n1 : ab ≠ fb) (n2 : rg ≠ fb) (n3 : L.pb ≠ fb) (n4 : ∀ k, L.av.ownBlock = some k → k ≠ fb) (hsz : q.atts.length < 1000000000) :
    Calls Tryd.prog 57 #[.pointer (some ⟨ab, 0, none⟩), .pointer (some ⟨fb, 0, none⟩)] w fun e w' => e = .returned (.tuple #[]) ∧ Below w.heap.size (put w fb (encF (noted f (some l))) 156) w' := by
  obtain ⟨b, off, cap, hv, hcap, hpos, hcell⟩ := last_att hV hl
  have hnb : b ≠ fb := n4 b (by rw [hv]; rfl)
  have hbl : b < w.heap.size := hV.lt b (by rw [hv]; rfl)
  obtain ⟨N, hN⟩ : ∃ N, q.atts.length = N + 1 := ⟨q.atts.length - 1, by omega⟩
  rw [hN] at hv hcell hsz hcap
  have k0 := hcell 0 (by decide)
  have k1 := hcell 1 (by decide)
  have k2 := hcell 2 (by decide)
  have k3 := hcell 3 (by decide)
  have k4 := hcell 4 (by decide)
  have k5 := hcell 5 (by decide)
  have k6 := hcell 6 (by decide)
  simp only [attRow, Nat.add_sub_cancel, List.getElem?_cons_zero, List.getElem?_cons_succ, Nat.add_zero] at k0 k1 k2 k3 k4 k5 k6
  have hat := attempts_any L q
  have HP := hid_of hP
  have HPL := hid_of hpl
  obtain ⟨hn0, hn1⟩ := hn
  obtain ⟨ha0, ha1⟩ := hac
  have hadd : IntKind.i64.wrap (f.n + 1) = f.n + 1 := by simp [IntKind.wrap, IntKind.bits, IntKind.signed]; omega
  have hadd2 : IntKind.i64.wrap (f.ac + 1) = f.ac + 1 := by simp [IntKind.wrap, IntKind.bits, IntKind.signed]; omega
  have hsub : IntKind.i64.wrap (((N + 1 : Nat) : Int) - 1) = (N : Nat) := by simp [IntKind.wrap, IntKind.bits, IntKind.signed]; omega
  have ht6 : (((s : Nat) : Int) == 6) = false := by simp; omega
  obtain ⟨w0, rfl, hl0⟩ := hF.out
  rw [put_cell_ne _ _ _ _ _ _ _ n1] at hA
  rw [put_cell_ne _ _ _ _ _ _ _ n2] at hG
  rw [put_cell_ne _ _ _ _ _ _ _ hnb] at k0 k1 k2 k3 k4 k5 k6
  rw [put_size] at hbl
  have HP0 : Hid (Blk w0 L.pb (pcells L q) 113) := (put_heap_ne w0 fb L.pb _ _ n3).symm.trans hP
  unfold encF
  rw [ht, put_put]
  clear hF hP hV hcell hl hpl hN
  go_enter Tryd.func57, Tryd.ntmps57
  go_wp2_with fail
  go_quiet ((go_at_call 16; exact Calls.quiet_of_same (hat _ (HP0.out.put_ne n3))))
  rw [hv]
  go_wp2_with fail
  refine (endOf_any l.p HPL.out _).mono ?_
  rintro e w2 ⟨rfl, hb2⟩
  obtain ⟨F1, hF1⟩ : ∃ F1, #[Value.int IntKind.i64 f.m, Value.bool f.w, Value.int IntKind.i64 (s : Nat), Value.int IntKind.i64 (f.n + 1), Value.int IntKind.i64 f.ac, Value.int IntKind.u8 f.la, Value.bool f.rep] = F1 := ⟨_, rfl⟩
  obtain ⟨A1, hA1⟩ : ∃ A1, #[Value.int IntKind.u8 l.r.id, Value.bool l.r.w, Value.int IntKind.u32 l.r.ad, Value.int IntKind.u32 l.r.da, Value.int IntKind.u8 l.p.o, Value.int IntKind.u32 l.p.l, Value.bool l.acted] = A1 := ⟨_, rfl⟩
  rw [hF1, hA1] at hb2
  have hs2 : ((put w0 fb F1 156).alloc (.cells A1 59)).heap.size = w0.heap.size + 1 := by simp [put_size]
  have hB0 : Blk w2 w0.heap.size A1 59 := (hb2.block _ (by show w0.heap.size < ((put w0 fb F1 156).alloc (.cells A1 59)).heap.size; omega)).trans (by have := Blk.new (put w0 fb F1 156) A1 59; rw [put_size] at this; exact this)
  have hB1 : Blk w2 fb F1 156 := (hb2.block _ (by show fb < ((put w0 fb F1 156).alloc (.cells A1 59)).heap.size; omega)).trans ((Blk.put_same hl0).alloc _)
  have hnf : w0.heap.size ≠ fb := by omega
  have H2 : Hid (∀ k, k < w0.heap.size → k ≠ fb → w2.heap[k]? = w0.heap[k]?) := fun k hk hne => by
    refine (hb2.block k (by show k < ((put w0 fb F1 156).alloc (.cells A1 59)).heap.size; omega)).trans ?_
    show ((put w0 fb F1 156).alloc (.cells A1 59)).heap[k]? = _
    rw [Below.heap_alloc _ _ _ (by rw [put_size]; exact hk)]
    exact put_heap_ne w0 fb k _ _ hne
  have H3 : Hid (w2.os = w0.os ∧ w2.tape = w0.tape ∧ w2.output = w0.output ∧ w0.heap.size ≤ w2.heap.size) := ⟨hb2.os, hb2.tape, hb2.output, by have := hb2.size; show _ ≤ w2.heap.size; have h9 : ((put w0 fb F1 156).alloc (.cells A1 59)).heap.size ≤ w2.heap.size := this; omega⟩
  obtain ⟨w3, rfl, hl3⟩ := hB1.out
  have hB2 : Blk w3 w0.heap.size A1 59 := (put_heap_ne w3 fb _ _ _ hnf).symm.trans hB0
  have hz5 := hB2.cell 6
  rw [← hA1] at hz5
  simp at hz5
  have hfin : Hid (∀ C, Below w0.heap.size (put w0 fb C 156) (put w3 fb C 156)) := fun C => by
    obtain ⟨o1, o2, o3, o4⟩ := H3.out
    refine ⟨o1, o2, o3, by rw [put_size] at o4 ⊢; rw [put_size]; exact o4, fun k hk => ?_⟩
    by_cases e : k = fb
    · subst e; rw [put_heap_same w3 k _ _ hl3, put_heap_same w0 k _ _ hl0]
    · rw [put_heap_ne w3 fb k _ _ e, put_heap_ne w0 fb k _ _ e]
      have := H2.out k hk e
      rw [put_heap_ne w3 fb k _ _ e] at this
      exact this
  subst hF1
  clear hb2 hs2 hB0 hB1 hB2 hA1 hA hG k0 k1 k2 k3 k4 k5 k6
  have e7 : (noted f (some l)) = { f with n := f.n + 1, la := endP l.p, ac := if l.acted then f.ac + 1 else f.ac } := rfl
  have HE7 := hid_of e7
  clear e7
  cases hla : l.acted
  · rw [hla] at hz5
    go_wp2_with fail
    go_end0
    refine ⟨rfl, ?_⟩
    rw [put_size, HE7.out, hla]
    simp only [Bool.false_eq_true, if_false, ht]
    exact hfin.out _
  · rw [hla] at hz5
    go_wp2_with fail
    go_end0
    refine ⟨rfl, ?_⟩
    rw [put_size, HE7.out, hla]
    simp only [if_true, ht]
    exact hfin.out _
end Go.Proofs.Qxb6500750aDoor
