import Derived.Test.Qxb6500749aTic
namespace Go.Proofs.Qxb6500749a
open Go.RowKit
attribute [local go_sem] put_size put_cell_same put_cell_ne put_frozen_same put_frozen_ne put_setCell_same put_setCell_ne put_drew
attribute [local go_sem] drewN_setCell drewN_alloc drewN_put
/-! ### Poke, Queue, New, Log, Word -/
def pokF (U : BusD) (a d : Int) : BusD := if mapF a = true then { U with m := fun x => if x = a then d else U.m x } else U
set_option maxRecDepth 100000 in
theorem poke_any (ub mb : Nat) (lv gv : Value) (U : BusD) (a d : Int) (ha : W32 a) (w : World) (h : UB w ub mb lv gv U) :
    Calls Try.prog 54 #[.pointer (some ⟨ub, 0, none⟩), .int .u32 a, .int .u32 d] w fun e w' => e = .returned (.bool (mapF a)) ∧ UB w' ub mb lv gv (pokF U a d) ∧ Fr (· = mb) w w' := by
  have HM := hid_of (mapped_any a ha w)
  have c0 : w.cell? ⟨ub, 0, none⟩ = some (.map (some mb)) := h.blk.cell 0
  cases hm : mapF a
  · rw [hm] at HM
    have HE : Hid (pokF U a d = U) := by unfold Hid pokF; rw [if_neg (by rw [hm]; decide)]
    have H := hid_of h
    clear h hm
    go_enter Try.func54, Try.ntmps54
    go_wp2_with fail
    refine HM.out.mono ?_
    rintro e w1 ⟨rfl, hw1⟩
    obtain rfl := hw1.symm
    go_wp2_with fail
    go_ret
    exact ⟨rfl, by rw [HE.out]; exact H.out, Fr.refl _ _⟩
  · rw [hm] at HM
    obtain ⟨es, ck, hup, hmb9⟩ := run_update_words (P := Try.prog) (t := 27) h.map Try.underlying27 Try.underlying30 a d
    have HE : Hid (UB (putO w mb (.map es ck)) ub mb lv gv (pokF U a d) ∧ Fr (· = mb) w (putO w mb (.map es ck))) := by
      unfold pokF; rw [if_pos hm]
      exact ⟨⟨(putO_ne _ _ _ _ (Ne.symm h.mu)).trans h.blk, hmb9, h.lat.same fun k hk => putO_ne _ _ _ _ (h.lm k hk), h.log.same fun k hk => putO_ne _ _ _ _ (h.gm k hk)⟩, (Fr.refl (· = mb) w).putO (fun _ => rfl) _⟩
    clear h hm hmb9
    go_enter Try.func54, Try.ntmps54
    go_wp2_with fail
    refine HM.out.mono ?_
    rintro e w1 ⟨rfl, hw1⟩
    obtain rfl := hw1.symm
    go_wp2_with fail
    go_ret
    exact ⟨rfl, HE.out.1, HE.out.2⟩
theorem info30 : (Try.prog.info? 30).map (fun i => (i.zero, i.size, i.bytes)) = some (some (.int .u32 0), 1, 4) := by kernel_rfl
def queB (U : BusD) (l : Int) : Bool := !(decide (l > 63)) && !(decide (U.lat.length ≥ 16))
def queF (U : BusD) (l : Int) : BusD := if queB U l = true then { U with lat := U.lat ++ [l] } else U
/-- What Queue may turn. -/
def KQ (ub : Nat) (lv : Value) : Nat → Prop := fun k => k = ub ∨ lv.ownBlock = some k
set_option maxRecDepth 100000 in
set_option maxHeartbeats 4000000 in
theorem queue_any (ub mb : Nat) (lv gv : Value) (U : BusD) (hlen : U.lat.length ≤ 16) (l : Int) (w : World) (h : UB w ub mb lv gv U) :
    Calls Try.prog 57 #[.pointer (some ⟨ub, 0, none⟩), .int .u32 l] w fun e w' => e = .returned (.bool (queB U l)) ∧ ∃ lv', UB w' ub mb lv' gv (queF U l) ∧ Fr (KQ ub lv) w w' ∧ (∀ k, lv'.ownBlock = some k → lv.ownBlock = some k ∨ w.heap.size ≤ k) := by
  obtain ⟨la, lc, hlv⟩ := h.lat.form'
  obtain ⟨n, hn⟩ : ∃ n, U.lat.length = n := ⟨_, rfl⟩
  rw [hn] at hlv hlen
  have c1 : w.cell? ⟨ub, 1, none⟩ = some lv := h.blk.cell 1
  subst hlv
  by_cases h1 : l > 63
  · have HE : Hid (queB U l = false) := by unfold Hid queB; rw [decide_eq_true h1]; rfl
    have HF : Hid (queF U l = U) := by unfold Hid queF; rw [if_neg (by rw [HE.out]; decide)]
    rw [HE.out]
    have H := hid_of h
    clear h
    go_enter Try.func57, Try.ntmps57
    go_wp2_with fail
    go_ret
    exact ⟨rfl, _, by rw [HF.out]; exact H.out, Fr.refl _ _, fun k hk => .inl hk⟩
  · by_cases h2 : n ≥ 16
    · have HE : Hid (queB U l = false) := by unfold Hid queB; rw [hn, decide_eq_true h2]; simp
      have HF : Hid (queF U l = U) := by unfold Hid queF; rw [if_neg (by rw [HE.out]; decide)]
      rw [HE.out]
      have h2i : ((n : Nat) : Int) ≥ 16 := by omega
      have H := hid_of h
      clear h h2
      go_enter Try.func57, Try.ntmps57
      go_wp2_with fail
      go_ret
      exact ⟨rfl, _, by rw [HF.out]; exact H.out, Fr.refl _ _, fun k hk => .inl hk⟩
    · have HE : Hid (queB U l = true) := by unfold Hid queB; rw [hn, decide_eq_false h2, decide_eq_false h1]; rfl
      have HF : Hid (queF U l = { U with lat := U.lat ++ [l] }) := by unfold Hid queF; rw [if_pos HE.out]
      rw [HE.out]
      have h2i : ¬ ((n : Nat) : Int) ≥ 16 := by omega
      obtain ⟨i0, hinf, hz0, hz1, hz2⟩ := info_parts info30
      have HA : Hid (UB (w.alloc (.cells [.int .u32 l].toArray 30)) ub mb (.slice la n lc) gv U) := h.below ((Below.refl _ _).alloc (Nat.le_refl _) _)
      have HSW : Hid (Sl (w.alloc (.cells [.int .u32 l].toArray 30)) (.slice la n lc) 30 1 n (prow U.lat)) := by
        have h9 := HA.out.lat
        rw [hn] at h9
        exact h9
      have HN := hid_of hn
      have HLT : Hid (ub < w.heap.size) := h.blk.lt
      clear h hn
      go_enter Try.func57, Try.ntmps57
      go_wp2_with (at_builtin; (refine wpList_append_sl _ rfl (.tmp 19) (.tmp 21) 26 rfl 30 i0 (.int .u32 0) 1 4 Try.underlying26 hinf hz0 hz1 hz2 rfl (by decide) _ _ _ rfl HSW.out ⟨w.heap.size, 0, none⟩ 1 1 [.int .u32 l] rfl rfl ?d1 ?d2 ?d3 ?d4 ?_))
      try (case d1 => exact cells_new _ _ _ _ rfl)
      try (case d2 => first | rfl | (intro v hv; simp at hv; subst hv; rfl))
      try (case d3 => unfold maxLen; omega)
      try (case d4 => omega)
      intro v' w3 hsl hgr hnew
      obtain ⟨ba, bo, bc, rfl, hbc, hbl⟩ := hsl.form (by omega)
      have f1 : Fr (fun k => (Value.slice la n lc).ownBlock = some k) (w.alloc (.cells [.int .u32 l].toArray 30)) w3 := ⟨hgr.os, hgr.tape, hgr.output, hgr.size, fun k hk hn => hgr.block k hk (Ne.symm hn)⟩
      have hub3 : Blk w3 ub (ubV mb (.slice la n lc) gv U.busy U.left) 79 := HA.out.blk.fr f1 (fun e => HA.out.lu ub e rfl)
      have hu3 : UB (put w3 ub (ubV mb (.slice (some ⟨ba, bo, none⟩) (n + 1) bc) gv U.busy U.left) 79) ub mb (.slice (some ⟨ba, bo, none⟩) (n + 1) bc) gv { U with lat := U.lat ++ [l] } :=
        ⟨Blk.put_same hub3.lt, (HA.out.map.fr f1 (fun e => HA.out.lm mb e rfl)).same (put_heap_ne _ _ _ _ _ HA.out.mu), by
          show Sl _ _ 30 1 (U.lat ++ [l]).length (prow (U.lat ++ [l]))
          have e2 : prow (U.lat ++ [l]) = prow U.lat ++ [.int .u32 l] := by simp [prow]
          rw [List.length_append, List.length_singleton, HN.out, e2]
          exact hsl.same fun k hk => put_heap_ne _ _ _ _ _ (hub3.sl_ne (by decide) hsl k hk),
          (HA.out.log.fr f1 (fun b hb q => HA.out.lg b q hb)).same fun k hk => put_heap_ne _ _ _ _ _ (HA.out.gu k hk)⟩
      have f2 : Fr (KQ ub (.slice la n lc)) w (put w3 ub (ubV mb (.slice (some ⟨ba, bo, none⟩) (n + 1) bc) gv U.busy U.left) 79) :=
        (((Fr.refl (KQ ub (.slice la n lc)) w).alloc _).trans' f1 (fun b _ hb => .inr hb)).put (fun _ => .inl rfl) _ _
      have ho : ∀ k, (Value.slice (some ⟨ba, bo, none⟩) (n + 1) bc).ownBlock = some k → (Value.slice la n lc).ownBlock = some k ∨ w.heap.size ≤ k := fun k hk => or_le (hnew k hk) (Nat.le_succ _)
      obtain ⟨u3, hu, hl3⟩ := hub3.out
      rw [hu, put_put] at hu3 f2
      have HU := hid_of hu3
      have HF2 := hid_of f2
      have HO := hid_of ho
      clear hu3 f2 ho hnew hgr hsl f1 hub3 HSW HA hinf hz0 hz1 hz2
      subst hu
      unfold ubV at HU HF2 ⊢
      go_wp2_with fail
      go_ret
      exact ⟨rfl, _, by rw [HF.out]; exact HU.out, HF2.out, HO.out⟩
theorem wpList_makeMapF {P : Program} {ops : Array Oper} {rest : List Oper} {o : Oper} {a : Act} {w : World} {Q : Exit → Act → World → Prop} (hgd : o.guard = none) (ty : TypeId) (ho : o.op = .makeMap ty none)
    (h : ∀ V n, V = w.alloc (.map #[] 0) → n = w.heap.size → wpList P ops Q rest (a.put o.dst (.map (some n))) V) : wpList P ops Q (o :: rest) a w :=
  wpList_plain hgd fun _ hK => by
    unfold Oper.wp execOp
    simp only [ho]
    go_simp
    exact hK _ _ (h _ _ rfl rfl)
def bus0 : BusD := ⟨fun _ => 0, [], [], false, 0⟩
set_option maxRecDepth 100000 in
theorem bnew_any (w : World) : Calls Try.prog 35 #[] w fun e w' => e = .returned (.pointer (some ⟨w.heap.size + 1, 0, none⟩)) ∧ w' = (w.alloc (.map #[] 0)).alloc (.cells (ubV w.heap.size (.slice none 0 0) (.slice none 0 0) false 0) 79) := by
  go_enter Try.func35, Try.ntmps35
  go_wp2_with ((with_reducible show wpList _ _ _ ({ dst := _, op := Op.makeMap 27 none, type := _, pos := _, after := _, guard := _ } :: _) _ _); refine wpList_makeMapF (by rfl) 27 (by rfl) ?_; intro V n1 hV hn1; subst hV; subst hn1)
  go_ret
  exact ⟨rfl, rfl⟩
theorem size_alloc' (w : World) (o : Obj) : (w.alloc o).heap.size = w.heap.size + 1 := by simp
theorem ub_new (w : World) : UB ((w.alloc (.map #[] 0)).alloc (.cells (ubV w.heap.size (.slice none 0 0) (.slice none 0 0) false 0) 79)) (w.heap.size + 1) w.heap.size (.slice none 0 0) (.slice none 0 0) bus0 := by
  refine ⟨?_, ⟨#[], 0, ?_, by intro e he; simp at he, Uq.nil 0, fun a => rfl⟩, Sl.nil _ _ _, Sl.nil _ _ _⟩
  · have := Blk.new (w.alloc (.map #[] 0)) (ubV w.heap.size (.slice none 0 0) (.slice none 0 0) false 0) 79
    simp only [size_alloc'] at this
    exact this
  · rw [Below.heap_alloc _ _ _ (by simp)]
    exact heap_alloc_new w _
theorem bus0_ok : bus0.Ok := ⟨fun x hx => absurd hx (by simp [bus0]), by decide, by decide, fun h => absurd h (by decide), fun _ => ⟨Int.le_refl 0, show (0 : Int) < 4294967296 by decide⟩, by decide⟩
set_option maxRecDepth 100000 in
theorem log_any (ub mb : Nat) (lv gv : Value) (U : BusD) (w : World) (h : UB w ub mb lv gv U) :
    Calls Try.prog 13 #[.pointer (some ⟨ub, 0, none⟩)] w fun e w' => e = .returned gv ∧ w' = w := by
  have c2 : w.cell? ⟨ub, 2, none⟩ = some gv := h.blk.cell 2
  clear h
  go_enter Try.func13, Try.ntmps13
  go_wp2_with fail
  go_ret
  exact ⟨rfl, rfl⟩
set_option maxRecDepth 100000 in
theorem word_any (ub mb : Nat) (lv gv : Value) (U : BusD) (a : Int) (w : World) (h : UB w ub mb lv gv U) :
    Calls Try.prog 32 #[.pointer (some ⟨ub, 0, none⟩), .int .u32 a] w fun e w' => e = .returned (.int .u32 (U.m a)) ∧ w' = w := by
  have c0 : w.cell? ⟨ub, 0, none⟩ = some (.map (some mb)) := h.blk.cell 0
  have hlk := run_lookup_words (P := Try.prog) (t := 27) h.map Try.underlying27 Try.underlying30 zero30 a
  clear h
  go_enter Try.func32, Try.ntmps32
  go_wp2_with fail
  go_ret
  exact ⟨rfl, rfl⟩
end Go.Proofs.Qxb6500749a
