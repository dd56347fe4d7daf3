import Derived.Test.Qxb6500749aIsa
import Derived.Test.Qxb6500749aAwt
namespace Go.Proofs.Qxb6500749a
open Go.RowKit
attribute [local go_sem] put_size put_cell_same put_cell_ne put_frozen_same put_frozen_ne put_setCell_same put_setCell_ne put_drew
attribute [local go_sem] drewN_setCell drewN_alloc drewN_put
/-! ### A cycle of the bus -/
theorem results_row_tmp {P : Program} {fn : Func} {p t : Tmp} {ty : TypeId} (h : fn.results = #[.cell p ty, .tmp t]) (tmps : Array Value) (w : World) (g : Nat) (T : TypeId) (cs : Array Value) (fr : Nat × Nat) (d : TypeDesc)
    (hp : tmps.getD p undef = .pointer (some ⟨g, 0, none⟩)) (hg : w.heap[g]? = some (.cells cs T fr))
    (hu : P.underlying ty = some d) (hd : (match d with | .struct _ | .array _ _ => true | _ => false) = true) (hi : (P.info? ty).map (·.size) = some cs.size) :
    (results fn tmps).run P w = .ok (.tuple #[.agg cs, tmps.getD t undef]) w := by
  have hp' : tmps[p]?.getD undef = .pointer (some ⟨g, 0, none⟩) := by simpa using hp
  simp [results, h, hp', asAddr, run_loadVar_row w g T ty cs fr d hg hu hd hi]
theorem size66 : (Try.prog.info? 66).map (·.size) = some 2 := by kernel_rfl
def tickF (U : BusD) : BusD × INP :=
  if U.busy = true then
    if U.left - 1 > 0 then ({ U with left := U.left - 1 }, ⟨false, false, 0⟩)
    else ({ U with left := U.left - 1, busy := false }, ⟨true, (U.log.getLast?.map TR.e).getD false, (U.log.getLast?.map TR.r).getD 0⟩)
  else (U, ⟨false, false, 0⟩)
set_option maxRecDepth 100000 in
theorem tick_idle (ub mb : Nat) (lv gv : Value) (U : BusD) (hb : U.busy = false) (w : World) (h : UB w ub mb lv gv U) :
    Calls Try.prog 61 #[.pointer (some ⟨ub, 0, none⟩)] w fun e w' => e = .returned (.tuple #[.agg #[.bool false, .int .u32 0], .bool false]) ∧ UB w' ub mb lv gv U ∧ Fr (· = ub) w w' := by
  have HB : Hid (Below w.heap.size w (w.alloc (.cells #[.bool false, .int .u32 0] 66))) := (Below.refl _ _).alloc (Nat.le_refl _) _
  have hbn := Blk.new w #[.bool false, .int .u32 0] 66
  obtain ⟨W, hW⟩ : ∃ W, w.alloc (.cells #[.bool false, .int .u32 0] 66) = W := ⟨_, rfl⟩
  rw [hW] at HB hbn
  have HU : Hid (UB W ub mb lv gv U) := h.below HB.out
  have HLT : Hid (ub < w.heap.size) := h.blk.lt
  have hne : ub ≠ w.heap.size := Nat.ne_of_lt h.blk.lt
  have c3 : W.cell? ⟨ub, 3, none⟩ = some (.bool false) := by have := HU.out.blk.cell 3; rw [hb] at this; exact this
  clear h
  go_enter Try.func61, Try.ntmps61
  go_upto_region 2 with fail
  clear hW
  have HBN := hid_of hbn
  obtain ⟨u, hu, hl⟩ := hbn.out
  subst hu
  go_wp2_with fail
  refine ⟨rfl, _, results_row_tmp (fn := Try.f61) (p := 2) (t := 3) rfl _ _ w.heap.size 66 _ (0, 0) _ (by rfl) (HBN.out) Try.underlying66 rfl (by rw [size66]; rfl), ?_⟩
  exact ⟨rfl, HU.out, Fr.of_below HB.out⟩
set_option maxRecDepth 100000 in
theorem tick_wait (ub mb : Nat) (lv gv : Value) (m : Int → Int) (lat : List Int) (log : List TR) (lf : Int) (hl0 : lf - 1 > 0) (hl6 : lf ≤ 64) (w : World) (h : UB w ub mb lv gv ⟨m, lat, log, true, lf⟩) :
    Calls Try.prog 61 #[.pointer (some ⟨ub, 0, none⟩)] w fun e w' => e = .returned (.tuple #[.agg #[.bool false, .int .u32 0], .bool false]) ∧ UB w' ub mb lv gv ⟨m, lat, log, true, lf - 1⟩ ∧ Fr (· = ub) w w' := by
  have HB : Hid (Below w.heap.size w (w.alloc (.cells #[.bool false, .int .u32 0] 66))) := (Below.refl _ _).alloc (Nat.le_refl _) _
  have hbn := Blk.new w #[.bool false, .int .u32 0] 66
  obtain ⟨W, hW⟩ : ∃ W, w.alloc (.cells #[.bool false, .int .u32 0] 66) = W := ⟨_, rfl⟩
  rw [hW] at HB hbn
  have HU : Hid (UB W ub mb lv gv ⟨m, lat, log, true, lf⟩) := h.below HB.out
  have HLT : Hid (ub < w.heap.size) := h.blk.lt
  have hne : ub ≠ w.heap.size := Nat.ne_of_lt h.blk.lt
  obtain ⟨u, hu, hl⟩ := HU.out.blk.out
  have HF : Hid (UB (put u ub (ubV mb lv gv true (lf - 1)) 79) ub mb lv gv ⟨m, lat, log, true, lf - 1⟩ ∧ Fr (· = ub) w (put u ub (ubV mb lv gv true (lf - 1)) 79)) := by
    have h1 := HU.out.row (U' := ⟨m, lat, log, true, lf - 1⟩) rfl HU.out.lat HU.out.log
    have h2 := (Fr.of_below (K := (· = ub)) HB.out).put (b := ub) (fun _ => rfl) (ubV mb lv gv true (lf - 1)) 79
    rw [hu, put_put] at h1 h2
    exact ⟨h1, h2⟩
  have HBN : Hid (Blk (put u ub (ubV mb lv gv true (lf - 1)) 79) w.heap.size #[.bool false, .int .u32 0] 66) := by
    have := hbn.put_ne (b := ub) (cs := ubV mb lv gv true (lf - 1)) (T := 79) (Ne.symm hne)
    rw [hu, put_put] at this
    exact this
  have hsub : (lf - 1) % 4294967296 = lf - 1 := by omega
  have hgt : (0 : Int) < lf - 1 := by omega
  clear h hbn HU hl6 HB hl0
  have hu' : W = put u ub #[.map (some mb), lv, gv, .bool true, .int .u32 lf] 79 := hu
  clear hu
  subst hu'
  unfold ubV at HF HBN
  go_enter Try.func61, Try.ntmps61
  go_upto_region 5 with fail
  clear hW
  obtain ⟨w3, hw3⟩ : ∃ w3, put u ub #[.map (some mb), lv, gv, .bool true, .int .u32 (lf - 1)] 79 = w3 := ⟨_, rfl⟩
  rw [hw3] at HF HBN ⊢
  clear hw3
  obtain ⟨u2, hu2, hl2⟩ := HBN.out.out
  have HFIN : Hid (UB (put u2 w.heap.size #[.bool false, .int .u32 0] 66) ub mb lv gv ⟨m, lat, log, true, lf - 1⟩ ∧ Fr (· = ub) w (put u2 w.heap.size #[.bool false, .int .u32 0] 66)) := by
    rw [← hu2]; exact HF.out
  clear HF HBN
  subst hu2
  go_wp2_with fail
  refine ⟨rfl, _, results_row_tmp (fn := Try.f61) (p := 2) (t := 3) rfl _ _ w.heap.size 66 _ (0, 0) _ (by rfl) (Blk.put_same hl2) Try.underlying66 rfl (by rw [size66]; rfl), ?_⟩
  exact ⟨rfl, HFIN.out.1, HFIN.out.2⟩
theorem trow_len (l : List TR) : (l.flatMap trow).length = l.length * 5 := by
  induction l with
  | nil => rfl
  | cons y ys ih => rw [List.flatMap_cons, List.length_append, ih, show (trow y).length = 5 from rfl, List.length_cons]; omega
theorem Sl.trCell {w : World} {b off cap n : Nat} {log : List TR} {t : TR} (h : Sl w (.slice (some ⟨b, off, none⟩) (n + 1) cap) 68 5 (n + 1) ((log ++ [t]).flatMap trow)) (hn : log.length = n) (i : Nat) (hi : i < 5) :
    w.cell? ⟨b, off + n * 5 + i, none⟩ = (trow t)[i]? := by
  have hl : (log.flatMap trow).length = n * 5 := by rw [trow_len, hn]
  have h2 := h.cell rfl (n * 5 + i) (by rw [h.1]; omega)
  rw [← Nat.add_assoc] at h2
  rw [h2, List.flatMap_append, List.getElem?_append_right (by omega), hl]
  simp only [List.flatMap_cons, List.flatMap_nil, List.append_nil]
  congr 1
  omega
set_option maxRecDepth 100000 in
set_option maxHeartbeats 4000000 in
theorem tick_end (ub mb : Nat) (lv gv : Value) (m : Int → Int) (lat : List Int) (log : List TR) (t : TR) (hlg : log.length < 1000000000000) (w : World) (h : UB w ub mb lv gv ⟨m, lat, log ++ [t], true, 1⟩) :
    Calls Try.prog 61 #[.pointer (some ⟨ub, 0, none⟩)] w fun e w' => e = .returned (.tuple #[.agg #[.bool t.e, .int .u32 t.r], .bool true]) ∧ UB w' ub mb lv gv ⟨m, lat, log ++ [t], false, 0⟩ ∧ Fr (· = ub) w w' := by
  obtain ⟨gb, go, gc, hgv, hgc, hgb⟩ := h.log.form (by simp)
  obtain ⟨n, hn⟩ : ∃ n, log.length = n := ⟨_, rfl⟩
  simp only [List.length_append, List.length_singleton, hn] at hgv
  subst hgv
  have HB : Hid (Below w.heap.size w (w.alloc (.cells #[.bool false, .int .u32 0] 66))) := (Below.refl _ _).alloc (Nat.le_refl _) _
  have hbn := Blk.new w #[.bool false, .int .u32 0] 66
  obtain ⟨W, hW⟩ : ∃ W, w.alloc (.cells #[.bool false, .int .u32 0] 66) = W := ⟨_, rfl⟩
  rw [hW] at HB hbn
  have HU : Hid (UB W ub mb lv (.slice (some ⟨gb, go, none⟩) (n + 1) gc) ⟨m, lat, log ++ [t], true, 1⟩) := h.below HB.out
  have hne : ub ≠ w.heap.size := Nat.ne_of_lt h.blk.lt
  have hgu : gb ≠ ub := HU.out.gu gb rfl
  have hgw : gb ≠ w.heap.size := fun e => hbn.sl_ne (by decide) HU.out.log gb rfl e
  have hsl : Sl W (.slice (some ⟨gb, go, none⟩) (n + 1) gc) 68 5 (n + 1) ((log ++ [t]).flatMap trow) := by
    have h9 : Sl W (.slice (some ⟨gb, go, none⟩) (n + 1) gc) 68 5 (log ++ [t]).length ((log ++ [t]).flatMap trow) := HU.out.log
    rw [List.length_append, List.length_singleton, hn] at h9
    exact h9
  have k3 : W.cell? ⟨gb, go + n * 5 + 3, none⟩ = some (.bool t.e) := hsl.trCell hn 3 (by decide)
  have k4 : W.cell? ⟨gb, go + n * 5 + 4, none⟩ = some (.int .u32 t.r) := hsl.trCell hn 4 (by decide)
  obtain ⟨u, hu, hl⟩ := HU.out.blk.out
  have HF : Hid (UB (put u ub (ubV mb lv (.slice (some ⟨gb, go, none⟩) (n + 1) gc) false 0) 79) ub mb lv (.slice (some ⟨gb, go, none⟩) (n + 1) gc) ⟨m, lat, log ++ [t], false, 0⟩ ∧ Fr (· = ub) w (put u ub (ubV mb lv (.slice (some ⟨gb, go, none⟩) (n + 1) gc) false 0) 79)) := by
    have h1 := HU.out.row (U' := ⟨m, lat, log ++ [t], false, 0⟩) rfl HU.out.lat HU.out.log
    have h2 := (Fr.of_below (K := (· = ub)) HB.out).put (b := ub) (fun _ => rfl) (ubV mb lv (.slice (some ⟨gb, go, none⟩) (n + 1) gc) false 0) 79
    rw [hu, put_put] at h1 h2
    exact ⟨h1, h2⟩
  have HBN : Hid (Blk (put u ub (ubV mb lv (.slice (some ⟨gb, go, none⟩) (n + 1) gc) false 0) 79) w.heap.size #[.bool false, .int .u32 0] 66) := by
    have := hbn.put_ne (b := ub) (cs := ubV mb lv (.slice (some ⟨gb, go, none⟩) (n + 1) gc) false 0) (T := 79) (Ne.symm hne)
    rw [hu, put_put] at this
    exact this
  rw [hu, put_cell_ne _ _ _ _ _ _ _ hgu] at k3 k4
  have hn12 : n < 1000000000000 := by omega
  have HGC : Hid (n + 1 ≤ gc) := by
    have : (log ++ [t]).length ≤ gc := hgc
    rw [List.length_append, List.length_singleton, hn] at this
    exact this
  have hlast : IntKind.i64.wrap (((n : Nat) : Int) + 1 - 1) = (n : Nat) := by simp [IntKind.wrap, IntKind.bits, IntKind.signed]; omega
  have hrest : Hid (w.heap.size ≠ ub ∧ w.heap.size < W.heap.size) := ⟨Ne.symm hne, hbn.lt⟩
  have HWS : Hid (Blk W w.heap.size #[.bool false, .int .u32 0] 66) := hbn
  clear h hbn HU hgb hsl hn hlg hgc HB
  have hu' : W = put u ub #[.map (some mb), lv, .slice (some ⟨gb, go, none⟩) (n + 1) gc, .bool true, .int .u32 1] 79 := hu
  clear hu
  unfold ubV at HF HBN
  subst hu'
  go_enter Try.func61, Try.ntmps61
  go_upto_region 7 with fail
  clear hW
  have d3 : (put u ub #[.map (some mb), lv, .slice (some ⟨gb, go, none⟩) (n + 1) gc, .bool false, .int .u32 0] 79).cell? ⟨ub, 2, none⟩ = some (.slice (some ⟨gb, go, none⟩) (n + 1) gc) := by rw [put_cell_same _ _ _ _ _ hl]; rfl
  have d4 : (put u ub #[.map (some mb), lv, .slice (some ⟨gb, go, none⟩) (n + 1) gc, .bool false, .int .u32 0] 79).cell? ⟨gb, go + n * 5 + 3, none⟩ = some (.bool t.e) := by rw [put_cell_ne _ _ _ _ _ _ _ hgu]; exact k3
  have d5 : (put u ub #[.map (some mb), lv, .slice (some ⟨gb, go, none⟩) (n + 1) gc, .bool false, .int .u32 0] 79).cell? ⟨gb, go + n * 5 + 4, none⟩ = some (.int .u32 t.r) := by rw [put_cell_ne _ _ _ _ _ _ _ hgu]; exact k4
  obtain ⟨w3, hw3⟩ : ∃ w3, put u ub #[.map (some mb), lv, .slice (some ⟨gb, go, none⟩) (n + 1) gc, .bool false, .int .u32 0] 79 = w3 := ⟨_, rfl⟩
  rw [hw3] at HF HBN d3 d4 d5 ⊢
  clear hw3 k3 k4 HWS hrest
  refine wp_region_qtail 13 mixed (by kernel_rfl) ?_
  simp only [List.take_succ_cons, List.take_zero, List.drop_succ_cons, List.drop_zero]
  repeat (go_big_quiet_step (fail))
  refine wpQuiet_nil ?_
  obtain ⟨u2, hu2, hl2⟩ := HBN.out.out
  have HFIN : Hid (UB (put u2 w.heap.size #[.bool t.e, .int .u32 t.r] 66).drew ub mb lv (.slice (some ⟨gb, go, none⟩) (n + 1) gc) ⟨m, lat, log ++ [t], false, 0⟩ ∧ Fr (· = ub) w (put u2 w.heap.size #[.bool t.e, .int .u32 t.r] 66).drew) := by
    have f1 : Fr (· = w.heap.size) w3 (put w3 w.heap.size #[.bool t.e, .int .u32 t.r] 66) := (Fr.refl (· = w.heap.size) w3).put (fun _ => rfl) _ _
    have h1 := HF.out.1.fr f1 hne (fun e => HF.out.1.map.neB HBN.out e) (fun b hb => HBN.out.sl_ne (by decide) HF.out.1.lat b hb) (fun b hb => HBN.out.sl_ne (by decide) HF.out.1.log b hb)
    have h2 := HF.out.2.put (b := w.heap.size) (fun q => absurd q (Nat.lt_irrefl _)) #[.bool t.e, .int .u32 t.r] 66
    rw [hu2, put_put] at h1 h2
    exact ⟨h1.below ⟨rfl, rfl, rfl, Nat.le_refl _, fun _ _ => rfl⟩, h2.drew⟩
  clear HF HBN d3 d4 d5
  subst hu2
  go_wp2_with fail
  refine ⟨rfl, _, results_row_tmp (fn := Try.f61) (p := 2) (t := 3) rfl _ _ w.heap.size 66 _ (0, 0) _ (by rfl) (Blk.put_same hl2) Try.underlying66 rfl (by rw [size66]; rfl), ?_⟩
  exact ⟨rfl, HFIN.out.1, HFIN.out.2⟩
theorem tick_any (ub mb : Nat) (lv gv : Value) (U : BusD) (hok : U.Ok) (w : World) (h : UB w ub mb lv gv U) :
    Calls Try.prog 61 #[.pointer (some ⟨ub, 0, none⟩)] w fun e w' => e = .returned (.tuple #[.agg #[.bool (tickF U).2.e, .int .u32 (tickF U).2.d], .bool (tickF U).2.v]) ∧ UB w' ub mb lv gv (tickF U).1 ∧ Fr (· = ub) w w' := by
  cases hb : U.busy
  · have e : tickF U = (U, ⟨false, false, 0⟩) := by unfold tickF; rw [if_neg (by rw [hb]; decide)]
    rw [e]
    exact tick_idle ub mb lv gv U hb w h
  · by_cases hl : U.left - 1 > 0
    · have e : tickF U = ({ U with left := U.left - 1 }, ⟨false, false, 0⟩) := by unfold tickF; rw [if_pos hb, if_pos hl]
      rw [e]
      have h6 := hok.left.2
      obtain ⟨m, lat, log, busy, left⟩ := U
      simp only at hb hl h6
      subst hb
      exact tick_wait ub mb lv gv m lat log left hl h6 w h
    · obtain ⟨m, lat, log, busy, left⟩ := U
      have h1 := hok.busy hb
      simp only at hb hl h1
      subst hb
      have h2 : left = 1 := by omega
      subst h2
      obtain ⟨l, t, hlt⟩ : ∃ l t, log = l ++ [t] := ⟨log.dropLast, log.getLast h1.2, (List.dropLast_concat_getLast h1.2).symm⟩
      subst hlt
      have hg := hok.glen
      simp only [List.length_append, List.length_singleton] at hg
      have e : tickF ⟨m, lat, l ++ [t], true, 1⟩ = (⟨m, lat, l ++ [t], false, 0⟩, ⟨true, t.e, t.r⟩) := by
        unfold tickF
        simp
      rw [e]
      exact tick_end ub mb lv gv m lat l t (by omega) w h
end Go.Proofs.Qxb6500749a
