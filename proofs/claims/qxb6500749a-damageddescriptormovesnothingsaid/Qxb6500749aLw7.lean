import Derived.Test.Qxb6500749aCln
namespace Go.Proofs.Qxb6500749a
open Go.RowKit
attribute [local go_sem] put_size put_cell_same put_cell_ne put_frozen_same put_frozen_ne put_setCell_same put_setCell_ne put_drew
attribute [local go_sem] drewN_setCell drewN_alloc drewN_put
/-! ### Law 7: the voided script -/
theorem Sl.turn {w : World} {v : Value} {T : TypeId} {es n : Nat} {xs : List Value} (h : Sl w v T es n xs) {b off cap : Nat} (hv : v = .slice (some ⟨b, off, none⟩) n cap) {cs : Array Value} (hB : Blk w b cs T) (j : Nat) (u : Value) :
    Sl (put w b (cs.setIfInBounds (off + j) u) T) v T es n (xs.set j u) := by
  refine ⟨by rw [List.length_set]; exact h.1, ?_⟩
  rcases h.2 with ⟨rfl, _⟩ | ⟨b', off', cap', cs', rfl, hb, h1, h2, h3, h4⟩
  · cases hv
  · cases hv
    have e : cs' = cs := by unfold Blk at hb hB; rw [hb] at hB; cases hB; rfl
    subst e
    refine .inr ⟨b, off, cap, _, rfl, Blk.put_same hb.lt, h1, h2, by rw [Array.size_setIfInBounds]; exact h3, ?_⟩
    have hlen := h.1
    rw [Array.toList_setIfInBounds, List.drop_set, if_neg (by omega), List.take_set]
    rw [show off + j - off = j by omega, h4]
theorem Sl.blk {w : World} {v : Value} {T : TypeId} {es n : Nat} {xs : List Value} (h : Sl w v T es n xs) {b off cap : Nat} (hv : v = .slice (some ⟨b, off, none⟩) n cap) : ∃ cs, Blk w b cs T ∧ off + n * es ≤ cs.size := by
  rcases h.2 with ⟨rfl, _⟩ | ⟨b', off', cap', cs', rfl, hb, h1, h2, h3, h4⟩
  · cases hv
  · cases hv
    exact ⟨cs', hb, by have := Nat.mul_le_mul_right es h1; omega⟩
/-- A step with its fault voided. -/
def vopF (x : Int) (o : OpD) : OpD :=
  if o.k = 2 then (if x = 0 then { o with a := 55 + o.a % 1000 } else if x = 1 then { o with b := 32 + o.b % 1000 } else { o with d := 0 }) else o
theorem vopF_ok (x : Int) (o : OpD) (h : o.Ok) : (vopF x o).Ok ∧ Vop o (vopF x o) := by
  have ha := h.a; have hb := h.b
  unfold W32 at ha hb
  by_cases k : o.k = 2
  · by_cases x0 : x = 0
    · have e : vopF x o = { o with a := 55 + o.a % 1000 } := by unfold vopF; rw [if_pos k, if_pos x0]
      rw [e]
      exact ⟨⟨h.k, by unfold W32; simp only []; omega, h.b, h.c, h.d, h.e⟩, rfl, fun q => absurd k q, fun _ => void_site _ (by show 55 + o.a % 1000 ≥ 55; omega)⟩
    · by_cases x1 : x = 1
      · have e : vopF x o = { o with b := 32 + o.b % 1000 } := by unfold vopF; rw [if_pos k, if_neg x0, if_pos x1]
        rw [e]
        exact ⟨⟨h.k, h.a, by unfold W32; simp only []; omega, h.c, h.d, h.e⟩, rfl, fun q => absurd k q, fun _ => void_bit _ (by show 32 ≤ (32 + o.b % 1000).toNat; omega)⟩
      · have e : vopF x o = { o with d := 0 } := by unfold vopF; rw [if_pos k, if_neg x0, if_neg x1]
        rw [e]
        exact ⟨⟨h.k, h.a, h.b, h.c, w32_zero, h.e⟩, rfl, fun q => absurd k q, fun _ => void_dur _ rfl⟩
  · have e : vopF x o = o := by unfold vopF; rw [if_neg k]
    rw [e]
    exact ⟨h, rfl, fun _ => rfl, fun q => absurd q k⟩
/-- The script with the faults of its first j steps voided. -/
def vS (x : Int) (s : Nat → OpD) (j : Nat) : Nat → OpD := fun k => if k < j then vopF x (s k) else s k
theorem vS_zero (x : Int) (s : Nat → OpD) : vS x s 0 = s := by funext k; unfold vS; rw [if_neg (by omega)]
theorem vS_at (x : Int) (s : Nat → OpD) (j : Nat) : vS x s j j = s j := by unfold vS; rw [if_neg (by omega)]
theorem vS_lt (x : Int) (s : Nat → OpD) (j k : Nat) (h : k < j) : vS x s j k = vopF x (s k) := by unfold vS; rw [if_pos h]
theorem vS_succ (x : Int) (s : Nat → OpD) (j : Nat) : ∀ k, vS x s (j + 1) k = if k = j then vopF x (s j) else vS x s j k := fun k => by
  unfold vS
  by_cases e : k = j
  · subst e; rw [if_pos (by omega), if_pos rfl]
  · rw [if_neg e]
    by_cases l : k < j
    · rw [if_pos (by omega), if_pos l]
    · rw [if_neg (by omega), if_neg l]
/-- A row of a list of rows turned. -/
theorem flat_ext {α : Type} (f : α → List Value) (m : Nat) (hp : 0 < m) (hm : ∀ x, (f x).length = m) (l : List α) (ys : List Value) (hl : ys.length = l.length * m) (h : ∀ j x, l[j]? = some x → ∀ i, i < m → ys[j * m + i]? = (f x)[i]?) : ys = l.flatMap f := by
  apply List.ext_getElem?
  intro k
  have hq := Nat.div_add_mod k m
  have hr := Nat.mod_lt k hp
  by_cases hk : k < l.length * m
  · have hj : k / m < l.length := Nat.div_lt_of_lt_mul (by rw [Nat.mul_comm]; exact hk)
    have e := h (k / m) _ (List.getElem?_eq_getElem hj) (k % m) hr
    have e2 := flat_get f m hm l (k / m) _ (List.getElem?_eq_getElem hj) (k % m) hr
    rw [Nat.mul_comm (k / m) m, hq] at e e2
    rw [e, e2]
  · rw [List.getElem?_eq_none (by omega), List.getElem?_eq_none (by rw [flat_len f m hm]; omega)]
theorem turn_row {s s' : Nat → OpD} {n j i : Nat} {u : Value} (hi : i < 6) (hj : j < n) (h0 : ∀ k, k ≠ j → s' k = s k) (h1 : ∀ i', i' < 6 → (oprow (s' j))[i']? = if i' = i then some u else (oprow (s j))[i']?) :
    ((opsL s n).flatMap oprow).set (j * 6 + i) u = (opsL s' n).flatMap oprow := by
  refine flat_ext oprow 6 (by decide) (fun _ => rfl) _ _ (by rw [List.length_set, flat_len oprow 6 (fun _ => rfl), opsL_len, opsL_len]) ?_
  intro k x hx i' hi'
  have hk : k < n := by have := (List.getElem?_eq_some_iff.1 hx).1; rw [opsL_len] at this; exact this
  rw [opsL_get s' n k hk] at hx
  cases hx
  have e := flat_get oprow 6 (fun _ => rfl) (opsL s n) k (s k) (opsL_get s n k hk) i' hi'
  have hL : ((opsL s n).flatMap oprow).length = n * 6 := by rw [flat_len oprow 6 (fun _ => rfl), opsL_len]
  rw [List.getElem?_set]
  by_cases hkj : k = j
  · subst hkj
    by_cases hii : i' = i
    · subst hii
      rw [if_pos rfl, if_pos (by omega), h1 i' hi', if_pos rfl]
    · rw [if_neg (by omega), e, h1 i' hi', if_neg hii]
  · rw [if_neg (by omega), e, h0 k hkj]
theorem scr_of_sl {w : World} {va : Option Addr} {n vc : Nat} {s : Nat → OpD} (h : Sl w (.slice va n vc) 73 6 n ((opsL s n).flatMap oprow)) (hok : ∀ k, k < n → (s k).Ok) : Scr w va n s := by
  refine ⟨hok, fun hn => ?_⟩
  obtain ⟨b, off, cap, e, _, hl⟩ := h.form hn
  injection e with e1 _ e3
  subst e1; subst e3
  refine ⟨b, off, rfl, hl, fun k hk j hj => ?_⟩
  have := Sl.rowc (f := oprow) (m := 6) (fun _ => rfl) h rfl (opsL_get s n k hk) j hj
  rw [this]
  unfold oprow
  rw [Array.getElem?_toList]
theorem cmp7 {own own5 : Nat → Nat} {w5 : World} {L L5 : LY} {R5 R2 : RG} {B5 B2 : Nat} (hr5 : RR own5 w5 L5 R5) (hr2 : RR own w5 L R2) (hv : V7 R5 R2) (hlen : R2.reps.length < 1000000000 ∧ R2.uP.log.length < 1000000000 ∧ R2.uD.log.length < 1000000000) (hl5 : L5.rg = B5) (hl2 : L.rg = B2) :
    ∃ (rv5 rv2 : Value) (p1 p2 p3 p4 : Nat) (g1 g2 g3 g4 : Value), w5.cell? ⟨B5, 22, none⟩ = some rv5 ∧ w5.cell? ⟨B2, 22, none⟩ = some rv2 ∧ w5.cell? ⟨B5, 2, none⟩ = some (.pointer (some ⟨p1, 0, none⟩)) ∧ w5.cell? ⟨B2, 2, none⟩ = some (.pointer (some ⟨p2, 0, none⟩)) ∧ w5.cell? ⟨B5, 3, none⟩ = some (.pointer (some ⟨p3, 0, none⟩)) ∧ w5.cell? ⟨B2, 3, none⟩ = some (.pointer (some ⟨p4, 0, none⟩)) ∧
      (∀ q, Calls Try.prog 29 #[rv5, rv2] (w5.drewN q) fun e w' => e = .returned (.bool true) ∧ ∃ q', w' = w5.drewN q') ∧
      (∀ q, Calls Try.prog 13 #[.pointer (some ⟨p1, 0, none⟩)] (w5.drewN q) fun e w' => e = .returned g1 ∧ ∃ q', w' = w5.drewN q') ∧
      (∀ q, Calls Try.prog 13 #[.pointer (some ⟨p2, 0, none⟩)] (w5.drewN q) fun e w' => e = .returned g2 ∧ ∃ q', w' = w5.drewN q') ∧
      (∀ q, Calls Try.prog 28 #[g1, g2] (w5.drewN q) fun e w' => e = .returned (.bool true) ∧ ∃ q', w' = w5.drewN q') ∧
      (∀ q, Calls Try.prog 13 #[.pointer (some ⟨p3, 0, none⟩)] (w5.drewN q) fun e w' => e = .returned g3 ∧ ∃ q', w' = w5.drewN q') ∧
      (∀ q, Calls Try.prog 13 #[.pointer (some ⟨p4, 0, none⟩)] (w5.drewN q) fun e w' => e = .returned g4 ∧ ∃ q', w' = w5.drewN q') ∧
      (∀ q, Calls Try.prog 28 #[g3, g4] (w5.drewN q) fun e w' => e = .returned (.bool true) ∧ ∃ q', w' = w5.drewN q') := by
  have hd5 : ∀ q, RR own5 (w5.drewN q) L5 R5 := fun q => hr5.below (below_drewN' (Below.refl _ _))
  have hd2 : ∀ q, RR own (w5.drewN q) L R2 := fun q => hr2.below (below_drewN' (Below.refl _ _))
  have dd : ∀ (q : Nat) {e : Ending} {w' : World}, (e = .returned (.bool true) ∧ ∃ q', w' = (w5.drewN q).drewN q') → (e = .returned (.bool true) ∧ ∃ q', w' = w5.drewN q') := fun q e w' h => ⟨h.1, by obtain ⟨q', e2⟩ := h.2; exact ⟨_, e2.trans (World.drewN_drewN _ _ _)⟩⟩
  refine ⟨L5.rv, L.rv, L5.ubP, L.ubP, L5.ubD, L.ubD, L5.gvP, L.gvP, L5.gvD, L.gvD, by rw [← hl5]; exact hr5.rg.1.cell 22, by rw [← hl2]; exact hr2.rg.1.cell 22, by rw [← hl5]; exact hr5.rg.1.cell 2, by rw [← hl2]; exact hr2.rg.1.cell 2, by rw [← hl5]; exact hr5.rg.1.cell 3, by rw [← hl2]; exact hr2.rg.1.cell 3, fun q => ?_, fun q => (log_any _ _ _ _ _ _ (hd5 q).uP.u).mono fun e w' h => ⟨h.1, q, h.2⟩, fun q => (log_any _ _ _ _ _ _ (hd2 q).uP.u).mono fun e w' h => ⟨h.1, q, h.2⟩, fun q => ?_, fun q => (log_any _ _ _ _ _ _ (hd5 q).uD.u).mono fun e w' h => ⟨h.1, q, h.2⟩, fun q => (log_any _ _ _ _ _ _ (hd2 q).uD.u).mono fun e w' h => ⟨h.1, q, h.2⟩, fun q => ?_⟩
  · exact (eqRep_yes L5.rv L.rv _ _ (by have h9 := (hd5 q).reps.1; rw [hv.reps] at h9; exact h9) (hd2 q).reps.1 (by omega)).mono fun e w' h => dd q h
  · exact (eqTr_yes L5.gvP L.gvP _ _ (by have h9 := (hd5 q).uP.u.log; rw [hv.uP] at h9; exact h9) (hd2 q).uP.u.log (by omega)).mono fun e w' h => dd q h
  · exact (eqTr_yes L5.gvD L.gvD _ _ (by have h9 := (hd5 q).uD.u.log; rw [hv.uD] at h9; exact h9) (hd2 q).uD.u.log (by omega)).mono fun e w' h => dd q h
def fr7a (a : Option Addr) (n c rr : Nat) (x : Int) (u : Nat → Value) : Act :=
  { tmps := ((.slice a n c) :: (u 1) :: (u 2) :: (.pointer (some ⟨rr, 0, none⟩)) :: (.int .i64 x) :: (u 5) :: (u 6) :: (u 7) :: (u 8) :: (u 9) :: (u 10) :: (u 11) :: (u 12) :: (u 13) :: (u 14) :: (u 15) :: (u 16) :: (u 17) :: (u 18) :: (u 19) :: (u 20) :: (u 21) :: (u 22) :: (u 23) :: (u 24) :: (u 25) :: (u 26) :: (u 27) :: (u 28) :: (u 29) :: (u 30) :: (u 31) :: (u 32) :: (u 33) :: (u 34) :: (u 35) :: (u 36) :: (u 37) :: (u 38) :: (u 39) :: (u 40) :: (u 41) :: (u 42) :: (u 43) :: (u 44) :: (u 45) :: (u 46) :: (u 47) :: (u 48) :: (u 49) :: (u 50) :: (u 51) :: (u 52) :: (u 53) :: (u 54) :: (u 55) :: (u 56) :: (u 57) :: (u 58) :: (u 59) :: (u 60) :: (u 61) :: (u 62) :: (u 63) :: (u 64) :: (u 65) :: (u 66) :: (u 67) :: (u 68) :: (u 69) :: (u 70) :: (u 71) :: (u 72) :: (u 73) :: (u 74) :: (u 75) :: (u 76) :: (u 77) :: (u 78) :: (u 79) :: (u 80) :: (u 81) :: (u 82) :: (u 83) :: (u 84) :: (u 85) :: (u 86) :: (u 87) :: (u 88) :: (u 89) :: (u 90) :: (u 91) :: (u 92) :: (u 93) :: (u 94) :: (u 95) :: (u 96) :: (u 97) :: (u 98) :: (u 99) :: (u 100) :: (u 101) :: (u 102) :: (u 103) :: [] : List Value).toArray, defers := [] }
def fr7b (a : Option Addr) (n c rr : Nat) (x : Int) (va : Option Addr) (vc : Nat) (u : Nat → Value) : Act :=
  { tmps := ((.slice a n c) :: (u 1) :: (u 2) :: (.pointer (some ⟨rr, 0, none⟩)) :: (.int .i64 x) :: (.slice va n vc) :: (u 6) :: (u 7) :: (u 8) :: (u 9) :: (u 10) :: (u 11) :: (u 12) :: (u 13) :: (u 14) :: (u 15) :: (u 16) :: (u 17) :: (u 18) :: (u 19) :: (u 20) :: (u 21) :: (u 22) :: (u 23) :: (u 24) :: (u 25) :: (u 26) :: (u 27) :: (u 28) :: (u 29) :: (u 30) :: (u 31) :: (u 32) :: (u 33) :: (u 34) :: (u 35) :: (u 36) :: (u 37) :: (u 38) :: (u 39) :: (u 40) :: (u 41) :: (u 42) :: (u 43) :: (u 44) :: (u 45) :: (u 46) :: (u 47) :: (u 48) :: (u 49) :: (u 50) :: (u 51) :: (u 52) :: (u 53) :: (u 54) :: (u 55) :: (u 56) :: (u 57) :: (u 58) :: (u 59) :: (u 60) :: (u 61) :: (u 62) :: (u 63) :: (u 64) :: (u 65) :: (u 66) :: (u 67) :: (u 68) :: (u 69) :: (u 70) :: (u 71) :: (u 72) :: (u 73) :: (u 74) :: (u 75) :: (u 76) :: (u 77) :: (u 78) :: (u 79) :: (u 80) :: (u 81) :: (u 82) :: (u 83) :: (u 84) :: (u 85) :: (u 86) :: (u 87) :: (u 88) :: (u 89) :: (u 90) :: (u 91) :: (u 92) :: (u 93) :: (u 94) :: (u 95) :: (u 96) :: (u 97) :: (u 98) :: (u 99) :: (u 100) :: (u 101) :: (u 102) :: (u 103) :: [] : List Value).toArray, defers := [] }
def fr7c (a : Option Addr) (n c rr : Nat) (x : Int) (va : Option Addr) (vc j : Nat) (u : Nat → Value) : Act :=
  { tmps := ((.slice a n c) :: (u 1) :: (u 2) :: (.pointer (some ⟨rr, 0, none⟩)) :: (.int .i64 x) :: (.slice va n vc) :: (u 6) :: (u 7) :: (u 8) :: (u 9) :: (u 10) :: (u 11) :: (u 12) :: (u 13) :: (u 14) :: (u 15) :: (u 16) :: (u 17) :: (u 18) :: (u 19) :: (.int .i64 (n : Nat)) :: (.int .i64 (j : Nat)) :: (u 22) :: (u 23) :: (u 24) :: (u 25) :: (u 26) :: (u 27) :: (u 28) :: (u 29) :: (u 30) :: (u 31) :: (u 32) :: (u 33) :: (u 34) :: (u 35) :: (u 36) :: (u 37) :: (u 38) :: (u 39) :: (u 40) :: (u 41) :: (u 42) :: (u 43) :: (u 44) :: (u 45) :: (u 46) :: (u 47) :: (u 48) :: (u 49) :: (u 50) :: (u 51) :: (u 52) :: (u 53) :: (u 54) :: (u 55) :: (u 56) :: (u 57) :: (u 58) :: (u 59) :: (u 60) :: (u 61) :: (u 62) :: (u 63) :: (u 64) :: (u 65) :: (u 66) :: (u 67) :: (u 68) :: (u 69) :: (u 70) :: (u 71) :: (u 72) :: (u 73) :: (u 74) :: (u 75) :: (u 76) :: (u 77) :: (u 78) :: (u 79) :: (u 80) :: (u 81) :: (u 82) :: (u 83) :: (u 84) :: (u 85) :: (u 86) :: (u 87) :: (u 88) :: (u 89) :: (u 90) :: (u 91) :: (u 92) :: (u 93) :: (u 94) :: (u 95) :: (u 96) :: (u 97) :: (u 98) :: (u 99) :: (u 100) :: (u 101) :: (u 102) :: (u 103) :: [] : List Value).toArray, defers := [] }
set_option maxRecDepth 100000 in
set_option maxHeartbeats 16000000 in
theorem law7_any (a : Option Addr) (n c : Nat) (s : Nat → OpD) (w : World) (hs : Scr w a n s) :
    Calls Try.prog 7 #[.slice a n c] w fun e w' => e = .returned (.bool true) ∧ Below w.heap.size w w' := by
  by_cases hn : n ≤ 65536
  · have HS := hid_of hs
    have HSM := hid_of (small_yes a n c hn w)
    have HPL := hid_of (play_any a n c s hn false false w hs)
    have hok := plyN_ok s false false n (fun k hk => hs.1 k hk)
    have HLEN : Hid ((plyN s false false n).reps.length < 1000000000 ∧ (plyN s false false n).uP.log.length < 1000000000 ∧ (plyN s false false n).uD.log.length < 1000000000) := ⟨by have := hok.2; omega, by have := hok.1.uP.glen; have := hok.2; omega, by have := hok.1.uD.glen; have := hok.2; omega⟩
    have HNN := hid_of hn
    have HV : Hid (∀ (x : Int) k, k < n → (vopF x (s k)).Ok ∧ Vop (s k) (vopF x (s k))) := fun x k hk => vopF_ok x (s k) (hs.1 k hk)
    have HOK : Hid (∀ k, k < n → (s k).Ok) := hs.1
    clear hs hn hok
    go_enter Try.func7, Try.ntmps7
    go_wp2_with fail
    refine HSM.out.mono ?_
    rintro e w0 ⟨rfl, hw0⟩
    obtain rfl := hw0.symm
    clear HSM hw0
    go_wp2_with fail
    refine HPL.out.mono ?_
    rintro e w2 ⟨rfl, own, L, hr1, hb1, ho1, hl1⟩
    have HR := hid_of hr1
    have HB1 := hid_of hb1
    have HL1 := hid_of hl1
    clear HPL ho1 hr1 hb1 hl1
    go_wp2_with fail
    refine q_of (Q := fun a => (Code.loop _).wp Try.prog _ a _) (F := fr7a a n c (w.heap.size + 5) 0) (fun u0 => ?_) _ (by kernel_rfl)
    refine wp_loop (fun act wr => ∃ (u : Nat → Value) (x : Int), act = fr7a a n c (w.heap.size + 5) x u ∧ 0 ≤ x ∧ x ≤ 3 ∧ Hid (Below w2.heap.size w2 wr)) (fun act _ => (3 - intOf (act.tmps.getD 4 undef)).toNat) ⟨u0, 0, rfl, by omega, by omega, Below.refl _ _⟩ ?_
    rintro act wr ⟨u, x, rfl, hx0, hx3, HB⟩
    by_cases hx : x = 3
    · subst hx
      have HBW : Hid (Below w.heap.size w wr) := HB1.out.trans (HB.out.mono HB1.out.size)
      clear HB
      unfold fr7a
      go_wp2_with fail
      go_ret
      exact ⟨rfl, HBW.out⟩
    by_cases hx : x = 0
    · subst hx
      clear hx0 hx3
      obtain ⟨KR, hKR⟩ : ∃ KR : Act → World → Prop, KR = fun a' w' => ((fun act wr => ∃ (u : Nat → Value) (x : Int), act = fr7a a n c (w.heap.size + 5) x u ∧ 0 ≤ x ∧ x ≤ 3 ∧ Hid (Below w2.heap.size w2 wr)) a' w' ∧ (3 - intOf (a'.tmps.getD 4 undef)).toNat < (3 - intOf ((fr7a a n c (w.heap.size + 5) 0 u).tmps.getD 4 undef)).toNat) := ⟨_, rfl⟩
      have HKR : Hid (∀ (act : Act) (w' : World), act = fr7a a n c (w.heap.size + 5) 1  (fun i => act.tmps.getD i undef) → Below w2.heap.size w2 w' → KR act w') := fun act w' e hb => by
        rw [hKR]
        refine ⟨⟨_, 1 , e, by omega, by omega, hb⟩, ?_⟩
        have e1 : act.tmps.getD 4 undef = .int .i64 (1 ) := by rw [e]; rfl
        have e2 : (fr7a a n c (w.heap.size + 5) 0 u).tmps.getD 4 undef = .int .i64 (0) := rfl
        simp only [e1, e2, intOf]
        omega
      rw [← hKR]
      clear hKR
      have HBW : Hid (Below w.heap.size w wr) := HB1.out.trans (HB.out.mono HB1.out.size)
      have HSW : Hid (Scr wr a n s) := HS.out.below HBW.out
      have HCL := hid_of (clone_any a n c s wr HNN.out HSW.out)
      unfold fr7a
      go_wp2_with fail
      refine HCL.out.mono ?_
      rintro e w3 ⟨v, rfl, hsl, hb3, hnew⟩
      obtain ⟨va, vc, rfl⟩ := hsl.form'
      have HSL := hid_of hsl
      have HB3 := hid_of hb3
      have HNEW := hid_of hnew
      have HN := hid_of HNN.out
      clear hsl hb3 hnew HCL
      go_upto_block 2 with fail
      refine cutM (Km := fun act wz => ∃ (u : Nat → Value), act = fr7b a n c (w.heap.size + 5) (0) va vc u ∧ Hid (Sl wz (.slice va n vc) 73 6 n ((opsL (vS 0 s n) n).flatMap oprow)) ∧ Hid (Below wr.heap.size wr wz)) ?rest00 ?first00
      case first00 =>
        obtain ⟨KF, hKF⟩ : ∃ KF : Act → World → Prop, KF = fun act wz => ∃ (u : Nat → Value), act = fr7b a n c (w.heap.size + 5) (0) va vc u ∧ Hid (Sl wz (.slice va n vc) 73 6 n ((opsL (vS 0 s n) n).flatMap oprow)) ∧ Hid (Below wr.heap.size wr wz) := ⟨_, rfl⟩
        have HKF : Hid (∀ (act : Act) (wz : World), act = fr7b a n c (w.heap.size + 5) (0) va vc (fun i => act.tmps.getD i undef) → Sl wz (.slice va n vc) 73 6 n ((opsL (vS 0 s n) n).flatMap oprow) → Below wr.heap.size wr wz → KF act wz) := fun act wz e h1 h2 => by rw [hKF]; exact ⟨_, e, h1, h2⟩
        rw [← hKF]
        clear hKF
        have HSL0 : Hid (Sl w3 (.slice va n vc) 73 6 n ((opsL (vS 0 s 0) n).flatMap oprow)) := by rw [vS_zero]; exact HSL.out
        go_wp2_with fail
        refine q_of (Q := fun a => (Code.loop _).wp Try.prog _ a _) (F := fr7c a n c (w.heap.size + 5) (0) va vc 0) (fun u0 => ?_) _ (by kernel_rfl)
        refine wp_loop (fun act wz => ∃ (u : Nat → Value) (j : Nat), act = fr7c a n c (w.heap.size + 5) (0) va vc j u ∧ j ≤ n ∧ Hid (Sl wz (.slice va n vc) 73 6 n ((opsL (vS 0 s j) n).flatMap oprow)) ∧ Hid (Below wr.heap.size wr wz)) (fun act _ => n - (intOf (act.tmps.getD 21 undef)).toNat) ⟨u0, 0, rfl, Nat.zero_le _, HSL0.out, HB3.out⟩ ?_
        rintro act wz ⟨u, j, rfl, hj, HZ, HZB⟩
        obtain ⟨KJ, hKJ⟩ : ∃ KJ : Act → World → Prop, KJ = fun a' w' => ((fun act wz => ∃ (u : Nat → Value) (j : Nat), act = fr7c a n c (w.heap.size + 5) (0) va vc j u ∧ j ≤ n ∧ Hid (Sl wz (.slice va n vc) 73 6 n ((opsL (vS 0 s j) n).flatMap oprow)) ∧ Hid (Below wr.heap.size wr wz)) a' w' ∧ n - (intOf (a'.tmps.getD 21 undef)).toNat < n - (intOf ((fr7c a n c (w.heap.size + 5) (0) va vc j u).tmps.getD 21 undef)).toNat) := ⟨_, rfl⟩
        have HKJ : Hid (∀ (act : Act) (w' : World), act = fr7c a n c (w.heap.size + 5) (0) va vc (j + 1) (fun i => act.tmps.getD i undef) → j < n → Sl w' (.slice va n vc) 73 6 n ((opsL (vS 0 s (j + 1)) n).flatMap oprow) → Below wr.heap.size wr w' → KJ act w') := fun act w' e hjl h1 h2 => by
          rw [hKJ]
          refine ⟨⟨_, j + 1, e, hjl, h1, h2⟩, ?_⟩
          have e1 : act.tmps.getD 21 undef = .int .i64 ((j + 1 : Nat) : Int) := by rw [e]; rfl
          have e2 : (fr7c a n c (w.heap.size + 5) (0) va vc j u).tmps.getD 21 undef = .int .i64 ((j : Nat) : Int) := rfl
          simp only [e1, e2, intOf]
          omega
        rw [← hKJ]
        clear hKJ
        have hadd : IntKind.i64.wrap (((j : Nat) : Int) + 1) = (j : Nat) + 1 := by have := HNN.out; simp [IntKind.wrap, IntKind.bits, IntKind.signed]; omega
        by_cases hjn : j < n
        · have hji : ((j : Nat) : Int) < (n : Nat) := by omega
          obtain ⟨b1, o1, c1', e1, _, hl1⟩ := HZ.out.form (by omega)
          injection e1 with e1 _ e3
          subst e1; subst e3
          obtain ⟨cs, hcs, hsz⟩ := HZ.out.blk rfl
          have hge : wr.heap.size ≤ b1 := HNEW.out b1 rfl
          have p := fun i hi => Sl.rowc (f := oprow) (m := 6) (fun _ => rfl) HZ.out rfl (opsL_get (vS 0 s j) n j hjn) i hi
          rw [vS_at] at p
          have hoj := HOK.out j hjn
          have HSU := hid_of (vS_succ 0 s j)
          by_cases hk : (s j).k = 2
          · have HT : Hid (∀ (i : Nat) (v : Value), i < 6 → (∀ i', i' < 6 → (oprow (vopF 0 (s j)))[i']? = if i' = i then some v else (oprow (s j))[i']?) → Sl (put wz b1 (cs.setIfInBounds (o1 + j * 6 + i) v) 73) (.slice (some ⟨b1, o1, none⟩) n vc) 73 6 n ((opsL (vS 0 s (j + 1)) n).flatMap oprow) ∧ Below wr.heap.size wr (put wz b1 (cs.setIfInBounds (o1 + j * 6 + i) v) 73)) := fun i v hi h => by
              have t := HZ.out.turn rfl hcs (j * 6 + i) v
              rw [turn_row (s' := vS 0 s (j + 1)) hi hjn (fun k hk => by rw [HSU.out, if_neg hk]) (fun i' hi' => by rw [HSU.out, if_pos rfl, vS_at]; exact h i' hi'), ← Nat.add_assoc] at t
              exact ⟨t, Below.put HZB.out hge _ _⟩
            obtain ⟨z, hz, hzl⟩ := hcs.out
            have HZZ := hid_of hz
            have hvo : vopF 0 (s j) = { s j with a := 55 + (s j).a % 1000 } := by unfold vopF; simp [hk]
            have p0 : wz.cell? ⟨b1, o1 + j * 6, none⟩ = some (.int .u8 2) := by rw [← hk]; exact p 0 (by decide)
            have p1 : wz.cell? ⟨b1, o1 + j * 6 + 1, none⟩ = some (.int .u32 (s j).a) := p 1 (by decide)
            have p0' := p0
            have p1' := p1
            rw [hz] at p0' p1'
            have fz : (put z b1 cs 73).frozen? ⟨b1, o1 + j * 6 + 1, none⟩ = false := by rw [← hz]; exact hcs.frozen _
            have hr1 : (55 + Int.tmod (s j).a 1000) % 4294967296 = 55 + (s j).a % 1000 := by
              have h9 := hoj.a
              unfold W32 at h9
              rw [Int.tmod_eq_emod_of_nonneg h9.1]
              omega
            have hr2 : IntKind.u32.wrap (55 + (s j).a % 1000) = 55 + (s j).a % 1000 := by have := hoj.a; unfold W32 at this; simp [IntKind.wrap, IntKind.bits, IntKind.signed]; omega
            have HT2 := hid_of (HT.out 1 (.int .u32 (55 + (s j).a % 1000)) (by decide) (by rw [hvo]; intro i' hi'; match i', hi' with | 0, _ => rfl | 1, _ => rfl | 2, _ => rfl | 3, _ => rfl | 4, _ => rfl | 5, _ => rfl))
            unfold Hid at HT2
            rw [hz, put_put] at HT2
            clear HT
            subst hz
            have HT3 := hid_of HT2
            clear p p0 p1 hcs hsz HZ HZB hvo HSU HT2 HZZ hk hge
            unfold fr7c
            go_wp2_with fail
            exact HKJ.out _ _ (by kernel_rfl) hjn HT3.out.1 HT3.out.2
          · have HT : Hid (Sl wz (.slice (some ⟨b1, o1, none⟩) n vc) 73 6 n ((opsL (vS 0 s (j + 1)) n).flatMap oprow)) := by
              have e : vS 0 s (j + 1) = vS 0 s j := by
                funext k
                rw [HSU.out]
                split
                · rename_i q; subst q; rw [vS_at]; unfold vopF; rw [if_neg hk]
                · rfl
              unfold Hid
              rw [e]; exact HZ.out
            have p0 : wz.cell? ⟨b1, o1 + j * 6, none⟩ = some (.int .u8 (s j).k) := p 0 (by decide)
            clear p hcs hsz HSU HZ
            unfold fr7c
            go_wp2_with fail
            exact HKJ.out _ _ (by kernel_rfl) hjn HT.out HZB.out
        · have hji : ¬ ((j : Nat) : Int) < (n : Nat) := by omega
          obtain rfl : j = n := by omega
          unfold fr7c
          go_wp2_with fail
          exact HKF.out _ _ (by kernel_rfl) HZ.out HZB.out
      case rest00 =>
      rintro act w4 ⟨u, rfl, HZ, HZB⟩
      have HV4 : Hid (∀ k, k < n → (vS 0 s n k).Ok ∧ Vop (s k) (vS 0 s n k)) := fun k hk => by rw [vS_lt _ _ _ _ hk]; exact HV.out 0 k hk
      have HP := hid_of (play_any va n vc (vS 0 s n) HNN.out true true w4 (scr_of_sl HZ.out fun k hk => (HV4.out k hk).1))
      have HV7 := hid_of (v7_play s (vS 0 s n) n fun k hk => ⟨HOK.out k hk, (HV4.out k hk).2⟩)
      unfold fr7b
      go_upto_region 20 with fail
      refine wp_region_list ?_
      go_wp2_with fail
      refine HP.out.mono ?_
      rintro e w5 ⟨rfl, own5, L5, hr5, hb5, ho5, hl5⟩
      have hB24 : Below w2.heap.size w2 w4 := HB.out.trans (HZB.out.mono HB.out.size)
      have hB25 : Below w2.heap.size w2 w5 := hB24.trans (hb5.mono hB24.size)
      have hr2 : RR own w5 L (plyN s false false n) := HR.out.below hB25
      obtain ⟨B5, hB5⟩ : ∃ B5, w4.heap.size + 5 = B5 := ⟨_, rfl⟩
      obtain ⟨B2, hB2⟩ : ∃ B2, w.heap.size + 5 = B2 := ⟨_, rfl⟩
      rw [hB5] at hl5
      have hl2 : L.rg = B2 := by rw [← hB2]; exact HL1.out
      have HB25 := hid_of hB25
      obtain ⟨rv5, rv2, p1, p2, p3, p4, g1, g2, g3, g4, k22, m22, k2, m2, k3, m3, h29, h13a, h13b, h28a, h13c, h13d, h28b⟩ := cmp7 hr5 hr2 HV7.out HLEN.out hl5 hl2
      have H29 := hid_of h29
      have H13a := hid_of h13a
      have H13b := hid_of h13b
      have H13c := hid_of h13c
      have H13d := hid_of h13d
      have H28a := hid_of h28a
      have H28b := hid_of h28b
      rw [hB2] at HKR ⊢
      rw [hB5]
      clear h29 h13a h13b h28a h13c h13d h28b hr5 hr2 hl5 hl2 hB5 hB2 hb5 ho5 hB24 hB25 HP HV7 HV4 HZ HZB
      go_upto_region 21 with fail
      go_quiet (first | with_reducible exact H29.out _ | with_reducible exact H28a.out _ | with_reducible exact H28b.out _ | with_reducible exact H13a.out _ | with_reducible exact H13b.out _ | with_reducible exact H13c.out _ | with_reducible exact H13d.out _)
      go_wp2_with fail
      exact HKR.out _ _ (by kernel_rfl) (below_drewN' HB25.out)
    by_cases hx : x = 1
    · subst hx
      clear hx0 hx3
      obtain ⟨KR, hKR⟩ : ∃ KR : Act → World → Prop, KR = fun a' w' => ((fun act wr => ∃ (u : Nat → Value) (x : Int), act = fr7a a n c (w.heap.size + 5) x u ∧ 0 ≤ x ∧ x ≤ 3 ∧ Hid (Below w2.heap.size w2 wr)) a' w' ∧ (3 - intOf (a'.tmps.getD 4 undef)).toNat < (3 - intOf ((fr7a a n c (w.heap.size + 5) 1 u).tmps.getD 4 undef)).toNat) := ⟨_, rfl⟩
      have HKR : Hid (∀ (act : Act) (w' : World), act = fr7a a n c (w.heap.size + 5) 2  (fun i => act.tmps.getD i undef) → Below w2.heap.size w2 w' → KR act w') := fun act w' e hb => by
        rw [hKR]
        refine ⟨⟨_, 2 , e, by omega, by omega, hb⟩, ?_⟩
        have e1 : act.tmps.getD 4 undef = .int .i64 (2 ) := by rw [e]; rfl
        have e2 : (fr7a a n c (w.heap.size + 5) 1 u).tmps.getD 4 undef = .int .i64 (1) := rfl
        simp only [e1, e2, intOf]
        omega
      rw [← hKR]
      clear hKR
      have HBW : Hid (Below w.heap.size w wr) := HB1.out.trans (HB.out.mono HB1.out.size)
      have HSW : Hid (Scr wr a n s) := HS.out.below HBW.out
      have HCL := hid_of (clone_any a n c s wr HNN.out HSW.out)
      unfold fr7a
      go_wp2_with fail
      refine HCL.out.mono ?_
      rintro e w3 ⟨v, rfl, hsl, hb3, hnew⟩
      obtain ⟨va, vc, rfl⟩ := hsl.form'
      have HSL := hid_of hsl
      have HB3 := hid_of hb3
      have HNEW := hid_of hnew
      have HN := hid_of HNN.out
      clear hsl hb3 hnew HCL
      go_upto_block 2 with fail
      refine cutM (Km := fun act wz => ∃ (u : Nat → Value), act = fr7b a n c (w.heap.size + 5) (1) va vc u ∧ Hid (Sl wz (.slice va n vc) 73 6 n ((opsL (vS 1 s n) n).flatMap oprow)) ∧ Hid (Below wr.heap.size wr wz)) ?rest10 ?first10
      case first10 =>
        obtain ⟨KF, hKF⟩ : ∃ KF : Act → World → Prop, KF = fun act wz => ∃ (u : Nat → Value), act = fr7b a n c (w.heap.size + 5) (1) va vc u ∧ Hid (Sl wz (.slice va n vc) 73 6 n ((opsL (vS 1 s n) n).flatMap oprow)) ∧ Hid (Below wr.heap.size wr wz) := ⟨_, rfl⟩
        have HKF : Hid (∀ (act : Act) (wz : World), act = fr7b a n c (w.heap.size + 5) (1) va vc (fun i => act.tmps.getD i undef) → Sl wz (.slice va n vc) 73 6 n ((opsL (vS 1 s n) n).flatMap oprow) → Below wr.heap.size wr wz → KF act wz) := fun act wz e h1 h2 => by rw [hKF]; exact ⟨_, e, h1, h2⟩
        rw [← hKF]
        clear hKF
        have HSL0 : Hid (Sl w3 (.slice va n vc) 73 6 n ((opsL (vS 1 s 0) n).flatMap oprow)) := by rw [vS_zero]; exact HSL.out
        go_wp2_with fail
        refine q_of (Q := fun a => (Code.loop _).wp Try.prog _ a _) (F := fr7c a n c (w.heap.size + 5) (1) va vc 0) (fun u0 => ?_) _ (by kernel_rfl)
        refine wp_loop (fun act wz => ∃ (u : Nat → Value) (j : Nat), act = fr7c a n c (w.heap.size + 5) (1) va vc j u ∧ j ≤ n ∧ Hid (Sl wz (.slice va n vc) 73 6 n ((opsL (vS 1 s j) n).flatMap oprow)) ∧ Hid (Below wr.heap.size wr wz)) (fun act _ => n - (intOf (act.tmps.getD 21 undef)).toNat) ⟨u0, 0, rfl, Nat.zero_le _, HSL0.out, HB3.out⟩ ?_
        rintro act wz ⟨u, j, rfl, hj, HZ, HZB⟩
        obtain ⟨KJ, hKJ⟩ : ∃ KJ : Act → World → Prop, KJ = fun a' w' => ((fun act wz => ∃ (u : Nat → Value) (j : Nat), act = fr7c a n c (w.heap.size + 5) (1) va vc j u ∧ j ≤ n ∧ Hid (Sl wz (.slice va n vc) 73 6 n ((opsL (vS 1 s j) n).flatMap oprow)) ∧ Hid (Below wr.heap.size wr wz)) a' w' ∧ n - (intOf (a'.tmps.getD 21 undef)).toNat < n - (intOf ((fr7c a n c (w.heap.size + 5) (1) va vc j u).tmps.getD 21 undef)).toNat) := ⟨_, rfl⟩
        have HKJ : Hid (∀ (act : Act) (w' : World), act = fr7c a n c (w.heap.size + 5) (1) va vc (j + 1) (fun i => act.tmps.getD i undef) → j < n → Sl w' (.slice va n vc) 73 6 n ((opsL (vS 1 s (j + 1)) n).flatMap oprow) → Below wr.heap.size wr w' → KJ act w') := fun act w' e hjl h1 h2 => by
          rw [hKJ]
          refine ⟨⟨_, j + 1, e, hjl, h1, h2⟩, ?_⟩
          have e1 : act.tmps.getD 21 undef = .int .i64 ((j + 1 : Nat) : Int) := by rw [e]; rfl
          have e2 : (fr7c a n c (w.heap.size + 5) (1) va vc j u).tmps.getD 21 undef = .int .i64 ((j : Nat) : Int) := rfl
          simp only [e1, e2, intOf]
          omega
        rw [← hKJ]
        clear hKJ
        have hadd : IntKind.i64.wrap (((j : Nat) : Int) + 1) = (j : Nat) + 1 := by have := HNN.out; simp [IntKind.wrap, IntKind.bits, IntKind.signed]; omega
        by_cases hjn : j < n
        · have hji : ((j : Nat) : Int) < (n : Nat) := by omega
          obtain ⟨b1, o1, c1', e1, _, hl1⟩ := HZ.out.form (by omega)
          injection e1 with e1 _ e3
          subst e1; subst e3
          obtain ⟨cs, hcs, hsz⟩ := HZ.out.blk rfl
          have hge : wr.heap.size ≤ b1 := HNEW.out b1 rfl
          have p := fun i hi => Sl.rowc (f := oprow) (m := 6) (fun _ => rfl) HZ.out rfl (opsL_get (vS 1 s j) n j hjn) i hi
          rw [vS_at] at p
          have hoj := HOK.out j hjn
          have HSU := hid_of (vS_succ 1 s j)
          by_cases hk : (s j).k = 2
          · have HT : Hid (∀ (i : Nat) (v : Value), i < 6 → (∀ i', i' < 6 → (oprow (vopF 1 (s j)))[i']? = if i' = i then some v else (oprow (s j))[i']?) → Sl (put wz b1 (cs.setIfInBounds (o1 + j * 6 + i) v) 73) (.slice (some ⟨b1, o1, none⟩) n vc) 73 6 n ((opsL (vS 1 s (j + 1)) n).flatMap oprow) ∧ Below wr.heap.size wr (put wz b1 (cs.setIfInBounds (o1 + j * 6 + i) v) 73)) := fun i v hi h => by
              have t := HZ.out.turn rfl hcs (j * 6 + i) v
              rw [turn_row (s' := vS 1 s (j + 1)) hi hjn (fun k hk => by rw [HSU.out, if_neg hk]) (fun i' hi' => by rw [HSU.out, if_pos rfl, vS_at]; exact h i' hi'), ← Nat.add_assoc] at t
              exact ⟨t, Below.put HZB.out hge _ _⟩
            obtain ⟨z, hz, hzl⟩ := hcs.out
            have HZZ := hid_of hz
            have hvo : vopF 1 (s j) = { s j with b := 32 + (s j).b % 1000 } := by unfold vopF; simp [hk]
            have p0 : wz.cell? ⟨b1, o1 + j * 6, none⟩ = some (.int .u8 2) := by rw [← hk]; exact p 0 (by decide)
            have p1 : wz.cell? ⟨b1, o1 + j * 6 + 2, none⟩ = some (.int .u32 (s j).b) := p 2 (by decide)
            have p0' := p0
            have p1' := p1
            rw [hz] at p0' p1'
            have fz : (put z b1 cs 73).frozen? ⟨b1, o1 + j * 6 + 2, none⟩ = false := by rw [← hz]; exact hcs.frozen _
            have hr1 : (32 + Int.tmod (s j).b 1000) % 4294967296 = 32 + (s j).b % 1000 := by
              have h9 := hoj.b
              unfold W32 at h9
              rw [Int.tmod_eq_emod_of_nonneg h9.1]
              omega
            have hr2 : IntKind.u32.wrap (32 + (s j).b % 1000) = 32 + (s j).b % 1000 := by have := hoj.b; unfold W32 at this; simp [IntKind.wrap, IntKind.bits, IntKind.signed]; omega
            have HT2 := hid_of (HT.out 2 (.int .u32 (32 + (s j).b % 1000)) (by decide) (by rw [hvo]; intro i' hi'; match i', hi' with | 0, _ => rfl | 1, _ => rfl | 2, _ => rfl | 3, _ => rfl | 4, _ => rfl | 5, _ => rfl))
            unfold Hid at HT2
            rw [hz, put_put] at HT2
            clear HT
            subst hz
            have HT3 := hid_of HT2
            clear p p0 p1 hcs hsz HZ HZB hvo HSU HT2 HZZ hk hge
            unfold fr7c
            go_wp2_with fail
            exact HKJ.out _ _ (by kernel_rfl) hjn HT3.out.1 HT3.out.2
          · have HT : Hid (Sl wz (.slice (some ⟨b1, o1, none⟩) n vc) 73 6 n ((opsL (vS 1 s (j + 1)) n).flatMap oprow)) := by
              have e : vS 1 s (j + 1) = vS 1 s j := by
                funext k
                rw [HSU.out]
                split
                · rename_i q; subst q; rw [vS_at]; unfold vopF; rw [if_neg hk]
                · rfl
              unfold Hid
              rw [e]; exact HZ.out
            have p0 : wz.cell? ⟨b1, o1 + j * 6, none⟩ = some (.int .u8 (s j).k) := p 0 (by decide)
            clear p hcs hsz HSU HZ
            unfold fr7c
            go_wp2_with fail
            exact HKJ.out _ _ (by kernel_rfl) hjn HT.out HZB.out
        · have hji : ¬ ((j : Nat) : Int) < (n : Nat) := by omega
          obtain rfl : j = n := by omega
          unfold fr7c
          go_wp2_with fail
          exact HKF.out _ _ (by kernel_rfl) HZ.out HZB.out
      case rest10 =>
      rintro act w4 ⟨u, rfl, HZ, HZB⟩
      have HV4 : Hid (∀ k, k < n → (vS 1 s n k).Ok ∧ Vop (s k) (vS 1 s n k)) := fun k hk => by rw [vS_lt _ _ _ _ hk]; exact HV.out 1 k hk
      have HP := hid_of (play_any va n vc (vS 1 s n) HNN.out true true w4 (scr_of_sl HZ.out fun k hk => (HV4.out k hk).1))
      have HV7 := hid_of (v7_play s (vS 1 s n) n fun k hk => ⟨HOK.out k hk, (HV4.out k hk).2⟩)
      unfold fr7b
      go_upto_region 20 with fail
      refine wp_region_list ?_
      go_wp2_with fail
      refine HP.out.mono ?_
      rintro e w5 ⟨rfl, own5, L5, hr5, hb5, ho5, hl5⟩
      have hB24 : Below w2.heap.size w2 w4 := HB.out.trans (HZB.out.mono HB.out.size)
      have hB25 : Below w2.heap.size w2 w5 := hB24.trans (hb5.mono hB24.size)
      have hr2 : RR own w5 L (plyN s false false n) := HR.out.below hB25
      obtain ⟨B5, hB5⟩ : ∃ B5, w4.heap.size + 5 = B5 := ⟨_, rfl⟩
      obtain ⟨B2, hB2⟩ : ∃ B2, w.heap.size + 5 = B2 := ⟨_, rfl⟩
      rw [hB5] at hl5
      have hl2 : L.rg = B2 := by rw [← hB2]; exact HL1.out
      have HB25 := hid_of hB25
      obtain ⟨rv5, rv2, p1, p2, p3, p4, g1, g2, g3, g4, k22, m22, k2, m2, k3, m3, h29, h13a, h13b, h28a, h13c, h13d, h28b⟩ := cmp7 hr5 hr2 HV7.out HLEN.out hl5 hl2
      have H29 := hid_of h29
      have H13a := hid_of h13a
      have H13b := hid_of h13b
      have H13c := hid_of h13c
      have H13d := hid_of h13d
      have H28a := hid_of h28a
      have H28b := hid_of h28b
      rw [hB2] at HKR ⊢
      rw [hB5]
      clear h29 h13a h13b h28a h13c h13d h28b hr5 hr2 hl5 hl2 hB5 hB2 hb5 ho5 hB24 hB25 HP HV7 HV4 HZ HZB
      go_upto_region 21 with fail
      go_quiet (first | with_reducible exact H29.out _ | with_reducible exact H28a.out _ | with_reducible exact H28b.out _ | with_reducible exact H13a.out _ | with_reducible exact H13b.out _ | with_reducible exact H13c.out _ | with_reducible exact H13d.out _)
      go_wp2_with fail
      exact HKR.out _ _ (by kernel_rfl) (below_drewN' HB25.out)
    by_cases hx : x = 2
    · subst hx
      clear hx0 hx3
      obtain ⟨KR, hKR⟩ : ∃ KR : Act → World → Prop, KR = fun a' w' => ((fun act wr => ∃ (u : Nat → Value) (x : Int), act = fr7a a n c (w.heap.size + 5) x u ∧ 0 ≤ x ∧ x ≤ 3 ∧ Hid (Below w2.heap.size w2 wr)) a' w' ∧ (3 - intOf (a'.tmps.getD 4 undef)).toNat < (3 - intOf ((fr7a a n c (w.heap.size + 5) 2 u).tmps.getD 4 undef)).toNat) := ⟨_, rfl⟩
      have HKR : Hid (∀ (act : Act) (w' : World), act = fr7a a n c (w.heap.size + 5) 3  (fun i => act.tmps.getD i undef) → Below w2.heap.size w2 w' → KR act w') := fun act w' e hb => by
        rw [hKR]
        refine ⟨⟨_, 3 , e, by omega, by omega, hb⟩, ?_⟩
        have e1 : act.tmps.getD 4 undef = .int .i64 (3 ) := by rw [e]; rfl
        have e2 : (fr7a a n c (w.heap.size + 5) 2 u).tmps.getD 4 undef = .int .i64 (2) := rfl
        simp only [e1, e2, intOf]
        omega
      rw [← hKR]
      clear hKR
      have HBW : Hid (Below w.heap.size w wr) := HB1.out.trans (HB.out.mono HB1.out.size)
      have HSW : Hid (Scr wr a n s) := HS.out.below HBW.out
      have HCL := hid_of (clone_any a n c s wr HNN.out HSW.out)
      unfold fr7a
      go_wp2_with fail
      refine HCL.out.mono ?_
      rintro e w3 ⟨v, rfl, hsl, hb3, hnew⟩
      obtain ⟨va, vc, rfl⟩ := hsl.form'
      have HSL := hid_of hsl
      have HB3 := hid_of hb3
      have HNEW := hid_of hnew
      have HN := hid_of HNN.out
      clear hsl hb3 hnew HCL
      go_upto_block 2 with fail
      refine cutM (Km := fun act wz => ∃ (u : Nat → Value), act = fr7b a n c (w.heap.size + 5) (2) va vc u ∧ Hid (Sl wz (.slice va n vc) 73 6 n ((opsL (vS 2 s n) n).flatMap oprow)) ∧ Hid (Below wr.heap.size wr wz)) ?rest20 ?first20
      case first20 =>
        obtain ⟨KF, hKF⟩ : ∃ KF : Act → World → Prop, KF = fun act wz => ∃ (u : Nat → Value), act = fr7b a n c (w.heap.size + 5) (2) va vc u ∧ Hid (Sl wz (.slice va n vc) 73 6 n ((opsL (vS 2 s n) n).flatMap oprow)) ∧ Hid (Below wr.heap.size wr wz) := ⟨_, rfl⟩
        have HKF : Hid (∀ (act : Act) (wz : World), act = fr7b a n c (w.heap.size + 5) (2) va vc (fun i => act.tmps.getD i undef) → Sl wz (.slice va n vc) 73 6 n ((opsL (vS 2 s n) n).flatMap oprow) → Below wr.heap.size wr wz → KF act wz) := fun act wz e h1 h2 => by rw [hKF]; exact ⟨_, e, h1, h2⟩
        rw [← hKF]
        clear hKF
        have HSL0 : Hid (Sl w3 (.slice va n vc) 73 6 n ((opsL (vS 2 s 0) n).flatMap oprow)) := by rw [vS_zero]; exact HSL.out
        go_wp2_with fail
        refine q_of (Q := fun a => (Code.loop _).wp Try.prog _ a _) (F := fr7c a n c (w.heap.size + 5) (2) va vc 0) (fun u0 => ?_) _ (by kernel_rfl)
        refine wp_loop (fun act wz => ∃ (u : Nat → Value) (j : Nat), act = fr7c a n c (w.heap.size + 5) (2) va vc j u ∧ j ≤ n ∧ Hid (Sl wz (.slice va n vc) 73 6 n ((opsL (vS 2 s j) n).flatMap oprow)) ∧ Hid (Below wr.heap.size wr wz)) (fun act _ => n - (intOf (act.tmps.getD 21 undef)).toNat) ⟨u0, 0, rfl, Nat.zero_le _, HSL0.out, HB3.out⟩ ?_
        rintro act wz ⟨u, j, rfl, hj, HZ, HZB⟩
        obtain ⟨KJ, hKJ⟩ : ∃ KJ : Act → World → Prop, KJ = fun a' w' => ((fun act wz => ∃ (u : Nat → Value) (j : Nat), act = fr7c a n c (w.heap.size + 5) (2) va vc j u ∧ j ≤ n ∧ Hid (Sl wz (.slice va n vc) 73 6 n ((opsL (vS 2 s j) n).flatMap oprow)) ∧ Hid (Below wr.heap.size wr wz)) a' w' ∧ n - (intOf (a'.tmps.getD 21 undef)).toNat < n - (intOf ((fr7c a n c (w.heap.size + 5) (2) va vc j u).tmps.getD 21 undef)).toNat) := ⟨_, rfl⟩
        have HKJ : Hid (∀ (act : Act) (w' : World), act = fr7c a n c (w.heap.size + 5) (2) va vc (j + 1) (fun i => act.tmps.getD i undef) → j < n → Sl w' (.slice va n vc) 73 6 n ((opsL (vS 2 s (j + 1)) n).flatMap oprow) → Below wr.heap.size wr w' → KJ act w') := fun act w' e hjl h1 h2 => by
          rw [hKJ]
          refine ⟨⟨_, j + 1, e, hjl, h1, h2⟩, ?_⟩
          have e1 : act.tmps.getD 21 undef = .int .i64 ((j + 1 : Nat) : Int) := by rw [e]; rfl
          have e2 : (fr7c a n c (w.heap.size + 5) (2) va vc j u).tmps.getD 21 undef = .int .i64 ((j : Nat) : Int) := rfl
          simp only [e1, e2, intOf]
          omega
        rw [← hKJ]
        clear hKJ
        have hadd : IntKind.i64.wrap (((j : Nat) : Int) + 1) = (j : Nat) + 1 := by have := HNN.out; simp [IntKind.wrap, IntKind.bits, IntKind.signed]; omega
        by_cases hjn : j < n
        · have hji : ((j : Nat) : Int) < (n : Nat) := by omega
          obtain ⟨b1, o1, c1', e1, _, hl1⟩ := HZ.out.form (by omega)
          injection e1 with e1 _ e3
          subst e1; subst e3
          obtain ⟨cs, hcs, hsz⟩ := HZ.out.blk rfl
          have hge : wr.heap.size ≤ b1 := HNEW.out b1 rfl
          have p := fun i hi => Sl.rowc (f := oprow) (m := 6) (fun _ => rfl) HZ.out rfl (opsL_get (vS 2 s j) n j hjn) i hi
          rw [vS_at] at p
          have hoj := HOK.out j hjn
          have HSU := hid_of (vS_succ 2 s j)
          by_cases hk : (s j).k = 2
          · have HT : Hid (∀ (i : Nat) (v : Value), i < 6 → (∀ i', i' < 6 → (oprow (vopF 2 (s j)))[i']? = if i' = i then some v else (oprow (s j))[i']?) → Sl (put wz b1 (cs.setIfInBounds (o1 + j * 6 + i) v) 73) (.slice (some ⟨b1, o1, none⟩) n vc) 73 6 n ((opsL (vS 2 s (j + 1)) n).flatMap oprow) ∧ Below wr.heap.size wr (put wz b1 (cs.setIfInBounds (o1 + j * 6 + i) v) 73)) := fun i v hi h => by
              have t := HZ.out.turn rfl hcs (j * 6 + i) v
              rw [turn_row (s' := vS 2 s (j + 1)) hi hjn (fun k hk => by rw [HSU.out, if_neg hk]) (fun i' hi' => by rw [HSU.out, if_pos rfl, vS_at]; exact h i' hi'), ← Nat.add_assoc] at t
              exact ⟨t, Below.put HZB.out hge _ _⟩
            obtain ⟨z, hz, hzl⟩ := hcs.out
            have HZZ := hid_of hz
            have hvo : vopF 2 (s j) = { s j with d := 0 } := by unfold vopF; simp [hk]
            have p0 : wz.cell? ⟨b1, o1 + j * 6, none⟩ = some (.int .u8 2) := by rw [← hk]; exact p 0 (by decide)
            have p1 : wz.cell? ⟨b1, o1 + j * 6 + 4, none⟩ = some (.int .u32 (s j).d) := p 4 (by decide)
            have p0' := p0
            have p1' := p1
            rw [hz] at p0' p1'
            have fz : (put z b1 cs 73).frozen? ⟨b1, o1 + j * 6 + 4, none⟩ = false := by rw [← hz]; exact hcs.frozen _
            have hr1 : (7 + Int.tmod (s j).d 1000) % 4294967296 = 7 + (s j).d % 1000 := by
              have h9 := hoj.d
              unfold W32 at h9
              rw [Int.tmod_eq_emod_of_nonneg h9.1]
              omega
            have hr2 : IntKind.u32.wrap (7 + (s j).d % 1000) = 7 + (s j).d % 1000 := by have := hoj.d; unfold W32 at this; simp [IntKind.wrap, IntKind.bits, IntKind.signed]; omega
            have HT2 := hid_of (HT.out 4 (.int .u32 (0)) (by decide) (by rw [hvo]; intro i' hi'; match i', hi' with | 0, _ => rfl | 1, _ => rfl | 2, _ => rfl | 3, _ => rfl | 4, _ => rfl | 5, _ => rfl))
            unfold Hid at HT2
            rw [hz, put_put] at HT2
            clear HT
            subst hz
            have HT3 := hid_of HT2
            clear p p0 p1 hcs hsz HZ HZB hvo HSU HT2 HZZ hk hge
            unfold fr7c
            go_wp2_with fail
            exact HKJ.out _ _ (by kernel_rfl) hjn HT3.out.1 HT3.out.2
          · have HT : Hid (Sl wz (.slice (some ⟨b1, o1, none⟩) n vc) 73 6 n ((opsL (vS 2 s (j + 1)) n).flatMap oprow)) := by
              have e : vS 2 s (j + 1) = vS 2 s j := by
                funext k
                rw [HSU.out]
                split
                · rename_i q; subst q; rw [vS_at]; unfold vopF; rw [if_neg hk]
                · rfl
              unfold Hid
              rw [e]; exact HZ.out
            have p0 : wz.cell? ⟨b1, o1 + j * 6, none⟩ = some (.int .u8 (s j).k) := p 0 (by decide)
            clear p hcs hsz HSU HZ
            unfold fr7c
            go_wp2_with fail
            exact HKJ.out _ _ (by kernel_rfl) hjn HT.out HZB.out
        · have hji : ¬ ((j : Nat) : Int) < (n : Nat) := by omega
          obtain rfl : j = n := by omega
          unfold fr7c
          go_wp2_with fail
          exact HKF.out _ _ (by kernel_rfl) HZ.out HZB.out
      case rest20 =>
      rintro act w4 ⟨u, rfl, HZ, HZB⟩
      have HV4 : Hid (∀ k, k < n → (vS 2 s n k).Ok ∧ Vop (s k) (vS 2 s n k)) := fun k hk => by rw [vS_lt _ _ _ _ hk]; exact HV.out 2 k hk
      have HP := hid_of (play_any va n vc (vS 2 s n) HNN.out true true w4 (scr_of_sl HZ.out fun k hk => (HV4.out k hk).1))
      have HV7 := hid_of (v7_play s (vS 2 s n) n fun k hk => ⟨HOK.out k hk, (HV4.out k hk).2⟩)
      unfold fr7b
      go_upto_region 20 with fail
      refine wp_region_list ?_
      go_wp2_with fail
      refine HP.out.mono ?_
      rintro e w5 ⟨rfl, own5, L5, hr5, hb5, ho5, hl5⟩
      have hB24 : Below w2.heap.size w2 w4 := HB.out.trans (HZB.out.mono HB.out.size)
      have hB25 : Below w2.heap.size w2 w5 := hB24.trans (hb5.mono hB24.size)
      have hr2 : RR own w5 L (plyN s false false n) := HR.out.below hB25
      obtain ⟨B5, hB5⟩ : ∃ B5, w4.heap.size + 5 = B5 := ⟨_, rfl⟩
      obtain ⟨B2, hB2⟩ : ∃ B2, w.heap.size + 5 = B2 := ⟨_, rfl⟩
      rw [hB5] at hl5
      have hl2 : L.rg = B2 := by rw [← hB2]; exact HL1.out
      have HB25 := hid_of hB25
      obtain ⟨rv5, rv2, p1, p2, p3, p4, g1, g2, g3, g4, k22, m22, k2, m2, k3, m3, h29, h13a, h13b, h28a, h13c, h13d, h28b⟩ := cmp7 hr5 hr2 HV7.out HLEN.out hl5 hl2
      have H29 := hid_of h29
      have H13a := hid_of h13a
      have H13b := hid_of h13b
      have H13c := hid_of h13c
      have H13d := hid_of h13d
      have H28a := hid_of h28a
      have H28b := hid_of h28b
      rw [hB2] at HKR ⊢
      rw [hB5]
      clear h29 h13a h13b h28a h13c h13d h28b hr5 hr2 hl5 hl2 hB5 hB2 hb5 ho5 hB24 hB25 HP HV7 HV4 HZ HZB
      go_upto_region 21 with fail
      go_quiet (first | with_reducible exact H29.out _ | with_reducible exact H28a.out _ | with_reducible exact H28b.out _ | with_reducible exact H13a.out _ | with_reducible exact H13b.out _ | with_reducible exact H13c.out _ | with_reducible exact H13d.out _)
      go_wp2_with fail
      exact HKR.out _ _ (by kernel_rfl) (below_drewN' HB25.out)
    omega
  · have HSM := hid_of (small_no a n c hn w)
    clear hs hn
    go_enter Try.func7, Try.ntmps7
    go_wp2_with fail
    refine HSM.out.mono ?_
    rintro e w0 ⟨rfl, hw0⟩
    obtain rfl := hw0.symm
    go_wp2_with fail
    go_ret
    exact ⟨rfl, Below.refl _ _⟩
end Go.Proofs.Qxb6500749a
