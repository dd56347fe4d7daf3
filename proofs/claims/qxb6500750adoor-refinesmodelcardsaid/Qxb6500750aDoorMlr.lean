import Derived.Test.Qxb6500750aDoorMnw
import Derived.Test.Qxb6500750aDoorMeq
namespace Go.Proofs.Qxb6500750aDoor
open Go.RowKit
attribute [local go_sem] put_size put_cell_same put_cell_ne put_frozen_same put_frozen_ne put_setCell_same put_setCell_ne put_drew
attribute [local go_sem] drewN_setCell drewN_alloc drewN_put
/-! ### The machine's readers -/
theorem acted_any (mb s : Nat) (hs : s < 7) (M : MA) (w : World) (hB : Blk w mb (encM M) 104) :
    Calls Tryd.prog 18 #[.pointer (some ⟨mb, 0, none⟩), .int .i64 (s : Nat)] w fun e w' => e = .returned (M.tg s).av ∧ w' = w := by
  have c2 := hB.cell (12 + s * 9 + 2)
  rw [mg_av _ _ hs] at c2
  have hsi : ((s : Nat) : Int) < 7 := by omega
  clear hB
  go_enter Tryd.func18, Tryd.ntmps18
  go_wp2_with fail
  go_ret
  exact ⟨rfl, rfl⟩
theorem mword_any (mb s : Nat) (hs : s < 7) (M : MA) (w : World) (hB : Blk w mb (encM M) 104) (mem : Int → Int) (hM : MapB w (M.tg s).wm mem) (a : Int) :
    Calls Tryd.prog 20 #[.pointer (some ⟨mb, 0, none⟩), .int .i64 (s : Nat), .int .u32 a] w fun e w' => e = .returned (.int .u32 (mem a)) ∧ w' = w := by
  have hl := run_lookup_words (P := Tryd.prog) hM Tryd.underlying87 Tryd.underlying29 zero29 a
  have c0 := hB.cell (12 + s * 9)
  rw [mg_wm _ _ hs] at c0
  have hsi : ((s : Nat) : Int) < 7 := by omega
  clear hB hM
  go_enter Tryd.func20, Tryd.ntmps20
  go_wp2_with fail
  go_ret
  exact ⟨rfl, rfl⟩
/-! ### Two slices of link requests that show the same -/
def lrV (r : LReq) : Array Value := #[.int .u8 r.id, .bool r.w, .int .u32 r.ad, .int .u32 r.da]
theorem lrow_get (rs : List LReq) : ∀ (j : Nat) (r : LReq), rs[j]? = some r → ∀ i, i < 4 → (rs.flatMap lreqRow)[j * 4 + i]? = (lrV r)[i]? := by
  induction rs with
  | nil => intro j r h; simp at h
  | cons x rs ih =>
    intro j r h i hi
    rw [List.flatMap_cons]
    cases j with
    | zero =>
      simp at h
      subst h
      rw [List.getElem?_append_left (by simp [lreqRow]; omega)]
      obtain rfl | rfl | rfl | rfl : i = 0 ∨ i = 1 ∨ i = 2 ∨ i = 3 := by omega
      all_goals rfl
    | succ j =>
      rw [List.getElem?_append_right (by simp [lreqRow]; omega)]
      have := ih j r (by simpa using h) i hi
      rw [show (j + 1) * 4 + i - (lreqRow x).length = j * 4 + i by simp [lreqRow]; omega]
      exact this
theorem lrow_len (rs : List LReq) : (rs.flatMap lreqRow).length = rs.length * 4 := by
  induction rs with
  | nil => rfl
  | cons x rs ih => rw [List.flatMap_cons, List.length_append, ih]; simp [lreqRow]; omega
/-- The cells of the request j. -/
theorem Sl.req {w : World} {v : Value} {n : Nat} {rs : List LReq} (h : Sl w v 54 4 n (rs.flatMap lreqRow)) {b off cap : Nat} (hv : v = .slice (some ⟨b, off, none⟩) n cap) {j : Nat} {r : LReq} (hr : rs[j]? = some r) :
    w.cell? ⟨b, off + j * 4, none⟩ = some (.int .u8 r.id) ∧ w.cell? ⟨b, off + j * 4 + 1, none⟩ = some (.bool r.w) ∧ w.cell? ⟨b, off + j * 4 + 2, none⟩ = some (.int .u32 r.ad) ∧ w.cell? ⟨b, off + j * 4 + 3, none⟩ = some (.int .u32 r.da) := by
  have hj : j < rs.length := by
    rcases Nat.lt_or_ge j rs.length with h9 | h9
    · exact h9
    · rw [List.getElem?_eq_none h9] at hr; cases hr
  have hl := lrow_len rs
  have g := lrow_get rs j r hr
  have c := fun i (hi : i < 4) => (h.cell hv (j * 4 + i) (by rw [hl]; omega)).trans (g i hi)
  refine ⟨?_, ?_, ?_, ?_⟩
  · exact c 0 (by omega)
  · have := c 1 (by omega); rw [← Nat.add_assoc] at this; exact this
  · have := c 2 (by omega); rw [← Nat.add_assoc] at this; exact this
  · have := c 3 (by omega); rw [← Nat.add_assoc] at this; exact this
def fr17 (v1 v2 : Value) (n j : Nat) (u : Nat → Value) : Act :=
  { tmps := (v1 :: v2 :: (u 2) :: (u 3) :: (u 4) :: (u 5) :: (u 6) :: (u 7) :: (u 8) :: (u 9) :: (u 10) :: (u 11) :: (.int .i64 (n : Nat)) :: (.int .i64 (j : Nat)) :: (u 14) :: (u 15) :: (u 16) :: (u 17) :: (u 18) :: (u 19) :: (u 20) :: (u 21) :: (u 22) :: (u 23) :: (u 24) :: (u 25) :: [] : List Value).toArray, defers := [] }

set_option maxRecDepth 100000 in
set_option maxHeartbeats 4000000 in
theorem sleq_yes (v1 v2 : Value) (rs : List LReq) (w : World) (h1 : Sl w v1 54 4 rs.length (rs.flatMap lreqRow)) (h2 : Sl w v2 54 4 rs.length (rs.flatMap lreqRow)) (hn : rs.length < 1000000000000) :
    Calls Tryd.prog 17 #[v1, v2] w fun e w' => e = .returned (.bool true) ∧ ∃ n, w' = w.drewN n := by
  obtain ⟨a1, cap1, e1⟩ := h1.form'
  obtain ⟨a2, cap2, e2⟩ := h2.form'
  obtain ⟨n, hnn⟩ : ∃ n, rs.length = n := ⟨_, rfl⟩
  rw [hnn] at h1 h2 e1 e2 hn
  subst e1; subst e2
  have H1 := hid_of h1
  have H2 := hid_of h2
  have HN := hid_of hnn
  clear h1 h2 hnn
  go_enter Tryd.func17, Tryd.ntmps17
  go_wp2_with fail
  refine q_of (Q := fun a => (Code.loop _).wp Tryd.prog _ a _) (F := fr17 (.slice a1 n cap1) (.slice a2 n cap2) n 0) (fun u0 => ?_) _ (by kernel_rfl)
  refine wp_loop (fun act wr => ∃ (u : Nat → Value) (j q : Nat), act = fr17 (.slice a1 n cap1) (.slice a2 n cap2) n j u ∧ j ≤ n ∧ wr = w.drewN q) (fun act _ => n - (intOf (act.tmps.getD 13 undef)).toNat) ?start ?round
  case start => exact ⟨u0, 0, 0, rfl, by omega, rfl⟩
  case round =>
    rintro a0 wr ⟨u, j, q, rfl, hj, rfl⟩
    obtain ⟨KR, hKR⟩ : ∃ KR : Act → World → Prop, KR = fun a' w' => ((fun act wr => ∃ (u : Nat → Value) (j q : Nat), act = fr17 (.slice a1 n cap1) (.slice a2 n cap2) n j u ∧ j ≤ n ∧ wr = w.drewN q) a' w' ∧ n - (intOf (a'.tmps.getD 13 undef)).toNat < n - (intOf ((fr17 (.slice a1 n cap1) (.slice a2 n cap2) n j u).tmps.getD 13 undef)).toNat) := ⟨_, rfl⟩
    have HKR : Hid (∀ (act : Act) (q' : Nat), act = fr17 (.slice a1 n cap1) (.slice a2 n cap2) n (j + 1) (fun i => act.tmps.getD i undef) → j < n → KR act (w.drewN q')) := fun act q' e hjl => by
      rw [hKR]
      refine ⟨⟨_, j + 1, q', e, hjl, rfl⟩, ?_⟩
      have e1 : act.tmps.getD 13 undef = .int .i64 ((j + 1 : Nat) : Int) := by rw [e]; rfl
      have e2 : (fr17 (.slice a1 n cap1) (.slice a2 n cap2) n j u).tmps.getD 13 undef = .int .i64 ((j : Nat) : Int) := rfl
      simp only [e1, e2, intOf]
      omega
    rw [← hKR]
    clear hKR
    have hadd : IntKind.i64.wrap (((j : Nat) : Int) + 1) = (j : Nat) + 1 := by simp [IntKind.wrap, IntKind.bits, IntKind.signed]; omega
    by_cases hjn : j < n
    · have hji : ((j : Nat) : Int) < (n : Nat) := by omega
      obtain ⟨b1, o1, c1, e1, _, _⟩ := H1.out.form (by omega)
      obtain ⟨b2, o2, c2, e2, _, _⟩ := H2.out.form (by omega)
      injection e1 with e1 _ e3
      injection e2 with e2 _ e4
      subst e1; subst e2; subst e3; subst e4
      obtain ⟨r, hr⟩ : ∃ r, rs[j]? = some r := ⟨_, List.getElem?_eq_getElem (by rw [HN.out]; exact hjn)⟩
      obtain ⟨p0, p1, p2, p3⟩ := H1.out.req rfl hr
      obtain ⟨q0, q1, q2, q3⟩ := H2.out.req rfl hr
      clear hr H1 H2
      unfold fr17
      go_wp2_with fail
      go_quiet (fail)
      go_wp2_with fail
      exact HKR.out _ _ (by kernel_rfl) hjn
    · have hji : ¬ ((j : Nat) : Int) < (n : Nat) := by omega
      clear H1 H2
      unfold fr17
      go_wp2_with fail
      go_ret
      exact ⟨rfl, q, rfl⟩
end Go.Proofs.Qxb6500750aDoor
