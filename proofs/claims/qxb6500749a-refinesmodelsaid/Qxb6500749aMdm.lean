import Derived.Test.Qxb6500749aDmo
namespace Go.Proofs.Qxb6500749a
open Go.RowKit
attribute [local go_sem] put_size put_cell_same put_cell_ne put_frozen_same put_frozen_ne put_setCell_same put_setCell_ne put_drew
attribute [local go_sem] drewN_setCell drewN_alloc drewN_put
/-! ### lockstepm.DMA -/
def fr25 (mb tb : Nat) (desc : Int) (va : Option Addr) (gn vc : Nat) (x : Int) (u : Nat → Value) : Act :=
  { tmps := ((.map (some mb)) :: (.int .u32 desc) :: (u 2) :: (u 3) :: (.slice va gn vc) :: (u 5) :: (.pointer (some ⟨tb, 0, none⟩)) :: (u 7) :: (u 8) :: (u 9) :: (u 10) :: (u 11) :: (u 12) :: (u 13) :: (u 14) :: (.int .i64 x) :: (u 16) :: (u 17) :: (u 18) :: (u 19) :: (u 20) :: (u 21) :: (u 22) :: (u 23) :: (u 24) :: (u 25) :: (u 26) :: (u 27) :: (u 28) :: (u 29) :: (u 30) :: (u 31) :: (u 32) :: (u 33) :: (u 34) :: (u 35) :: (u 36) :: (u 37) :: (u 38) :: (u 39) :: (u 40) :: (u 41) :: (u 42) :: (u 43) :: (u 44) :: (u 45) :: (u 46) :: (u 47) :: (u 48) :: (u 49) :: (u 50) :: (u 51) :: (u 52) :: (u 53) :: (u 54) :: (u 55) :: (u 56) :: (u 57) :: (u 58) :: (u 59) :: (u 60) :: (u 61) :: (u 62) :: (u 63) :: (u 64) :: (u 65) :: (u 66) :: (u 67) :: (u 68) :: (u 69) :: (u 70) :: (u 71) :: (u 72) :: (u 73) :: (u 74) :: (u 75) :: (u 76) :: (u 77) :: (u 78) :: (u 79) :: (u 80) :: (u 81) :: (u 82) :: (u 83) :: (u 84) :: (u 85) :: (u 86) :: (u 87) :: (u 88) :: (u 89) :: (u 90) :: (u 91) :: (u 92) :: (u 93) :: (u 94) :: (u 95) :: (u 96) :: (u 97) :: [] : List Value).toArray, defers := [] }
def fr25b (mb tb : Nat) (desc : Int) (va : Option Addr) (gn vc : Nat) (x0 x1 x2 : Int) (i : Nat) (u : Nat → Value) : Act :=
  { tmps := ((.map (some mb)) :: (.int .u32 desc) :: (u 2) :: (u 3) :: (.slice va gn vc) :: (u 5) :: (.pointer (some ⟨tb, 0, none⟩)) :: (u 7) :: (u 8) :: (.int .u32 x0) :: (.int .u32 x1) :: (.int .u32 x2) :: (.int .u32 (i : Nat)) :: (u 13) :: (u 14) :: (u 15) :: (u 16) :: (u 17) :: (u 18) :: (u 19) :: (u 20) :: (u 21) :: (u 22) :: (u 23) :: (u 24) :: (u 25) :: (u 26) :: (u 27) :: (u 28) :: (u 29) :: (u 30) :: (u 31) :: (u 32) :: (u 33) :: (u 34) :: (u 35) :: (u 36) :: (u 37) :: (u 38) :: (u 39) :: (u 40) :: (u 41) :: (u 42) :: (u 43) :: (u 44) :: (u 45) :: (u 46) :: (u 47) :: (u 48) :: (u 49) :: (u 50) :: (u 51) :: (u 52) :: (u 53) :: (u 54) :: (u 55) :: (u 56) :: (u 57) :: (u 58) :: (u 59) :: (u 60) :: (u 61) :: (u 62) :: (u 63) :: (u 64) :: (u 65) :: (u 66) :: (u 67) :: (u 68) :: (u 69) :: (u 70) :: (u 71) :: (u 72) :: (u 73) :: (u 74) :: (u 75) :: (u 76) :: (u 77) :: (u 78) :: (u 79) :: (u 80) :: (u 81) :: (u 82) :: (u 83) :: (u 84) :: (u 85) :: (u 86) :: (u 87) :: (u 88) :: (u 89) :: (u 90) :: (u 91) :: (u 92) :: (u 93) :: (u 94) :: (u 95) :: (u 96) :: (u 97) :: [] : List Value).toArray, defers := [] }
def fr25c (mb tb : Nat) (desc : Int) (va : Option Addr) (gn vc : Nat) (x0 x1 x2 : Int) (u : Nat → Value) : Act :=
  { tmps := ((.map (some mb)) :: (.int .u32 desc) :: (u 2) :: (u 3) :: (.slice va gn vc) :: (u 5) :: (.pointer (some ⟨tb, 0, none⟩)) :: (u 7) :: (u 8) :: (.int .u32 x0) :: (.int .u32 x1) :: (.int .u32 x2) :: (u 12) :: (u 13) :: (u 14) :: (u 15) :: (u 16) :: (u 17) :: (u 18) :: (u 19) :: (u 20) :: (u 21) :: (u 22) :: (u 23) :: (u 24) :: (u 25) :: (u 26) :: (u 27) :: (u 28) :: (u 29) :: (u 30) :: (u 31) :: (u 32) :: (u 33) :: (u 34) :: (u 35) :: (u 36) :: (u 37) :: (u 38) :: (u 39) :: (u 40) :: (u 41) :: (u 42) :: (u 43) :: (u 44) :: (u 45) :: (u 46) :: (u 47) :: (u 48) :: (u 49) :: (u 50) :: (u 51) :: (u 52) :: (u 53) :: (u 54) :: (u 55) :: (u 56) :: (u 57) :: (u 58) :: (u 59) :: (u 60) :: (u 61) :: (u 62) :: (u 63) :: (u 64) :: (u 65) :: (u 66) :: (u 67) :: (u 68) :: (u 69) :: (u 70) :: (u 71) :: (u 72) :: (u 73) :: (u 74) :: (u 75) :: (u 76) :: (u 77) :: (u 78) :: (u 79) :: (u 80) :: (u 81) :: (u 82) :: (u 83) :: (u 84) :: (u 85) :: (u 86) :: (u 87) :: (u 88) :: (u 89) :: (u 90) :: (u 91) :: (u 92) :: (u 93) :: (u 94) :: (u 95) :: (u 96) :: (u 97) :: [] : List Value).toArray, defers := [] }
structure ML (w wr : World) (mb tb : Nat) (A : AS) (v : Value) (ws : Array Value) : Prop where
  fr : Fr (· = mb) w wr
  map : MapB wr mb A.m
  sl : Sl wr v 68 5 A.log.length (A.log.flatMap trow)
  vo : ∀ b, v.ownBlock = some b → w.heap.size ≤ b
  wb : Blk wr tb ws 99
  lm : mb < w.heap.size
  lt : w.heap.size ≤ tb
section
variable {w wr w2 w4 : World} {mb tb : Nat} {A A' : AS} {v v' : Value} {ws : Array Value}
theorem ML.words (h : ML w wr mb tb A v ws) (ws' : Array Value) : ML w (put wr tb ws' 99) mb tb A v ws' := by
  have h1 := h.lt
  have h2 := h.lm
  exact ⟨h.fr.put (fun q => by omega) _ _, h.map.same (put_heap_ne _ _ _ _ _ (by omega)), h.sl.same fun k hk => put_heap_ne _ _ _ _ _ (h.wb.sl_ne (by decide) h.sl k hk), h.vo, Blk.put_same h.wb.lt, h.lm, h.lt⟩
theorem ML.below (h : ML w wr mb tb A v ws) (k : Below wr.heap.size wr w2) : ML w w2 mb tb A v ws :=
  ⟨h.fr.below (k.mono h.fr.size), h.map.same (k.block _ h.map.lt), h.sl.same fun b hb => k.block b (h.sl.lt b hb), h.vo, (k.block _ h.wb.lt).trans h.wb, h.lm, h.lt⟩
theorem ML.push (h : ML w wr mb tb A v ws) (hm : MapB w2 mb A'.m) (hf : Fr (· = mb) wr w2) (cs : Array Value) (l : List Value) {t : TR} (hl : A'.log = A.log ++ [t])
    (hgr : ((w2.alloc (.cells cs 68)).alloc (.cells l.toArray 68)).grownBy w4 v.ownBlock) (hs : Sl w4 v' 68 5 (A.log.length + 1) (A.log.flatMap trow ++ trow t)) (hn : ∀ k, v'.ownBlock = some k → v.ownBlock = some k ∨ ((w2.alloc (.cells cs 68)).alloc (.cells l.toArray 68)).heap.size ≤ k) :
    ML w w4 mb tb A' v' ws ∧ Blk w4 w2.heap.size cs 68 := by
  have s1 := h.fr.size
  have s2 := hf.size
  have h1 := h.lt
  have h2 := h.lm
  have hvlt : ∀ b, v.ownBlock = some b → b < w2.heap.size := fun b hb => Nat.lt_of_lt_of_le (h.sl.lt b hb) s2
  have f3 : Fr (· = mb) w ((w2.alloc (.cells cs 68)).alloc (.cells l.toArray 68)) := ((h.fr.trans hf).alloc _).alloc _
  have key : ∀ b, b < w2.heap.size → v.ownBlock ≠ some b → w4.heap[b]? = w2.heap[b]? := fun b hb hne =>
    (hgr.block b (by simp; omega) (Ne.symm hne)).trans ((Below.heap_alloc _ _ _ (by simp; omega)).trans (Below.heap_alloc _ _ _ hb))
  have hwb2 : Blk w2 tb ws 99 := h.wb.fr hf (by omega)
  refine ⟨⟨⟨hgr.os.trans f3.os, hgr.tape.trans f3.tape, hgr.output.trans f3.output, Nat.le_trans f3.size hgr.size, fun k hk hne => (hgr.block k (Nat.lt_of_lt_of_le hk f3.size) (fun e => by have := h.vo k e.symm; omega)).trans (f3.block k hk hne)⟩, hm.same (key _ hm.lt (fun e => by have := h.vo _ e; omega)), ?_, fun b hb => ?_, (key _ hwb2.lt (fun e => h.wb.sl_ne (by decide) h.sl tb e rfl)).trans hwb2, h.lm, h.lt⟩, ?_⟩
  · rw [hl]
    exact hs.castM (by simp) (by simp)
  · rcases hn b hb with q | q
    · exact h.vo b q
    · simp at q; omega
  · refine (hgr.block _ (by simp; omega) (fun e => by have := hvlt _ e.symm; omega)).trans ((Below.heap_alloc _ _ _ (by simp)).trans (Blk.new w2 cs 68))
end
theorem asN_len (A : AS) : ∀ n, (asN A n).log.length ≤ A.log.length + n
  | 0 => Nat.le_refl _
  | n + 1 => by
    have ih := asN_len A n
    show (asS (asN A n)).log.length ≤ _
    unfold asS
    repeat' split
    · show ((asN A n).log ++ [asT (asN A n)]).length ≤ _
      simp; omega
    · show (asN A n).log.length ≤ _
      omega
    · omega
theorem ra_w32 (desc : Int) (j : Nat) : W32 (ra desc j) := W32.emod _
/-- What the model's DMA leaves. -/
def DMPost (w : World) (mb : Nat) (f : Int → Int) (desc : Int) (e : Ending) (w' : World) : Prop := ∃ (v : Value) (k : Nat), e = .returned (.tuple #[v, .int .u8 (asN (as0 f desc) k).D.st]) ∧ (asN (as0 f desc) k).D.st ≠ 1 ∧ Sl w' v 68 5 (asN (as0 f desc) k).log.length ((asN (as0 f desc) k).log.flatMap trow) ∧ MapB w' mb (asN (as0 f desc) k).m ∧ Fr (· = mb) w w' ∧ (∀ b, v.ownBlock = some b → w.heap.size ≤ b)
theorem ML.post {w wr : World} {mb tb : Nat} {f : Int → Int} {desc : Int} {v : Value} {ws : Array Value} {k : Nat} {st : Int} (h : ML w wr mb tb (asN (as0 f desc) k) v ws) (hs : (asN (as0 f desc) k).D.st = st) (h1 : st ≠ 1) : DMPost w mb f desc (.returned (.tuple #[v, .int .u8 st])) wr :=
  ⟨v, k, by rw [hs], by rw [hs]; exact h1, h.sl, h.map, h.fr, h.vo⟩
/-- The same transfers, though the log's bookkeeping is another. -/
theorem ML.same {w wr : World} {mb tb : Nat} {A A' : AS} {v : Value} {ws : Array Value} (h : ML w wr mb tb A v ws) (h1 : A'.log = A.log) (h2 : A'.m = A.m) : ML w wr mb tb A' v ws :=
  ⟨h.fr, by rw [h2]; exact h.map, by rw [h1]; exact h.sl, h.vo, h.wb, h.lm, h.lt⟩
set_option linter.unusedVariables false in
set_option linter.unusedSimpArgs false in
set_option maxRecDepth 100000 in
set_option maxHeartbeats 16000000 in
theorem dmam_any (mb : Nat) (f : Int → Int) (desc : Int) (hf : ∀ a, W32 (f a)) (hd : W32 desc) (w : World) (h : MapB w mb f) :
    Calls Try.prog 25 #[.map (some mb), .int .u32 desc] w (DMPost w mb f desc) := by
  obtain ⟨AN, hAN⟩ : ∃ AN : Nat → AS, AN = asN (as0 f desc) := ⟨_, rfl⟩
  have HAN := hid_of hAN
  have HFE : Hid (∀ n, n < 4 → (AN n).D.st = 1 → (AN n).m = f ∧ (AN (n + 1)).log = (AN n).log ++ [accT f false (ra desc n) 0] ∧ (AN (n + 1)).m = f ∧ (AN (n + 1)).D.st = if mapF (ra desc n) = true then 1 else 4) := fun n hn hs => by rw [hAN] at hs ⊢; exact fetch_round hf hn hs
  have HLEN : Hid (∀ n, (AN n).log.length ≤ n) := fun n => by rw [hAN]; have := asN_len (as0 f desc) n; simpa [as0] using this
  have HPOST : Hid (∀ (wr : World) (tb : Nat) (v : Value) (ws : Array Value) (k : Nat) (st : Int), ML w wr mb tb (AN k) v ws → (AN k).D.st = st → st ≠ 1 → DMPost w mb f desc (.returned (.tuple #[v, .int .u8 st])) wr) := fun wr tb v ws k st h1 h2 h3 => by rw [hAN] at h1 h2; exact h1.post h2 h3
  have HF := hid_of hf
  have hra0 : desc % 4294967296 = ra desc 0 := by unfold ra; simp
  have hra1 : (desc + 4) % 4294967296 = ra desc 1 := by unfold ra; simp
  have hra2 : (desc + 8) % 4294967296 = ra desc 2 := by unfold ra; simp
  have hra3 : (desc + 12) % 4294967296 = ra desc 3 := by unfold ra; simp
  have HRA : Hid (desc % 4294967296 = ra desc 0 ∧ (desc + 4) % 4294967296 = ra desc 1 ∧ (desc + 8) % 4294967296 = ra desc 2 ∧ (desc + 12) % 4294967296 = ra desc 3) := ⟨hra0, hra1, hra2, hra3⟩
  obtain ⟨W, hW⟩ : ∃ W, w.alloc (.cells #[.int .u32 0, .int .u32 0, .int .u32 0, .int .u32 0] 99) = W := ⟨_, rfl⟩
  have HM0 : Hid (ML w W mb w.heap.size (AN 0) (.slice none 0 0) #[.int .u32 0, .int .u32 0, .int .u32 0, .int .u32 0]) := by
    rw [hAN, ← hW]
    exact ⟨(Fr.refl _ _).alloc _, h.same (Below.heap_alloc _ _ _ h.lt), Sl.nil _ _ _, fun b hb => by simp [Value.ownBlock] at hb, Blk.new _ _ _, h.lt, Nat.le_refl _⟩
  have HS0 : Hid ((AN 0).D.st = 1) := by rw [hAN]; rfl
  obtain ⟨i0, hinf, hz0, hz1, hz2⟩ := info_parts info68
  clear h hf hd hra0 hra1 hra2 hra3 hAN
  go_enter Try.func25, Try.ntmps25
  go_upto_region 2 with fail
  clear hW
  go_wp2_with fail
  refine q_of (Q := fun a => (Code.loop _).wp Try.prog _ a _) (F := fr25 mb w.heap.size desc none 0 0 0) (fun u0 => ?_) _ (by kernel_rfl)
  refine wp_loop (fun act wr => ∃ (u : Nat → Value) (x : Int) (i : Nat) (va : Option Addr) (gn vc : Nat) (y0 y1 y2 y3 : Int), act = fr25 mb w.heap.size desc va gn vc x u ∧ x = (i : Nat) ∧ Hid (ML w wr mb w.heap.size (AN i) (.slice va gn vc) #[.int .u32 y0, .int .u32 y1, .int .u32 y2, .int .u32 y3] ∧ (AN i).D.st = 1 ∧ i ≤ 4 ∧ (AN i).log.length = gn ∧ (0 < i → y0 = f (ra desc 0)) ∧ (1 < i → y1 = f (ra desc 1)) ∧ (2 < i → y2 = f (ra desc 2)) ∧ (3 < i → y3 = f (ra desc 3)))) (fun act _ => 4 - (intOf (act.tmps.getD 15 undef)).toNat) ⟨u0, 0, 0, none, 0, 0, 0, 0, 0, 0, rfl, rfl, HM0.out, HS0.out, by decide, by have := HLEN.out 0; omega, fun q => absurd q (by decide), fun q => absurd q (by decide), fun q => absurd q (by decide), fun q => absurd q (by decide)⟩ ?_
  clear HM0 HS0
  rintro act wr ⟨u, x, i, va, gn, vc, y0, y1, y2, y3, rfl, hxi, HR⟩
  have HML : Hid (ML w wr mb w.heap.size (AN i) (.slice va gn vc) #[.int .u32 y0, .int .u32 y1, .int .u32 y2, .int .u32 y3]) := HR.out.1
  have HST : Hid ((AN i).D.st = 1) := HR.out.2.1
  have HGN_gn : Hid ((AN i).log.length = gn) := HR.out.2.2.2.1
  have HGL_gn : Hid (gn ≤ 100) := by unfold Hid; rw [← HGN_gn.out]; have := HLEN.out i; have := HR.out.2.2.1; omega
  have hcase : i = 0 ∨ i = 1 ∨ i = 2 ∨ i = 3 ∨ i = 4 := by have := HR.out.2.2.1; omega
  rcases hcase with hi | hi | hi | hi | hi
  · subst hi
    have hx : x = 0 := hxi
    subst hx
    clear hxi
    have HX := hid_of (HFE.out 0 (by decide) HST.out)
    obtain ⟨ad, had⟩ : ∃ ad, ra desc 0 = ad := ⟨_, rfl⟩
    have HAD := hid_of had
    have hra : desc % 4294967296 = ad := by rw [← had]; exact HRA.out.1
    have HWA : Hid (W32 ad) := by rw [← had]; exact ra_w32 desc 0
    rw [had] at HX
    clear had
    obtain ⟨KR, hKR⟩ : ∃ KR : Act → World → Prop, KR = fun a' w' => ((fun act wr => ∃ (u : Nat → Value) (x : Int) (i : Nat) (va : Option Addr) (gn vc : Nat) (y0 y1 y2 y3 : Int), act = fr25 mb w.heap.size desc va gn vc x u ∧ x = (i : Nat) ∧ Hid (ML w wr mb w.heap.size (AN i) (.slice va gn vc) #[.int .u32 y0, .int .u32 y1, .int .u32 y2, .int .u32 y3] ∧ (AN i).D.st = 1 ∧ i ≤ 4 ∧ (AN i).log.length = gn ∧ (0 < i → y0 = f (ra desc 0)) ∧ (1 < i → y1 = f (ra desc 1)) ∧ (2 < i → y2 = f (ra desc 2)) ∧ (3 < i → y3 = f (ra desc 3)))) a' w' ∧ 4 - (intOf (a'.tmps.getD 15 undef)).toNat < 4 - (intOf ((fr25 mb w.heap.size desc va gn vc 0 u).tmps.getD 15 undef)).toNat) := ⟨_, rfl⟩
    have HKR : Hid (∀ (act : Act) (w' : World) (va' : Option Addr) (vc' : Nat), act = fr25 mb w.heap.size desc va' (gn + 1) vc' 1 (fun i => act.tmps.getD i undef) → ML w w' mb w.heap.size (AN 1) (.slice va' (gn + 1) vc') #[.int .u32 (f ad), .int .u32 y1, .int .u32 y2, .int .u32 y3] → (AN 1).D.st = 1 → KR act w') := fun act w' va' vc' e h1 h2 => by
      rw [hKR]
      refine ⟨⟨_, 1, 1, va', gn + 1, vc', f ad, y1, y2, y3, e, rfl, h1, h2, by decide, ?_, fun _ => by rw [HAD.out], fun q => absurd q (by decide), fun q => absurd q (by decide), fun q => absurd q (by decide)⟩, ?_⟩
      · rw [HX.out.2.1, List.length_append, HGN_gn.out]; rfl
      · have e1 : act.tmps.getD 15 undef = .int .i64 1 := by rw [e]; rfl
        have e2 : (fr25 mb w.heap.size desc va gn vc 0 u).tmps.getD 15 undef = .int .i64 0 := rfl
        simp only [e1, e2, intOf]
        decide
    rw [← hKR]
    clear hKR
    unfold fr25
    cases hm : mapF ad
    · have hda : True := trivial
      have hT : accT f false ad 0 = ⟨false, ad, 0, true, 0⟩ := by unfold accT; rw [hm]; simp
      have HX2 : Hid ((AN 1).log = (AN 0).log ++ [⟨false, ad, 0, true, 0⟩] ∧ (AN 1).m = f ∧ (AN 0).m = f ∧ (AN 1).D.st = 4) := by
        have := HX.out
        rw [hT, hm] at this
        exact ⟨this.2.1, this.2.2.1, this.1, by rw [this.2.2.2]; rfl⟩
      have HACC : Hid (Calls Try.prog 39 #[.map (some mb), .agg #[.bool false, .int .u32 ad, .int .u32 0]] wr fun e w' => e = .returned (.agg #[.bool false, .int .u32 ad, .int .u32 0, .bool true, .int .u32 0]) ∧ MapB w' mb (AN 1).m ∧ Fr (· = mb) wr w') := by
        have h9 := HML.out.map
        rw [HX2.out.2.2.1] at h9
        have := access_any mb f false ad 0 HWA.out wr h9
        have hM : accM f false ad 0 = f := by unfold accM; rw [if_neg (by simp)]
        rw [hT, hM] at this
        rw [HX2.out.2.1]
        exact this
      skip
      clear hT hm hda HR HX
      go_wp2_with fail
      refine HACC.out.mono ?_
      rintro e w2 ⟨rfl, hm_w2, hf_w2⟩
      obtain ⟨W3, hW_W3⟩ : ∃ W, w2.alloc (.cells #[.bool false, .int .u32 ad, .int .u32 0, .bool true, .int .u32 0] 68) = W := ⟨_, rfl⟩
      have hb_W3 : Blk W3 w2.heap.size #[.bool false, .int .u32 ad, .int .u32 0, .bool true, .int .u32 0] 68 := by rw [← hW_W3]; exact Blk.new _ _ _
      have ck0 : W3.cell? ⟨w2.heap.size, 0, none⟩ = some (.bool false) := hb_W3.cell 0
      have ck1 : W3.cell? ⟨w2.heap.size, 1, none⟩ = some (.int .u32 ad) := hb_W3.cell 1
      have ck2 : W3.cell? ⟨w2.heap.size, 2, none⟩ = some (.int .u32 0) := hb_W3.cell 2
      have ck3 : W3.cell? ⟨w2.heap.size, 3, none⟩ = some (.bool true) := hb_W3.cell 3
      have ck4 : W3.cell? ⟨w2.heap.size, 4, none⟩ = some (.int .u32 0) := hb_W3.cell 4
      have HSW_W3 : Hid (Sl (W3.alloc (.cells [.bool false, .int .u32 ad, .int .u32 0, .bool true, .int .u32 0].toArray 68)) (.slice va gn vc) 68 5 gn ((AN 0).log.flatMap trow)) := by
        rw [← hW_W3]
        have h9 := HML.out.sl
        rw [HGN_gn.out] at h9
        have h8 : Sl w2 (.slice va gn vc) 68 5 gn ((AN 0).log.flatMap trow) := h9.fr hf_w2 fun b hb e => by have := HML.out.vo b hb; have := HML.out.lm; omega
        have h7 := h8.same (w' := w2.alloc (.cells #[.bool false, .int .u32 ad, .int .u32 0, .bool true, .int .u32 0] 68)) fun k hk => Below.heap_alloc _ _ k (h8.lt k hk)
        exact h7.same fun k hk => Below.heap_alloc _ _ k (h7.lt k hk)
      have HM_w2 := hid_of hm_w2
      have HF_w2 := hid_of hf_w2
      have HWW_W3 := hid_of hW_W3
      clear hm_w2 hf_w2 hb_W3 HACC hra hW_W3
      go_upto_region 6 with fail
      rw [HWW_W3.out]
      go_wp2_with (at_builtin; (refine wpList_append_sl _ rfl (.tmp 26) (.tmp 28) 39 rfl 68 i0 (.agg #[.bool false, .int .u32 0, .int .u32 0, .bool false, .int .u32 0]) 5 20 Try.underlying39 hinf hz0 hz1 hz2 rfl (by decide) _ _ _ rfl HSW_W3.out ⟨W3.heap.size, 0, none⟩ 1 1 [.bool false, .int .u32 ad, .int .u32 0, .bool true, .int .u32 0] rfl rfl ?k1 ?k2 ?k3 ?k4 ?_))
      case k1 => exact cells_new _ _ _ _ rfl
      case k2 => intro v hv; simp at hv; rcases hv with rfl | rfl | rfl | rfl | rfl <;> rfl
      case k3 => unfold maxLen; have := HGL_gn.out; omega
      case k4 => have := HGL_gn.out; omega
      intro v' w4 hsl hgr hnew
      obtain ⟨bak, bok, vc2, rfl, hq1, hq2⟩ := hsl.form (by omega)
      obtain ⟨va2, hva2⟩ : ∃ x, some (⟨bak, bok, none⟩ : Addr) = x := ⟨_, rfl⟩
      rw [hva2] at hsl hnew ⊢
      have hpush := ML.push (A' := AN 1) (t := ⟨false, ad, 0, true, 0⟩) HML.out HM_w2.out HF_w2.out #[.bool false, .int .u32 ad, .int .u32 0, .bool true, .int .u32 0] [.bool false, .int .u32 ad, .int .u32 0, .bool true, .int .u32 0] HX2.out.1 (by rw [HWW_W3.out]; exact hgr) (by rw [HGN_gn.out]; exact hsl) (fun k hk => by rw [HWW_W3.out, size_alloc']; exact hnew k hk)
      have HP_w4 := hid_of hpush.1
      have zk3 : w4.cell? ⟨w2.heap.size, 3, none⟩ = some (.bool true) := hpush.2.cell 3
      have zk4 : w4.cell? ⟨w2.heap.size, 4, none⟩ = some (.int .u32 0) := hpush.2.cell 4
      clear hpush hsl hgr hnew hq1 hq2 hva2 HSW_W3 HM_w2 HF_w2 HWW_W3 ck0 ck1 ck2 ck3 ck4
      clear zk4
      go_wp2_with fail
      go_ret2
      exact HPOST.out _ _ _ _ 1 4 HP_w4.out HX2.out.2.2.2 (by decide)
    · obtain ⟨da, hda⟩ : ∃ da, f ad = da := ⟨_, rfl⟩
      have hT : accT f false ad 0 = ⟨false, ad, 0, false, da⟩ := by unfold accT; rw [hm]; simp [hda]
      have HX2 : Hid ((AN 1).log = (AN 0).log ++ [⟨false, ad, 0, false, da⟩] ∧ (AN 1).m = f ∧ (AN 0).m = f ∧ (AN 1).D.st = 1) := by
        have := HX.out
        rw [hT, hm] at this
        exact ⟨this.2.1, this.2.2.1, this.1, by rw [this.2.2.2]; rfl⟩
      have HACC : Hid (Calls Try.prog 39 #[.map (some mb), .agg #[.bool false, .int .u32 ad, .int .u32 0]] wr fun e w' => e = .returned (.agg #[.bool false, .int .u32 ad, .int .u32 0, .bool false, .int .u32 da]) ∧ MapB w' mb (AN 1).m ∧ Fr (· = mb) wr w') := by
        have h9 := HML.out.map
        rw [HX2.out.2.2.1] at h9
        have := access_any mb f false ad 0 HWA.out wr h9
        have hM : accM f false ad 0 = f := by unfold accM; rw [if_neg (by simp)]
        rw [hT, hM] at this
        rw [HX2.out.2.1]
        exact this
      rw [hda] at HKR
      clear hT hm hda HR HX
      go_wp2_with fail
      refine HACC.out.mono ?_
      rintro e w2 ⟨rfl, hm_w2, hf_w2⟩
      obtain ⟨W3, hW_W3⟩ : ∃ W, w2.alloc (.cells #[.bool false, .int .u32 ad, .int .u32 0, .bool false, .int .u32 da] 68) = W := ⟨_, rfl⟩
      have hb_W3 : Blk W3 w2.heap.size #[.bool false, .int .u32 ad, .int .u32 0, .bool false, .int .u32 da] 68 := by rw [← hW_W3]; exact Blk.new _ _ _
      have ck0 : W3.cell? ⟨w2.heap.size, 0, none⟩ = some (.bool false) := hb_W3.cell 0
      have ck1 : W3.cell? ⟨w2.heap.size, 1, none⟩ = some (.int .u32 ad) := hb_W3.cell 1
      have ck2 : W3.cell? ⟨w2.heap.size, 2, none⟩ = some (.int .u32 0) := hb_W3.cell 2
      have ck3 : W3.cell? ⟨w2.heap.size, 3, none⟩ = some (.bool false) := hb_W3.cell 3
      have ck4 : W3.cell? ⟨w2.heap.size, 4, none⟩ = some (.int .u32 da) := hb_W3.cell 4
      have HSW_W3 : Hid (Sl (W3.alloc (.cells [.bool false, .int .u32 ad, .int .u32 0, .bool false, .int .u32 da].toArray 68)) (.slice va gn vc) 68 5 gn ((AN 0).log.flatMap trow)) := by
        rw [← hW_W3]
        have h9 := HML.out.sl
        rw [HGN_gn.out] at h9
        have h8 : Sl w2 (.slice va gn vc) 68 5 gn ((AN 0).log.flatMap trow) := h9.fr hf_w2 fun b hb e => by have := HML.out.vo b hb; have := HML.out.lm; omega
        have h7 := h8.same (w' := w2.alloc (.cells #[.bool false, .int .u32 ad, .int .u32 0, .bool false, .int .u32 da] 68)) fun k hk => Below.heap_alloc _ _ k (h8.lt k hk)
        exact h7.same fun k hk => Below.heap_alloc _ _ k (h7.lt k hk)
      have HM_w2 := hid_of hm_w2
      have HF_w2 := hid_of hf_w2
      have HWW_W3 := hid_of hW_W3
      clear hm_w2 hf_w2 hb_W3 HACC hra hW_W3
      go_upto_region 6 with fail
      rw [HWW_W3.out]
      go_wp2_with (at_builtin; (refine wpList_append_sl _ rfl (.tmp 26) (.tmp 28) 39 rfl 68 i0 (.agg #[.bool false, .int .u32 0, .int .u32 0, .bool false, .int .u32 0]) 5 20 Try.underlying39 hinf hz0 hz1 hz2 rfl (by decide) _ _ _ rfl HSW_W3.out ⟨W3.heap.size, 0, none⟩ 1 1 [.bool false, .int .u32 ad, .int .u32 0, .bool false, .int .u32 da] rfl rfl ?k1 ?k2 ?k3 ?k4 ?_))
      case k1 => exact cells_new _ _ _ _ rfl
      case k2 => intro v hv; simp at hv; rcases hv with rfl | rfl | rfl | rfl | rfl <;> rfl
      case k3 => unfold maxLen; have := HGL_gn.out; omega
      case k4 => have := HGL_gn.out; omega
      intro v' w4 hsl hgr hnew
      obtain ⟨bak, bok, vc2, rfl, hq1, hq2⟩ := hsl.form (by omega)
      obtain ⟨va2, hva2⟩ : ∃ x, some (⟨bak, bok, none⟩ : Addr) = x := ⟨_, rfl⟩
      rw [hva2] at hsl hnew ⊢
      have hpush := ML.push (A' := AN 1) (t := ⟨false, ad, 0, false, da⟩) HML.out HM_w2.out HF_w2.out #[.bool false, .int .u32 ad, .int .u32 0, .bool false, .int .u32 da] [.bool false, .int .u32 ad, .int .u32 0, .bool false, .int .u32 da] HX2.out.1 (by rw [HWW_W3.out]; exact hgr) (by rw [HGN_gn.out]; exact hsl) (fun k hk => by rw [HWW_W3.out, size_alloc']; exact hnew k hk)
      have HP_w4 := hid_of hpush.1
      have zk3 : w4.cell? ⟨w2.heap.size, 3, none⟩ = some (.bool false) := hpush.2.cell 3
      have zk4 : w4.cell? ⟨w2.heap.size, 4, none⟩ = some (.int .u32 da) := hpush.2.cell 4
      clear hpush hsl hgr hnew hq1 hq2 hva2 HSW_W3 HM_w2 HF_w2 HWW_W3 ck0 ck1 ck2 ck3 ck4
      obtain ⟨u9, hu9, hl9⟩ := HP_w4.out.wb.out
      have HP9 : Hid (ML w (put u9 w.heap.size #[.int .u32 da, .int .u32 y1, .int .u32 y2, .int .u32 y3] 99) mb w.heap.size (AN 1) (.slice va2 (gn + 1) vc2) #[.int .u32 da, .int .u32 y1, .int .u32 y2, .int .u32 y3]) := by
        have := HP_w4.out.words #[.int .u32 da, .int .u32 y1, .int .u32 y2, .int .u32 y3]
        rw [hu9, put_put] at this
        exact this
      rw [hu9] at zk3 zk4
      clear HP_w4
      subst hu9
      go_wp2_with fail
      exact HKR.out _ _ _ _ (by kernel_rfl) HP9.out HX2.out.2.2.2
  · subst hi
    have hx : x = 1 := hxi
    subst hx
    clear hxi
    have HX := hid_of (HFE.out 1 (by decide) HST.out)
    obtain ⟨ad, had⟩ : ∃ ad, ra desc 1 = ad := ⟨_, rfl⟩
    have HAD := hid_of had
    have hra : (desc + 4) % 4294967296 = ad := by rw [← had]; exact HRA.out.2.1
    have HWA : Hid (W32 ad) := by rw [← had]; exact ra_w32 desc 1
    rw [had] at HX
    clear had
    obtain ⟨KR, hKR⟩ : ∃ KR : Act → World → Prop, KR = fun a' w' => ((fun act wr => ∃ (u : Nat → Value) (x : Int) (i : Nat) (va : Option Addr) (gn vc : Nat) (y0 y1 y2 y3 : Int), act = fr25 mb w.heap.size desc va gn vc x u ∧ x = (i : Nat) ∧ Hid (ML w wr mb w.heap.size (AN i) (.slice va gn vc) #[.int .u32 y0, .int .u32 y1, .int .u32 y2, .int .u32 y3] ∧ (AN i).D.st = 1 ∧ i ≤ 4 ∧ (AN i).log.length = gn ∧ (0 < i → y0 = f (ra desc 0)) ∧ (1 < i → y1 = f (ra desc 1)) ∧ (2 < i → y2 = f (ra desc 2)) ∧ (3 < i → y3 = f (ra desc 3)))) a' w' ∧ 4 - (intOf (a'.tmps.getD 15 undef)).toNat < 4 - (intOf ((fr25 mb w.heap.size desc va gn vc 1 u).tmps.getD 15 undef)).toNat) := ⟨_, rfl⟩
    have HKR : Hid (∀ (act : Act) (w' : World) (va' : Option Addr) (vc' : Nat), act = fr25 mb w.heap.size desc va' (gn + 1) vc' 2 (fun i => act.tmps.getD i undef) → ML w w' mb w.heap.size (AN 2) (.slice va' (gn + 1) vc') #[.int .u32 y0, .int .u32 (f ad), .int .u32 y2, .int .u32 y3] → (AN 2).D.st = 1 → KR act w') := fun act w' va' vc' e h1 h2 => by
      rw [hKR]
      refine ⟨⟨_, 2, 2, va', gn + 1, vc', y0, f ad, y2, y3, e, rfl, h1, h2, by decide, ?_, fun _ => HR.out.2.2.2.2.1 (by decide), fun _ => by rw [HAD.out], fun q => absurd q (by decide), fun q => absurd q (by decide)⟩, ?_⟩
      · rw [HX.out.2.1, List.length_append, HGN_gn.out]; rfl
      · have e1 : act.tmps.getD 15 undef = .int .i64 2 := by rw [e]; rfl
        have e2 : (fr25 mb w.heap.size desc va gn vc 1 u).tmps.getD 15 undef = .int .i64 1 := rfl
        simp only [e1, e2, intOf]
        decide
    rw [← hKR]
    clear hKR
    unfold fr25
    cases hm : mapF ad
    · have hda : True := trivial
      have hT : accT f false ad 0 = ⟨false, ad, 0, true, 0⟩ := by unfold accT; rw [hm]; simp
      have HX2 : Hid ((AN 2).log = (AN 1).log ++ [⟨false, ad, 0, true, 0⟩] ∧ (AN 2).m = f ∧ (AN 1).m = f ∧ (AN 2).D.st = 4) := by
        have := HX.out
        rw [hT, hm] at this
        exact ⟨this.2.1, this.2.2.1, this.1, by rw [this.2.2.2]; rfl⟩
      have HACC : Hid (Calls Try.prog 39 #[.map (some mb), .agg #[.bool false, .int .u32 ad, .int .u32 0]] wr fun e w' => e = .returned (.agg #[.bool false, .int .u32 ad, .int .u32 0, .bool true, .int .u32 0]) ∧ MapB w' mb (AN 2).m ∧ Fr (· = mb) wr w') := by
        have h9 := HML.out.map
        rw [HX2.out.2.2.1] at h9
        have := access_any mb f false ad 0 HWA.out wr h9
        have hM : accM f false ad 0 = f := by unfold accM; rw [if_neg (by simp)]
        rw [hT, hM] at this
        rw [HX2.out.2.1]
        exact this
      skip
      clear hT hm hda HR HX
      go_wp2_with fail
      refine HACC.out.mono ?_
      rintro e w2 ⟨rfl, hm_w2, hf_w2⟩
      obtain ⟨W3, hW_W3⟩ : ∃ W, w2.alloc (.cells #[.bool false, .int .u32 ad, .int .u32 0, .bool true, .int .u32 0] 68) = W := ⟨_, rfl⟩
      have hb_W3 : Blk W3 w2.heap.size #[.bool false, .int .u32 ad, .int .u32 0, .bool true, .int .u32 0] 68 := by rw [← hW_W3]; exact Blk.new _ _ _
      have ck0 : W3.cell? ⟨w2.heap.size, 0, none⟩ = some (.bool false) := hb_W3.cell 0
      have ck1 : W3.cell? ⟨w2.heap.size, 1, none⟩ = some (.int .u32 ad) := hb_W3.cell 1
      have ck2 : W3.cell? ⟨w2.heap.size, 2, none⟩ = some (.int .u32 0) := hb_W3.cell 2
      have ck3 : W3.cell? ⟨w2.heap.size, 3, none⟩ = some (.bool true) := hb_W3.cell 3
      have ck4 : W3.cell? ⟨w2.heap.size, 4, none⟩ = some (.int .u32 0) := hb_W3.cell 4
      have HSW_W3 : Hid (Sl (W3.alloc (.cells [.bool false, .int .u32 ad, .int .u32 0, .bool true, .int .u32 0].toArray 68)) (.slice va gn vc) 68 5 gn ((AN 1).log.flatMap trow)) := by
        rw [← hW_W3]
        have h9 := HML.out.sl
        rw [HGN_gn.out] at h9
        have h8 : Sl w2 (.slice va gn vc) 68 5 gn ((AN 1).log.flatMap trow) := h9.fr hf_w2 fun b hb e => by have := HML.out.vo b hb; have := HML.out.lm; omega
        have h7 := h8.same (w' := w2.alloc (.cells #[.bool false, .int .u32 ad, .int .u32 0, .bool true, .int .u32 0] 68)) fun k hk => Below.heap_alloc _ _ k (h8.lt k hk)
        exact h7.same fun k hk => Below.heap_alloc _ _ k (h7.lt k hk)
      have HM_w2 := hid_of hm_w2
      have HF_w2 := hid_of hf_w2
      have HWW_W3 := hid_of hW_W3
      clear hm_w2 hf_w2 hb_W3 HACC hra hW_W3
      go_upto_region 6 with fail
      rw [HWW_W3.out]
      go_wp2_with (at_builtin; (refine wpList_append_sl _ rfl (.tmp 26) (.tmp 28) 39 rfl 68 i0 (.agg #[.bool false, .int .u32 0, .int .u32 0, .bool false, .int .u32 0]) 5 20 Try.underlying39 hinf hz0 hz1 hz2 rfl (by decide) _ _ _ rfl HSW_W3.out ⟨W3.heap.size, 0, none⟩ 1 1 [.bool false, .int .u32 ad, .int .u32 0, .bool true, .int .u32 0] rfl rfl ?k1 ?k2 ?k3 ?k4 ?_))
      case k1 => exact cells_new _ _ _ _ rfl
      case k2 => intro v hv; simp at hv; rcases hv with rfl | rfl | rfl | rfl | rfl <;> rfl
      case k3 => unfold maxLen; have := HGL_gn.out; omega
      case k4 => have := HGL_gn.out; omega
      intro v' w4 hsl hgr hnew
      obtain ⟨bak, bok, vc2, rfl, hq1, hq2⟩ := hsl.form (by omega)
      obtain ⟨va2, hva2⟩ : ∃ x, some (⟨bak, bok, none⟩ : Addr) = x := ⟨_, rfl⟩
      rw [hva2] at hsl hnew ⊢
      have hpush := ML.push (A' := AN 2) (t := ⟨false, ad, 0, true, 0⟩) HML.out HM_w2.out HF_w2.out #[.bool false, .int .u32 ad, .int .u32 0, .bool true, .int .u32 0] [.bool false, .int .u32 ad, .int .u32 0, .bool true, .int .u32 0] HX2.out.1 (by rw [HWW_W3.out]; exact hgr) (by rw [HGN_gn.out]; exact hsl) (fun k hk => by rw [HWW_W3.out, size_alloc']; exact hnew k hk)
      have HP_w4 := hid_of hpush.1
      have zk3 : w4.cell? ⟨w2.heap.size, 3, none⟩ = some (.bool true) := hpush.2.cell 3
      have zk4 : w4.cell? ⟨w2.heap.size, 4, none⟩ = some (.int .u32 0) := hpush.2.cell 4
      clear hpush hsl hgr hnew hq1 hq2 hva2 HSW_W3 HM_w2 HF_w2 HWW_W3 ck0 ck1 ck2 ck3 ck4
      clear zk4
      go_wp2_with fail
      go_ret2
      exact HPOST.out _ _ _ _ 2 4 HP_w4.out HX2.out.2.2.2 (by decide)
    · obtain ⟨da, hda⟩ : ∃ da, f ad = da := ⟨_, rfl⟩
      have hT : accT f false ad 0 = ⟨false, ad, 0, false, da⟩ := by unfold accT; rw [hm]; simp [hda]
      have HX2 : Hid ((AN 2).log = (AN 1).log ++ [⟨false, ad, 0, false, da⟩] ∧ (AN 2).m = f ∧ (AN 1).m = f ∧ (AN 2).D.st = 1) := by
        have := HX.out
        rw [hT, hm] at this
        exact ⟨this.2.1, this.2.2.1, this.1, by rw [this.2.2.2]; rfl⟩
      have HACC : Hid (Calls Try.prog 39 #[.map (some mb), .agg #[.bool false, .int .u32 ad, .int .u32 0]] wr fun e w' => e = .returned (.agg #[.bool false, .int .u32 ad, .int .u32 0, .bool false, .int .u32 da]) ∧ MapB w' mb (AN 2).m ∧ Fr (· = mb) wr w') := by
        have h9 := HML.out.map
        rw [HX2.out.2.2.1] at h9
        have := access_any mb f false ad 0 HWA.out wr h9
        have hM : accM f false ad 0 = f := by unfold accM; rw [if_neg (by simp)]
        rw [hT, hM] at this
        rw [HX2.out.2.1]
        exact this
      rw [hda] at HKR
      clear hT hm hda HR HX
      go_wp2_with fail
      refine HACC.out.mono ?_
      rintro e w2 ⟨rfl, hm_w2, hf_w2⟩
      obtain ⟨W3, hW_W3⟩ : ∃ W, w2.alloc (.cells #[.bool false, .int .u32 ad, .int .u32 0, .bool false, .int .u32 da] 68) = W := ⟨_, rfl⟩
      have hb_W3 : Blk W3 w2.heap.size #[.bool false, .int .u32 ad, .int .u32 0, .bool false, .int .u32 da] 68 := by rw [← hW_W3]; exact Blk.new _ _ _
      have ck0 : W3.cell? ⟨w2.heap.size, 0, none⟩ = some (.bool false) := hb_W3.cell 0
      have ck1 : W3.cell? ⟨w2.heap.size, 1, none⟩ = some (.int .u32 ad) := hb_W3.cell 1
      have ck2 : W3.cell? ⟨w2.heap.size, 2, none⟩ = some (.int .u32 0) := hb_W3.cell 2
      have ck3 : W3.cell? ⟨w2.heap.size, 3, none⟩ = some (.bool false) := hb_W3.cell 3
      have ck4 : W3.cell? ⟨w2.heap.size, 4, none⟩ = some (.int .u32 da) := hb_W3.cell 4
      have HSW_W3 : Hid (Sl (W3.alloc (.cells [.bool false, .int .u32 ad, .int .u32 0, .bool false, .int .u32 da].toArray 68)) (.slice va gn vc) 68 5 gn ((AN 1).log.flatMap trow)) := by
        rw [← hW_W3]
        have h9 := HML.out.sl
        rw [HGN_gn.out] at h9
        have h8 : Sl w2 (.slice va gn vc) 68 5 gn ((AN 1).log.flatMap trow) := h9.fr hf_w2 fun b hb e => by have := HML.out.vo b hb; have := HML.out.lm; omega
        have h7 := h8.same (w' := w2.alloc (.cells #[.bool false, .int .u32 ad, .int .u32 0, .bool false, .int .u32 da] 68)) fun k hk => Below.heap_alloc _ _ k (h8.lt k hk)
        exact h7.same fun k hk => Below.heap_alloc _ _ k (h7.lt k hk)
      have HM_w2 := hid_of hm_w2
      have HF_w2 := hid_of hf_w2
      have HWW_W3 := hid_of hW_W3
      clear hm_w2 hf_w2 hb_W3 HACC hra hW_W3
      go_upto_region 6 with fail
      rw [HWW_W3.out]
      go_wp2_with (at_builtin; (refine wpList_append_sl _ rfl (.tmp 26) (.tmp 28) 39 rfl 68 i0 (.agg #[.bool false, .int .u32 0, .int .u32 0, .bool false, .int .u32 0]) 5 20 Try.underlying39 hinf hz0 hz1 hz2 rfl (by decide) _ _ _ rfl HSW_W3.out ⟨W3.heap.size, 0, none⟩ 1 1 [.bool false, .int .u32 ad, .int .u32 0, .bool false, .int .u32 da] rfl rfl ?k1 ?k2 ?k3 ?k4 ?_))
      case k1 => exact cells_new _ _ _ _ rfl
      case k2 => intro v hv; simp at hv; rcases hv with rfl | rfl | rfl | rfl | rfl <;> rfl
      case k3 => unfold maxLen; have := HGL_gn.out; omega
      case k4 => have := HGL_gn.out; omega
      intro v' w4 hsl hgr hnew
      obtain ⟨bak, bok, vc2, rfl, hq1, hq2⟩ := hsl.form (by omega)
      obtain ⟨va2, hva2⟩ : ∃ x, some (⟨bak, bok, none⟩ : Addr) = x := ⟨_, rfl⟩
      rw [hva2] at hsl hnew ⊢
      have hpush := ML.push (A' := AN 2) (t := ⟨false, ad, 0, false, da⟩) HML.out HM_w2.out HF_w2.out #[.bool false, .int .u32 ad, .int .u32 0, .bool false, .int .u32 da] [.bool false, .int .u32 ad, .int .u32 0, .bool false, .int .u32 da] HX2.out.1 (by rw [HWW_W3.out]; exact hgr) (by rw [HGN_gn.out]; exact hsl) (fun k hk => by rw [HWW_W3.out, size_alloc']; exact hnew k hk)
      have HP_w4 := hid_of hpush.1
      have zk3 : w4.cell? ⟨w2.heap.size, 3, none⟩ = some (.bool false) := hpush.2.cell 3
      have zk4 : w4.cell? ⟨w2.heap.size, 4, none⟩ = some (.int .u32 da) := hpush.2.cell 4
      clear hpush hsl hgr hnew hq1 hq2 hva2 HSW_W3 HM_w2 HF_w2 HWW_W3 ck0 ck1 ck2 ck3 ck4
      obtain ⟨u9, hu9, hl9⟩ := HP_w4.out.wb.out
      have HP9 : Hid (ML w (put u9 w.heap.size #[.int .u32 y0, .int .u32 da, .int .u32 y2, .int .u32 y3] 99) mb w.heap.size (AN 2) (.slice va2 (gn + 1) vc2) #[.int .u32 y0, .int .u32 da, .int .u32 y2, .int .u32 y3]) := by
        have := HP_w4.out.words #[.int .u32 y0, .int .u32 da, .int .u32 y2, .int .u32 y3]
        rw [hu9, put_put] at this
        exact this
      rw [hu9] at zk3 zk4
      clear HP_w4
      subst hu9
      go_wp2_with fail
      exact HKR.out _ _ _ _ (by kernel_rfl) HP9.out HX2.out.2.2.2
  · subst hi
    have hx : x = 2 := hxi
    subst hx
    clear hxi
    have HX := hid_of (HFE.out 2 (by decide) HST.out)
    obtain ⟨ad, had⟩ : ∃ ad, ra desc 2 = ad := ⟨_, rfl⟩
    have HAD := hid_of had
    have hra : (desc + 8) % 4294967296 = ad := by rw [← had]; exact HRA.out.2.2.1
    have HWA : Hid (W32 ad) := by rw [← had]; exact ra_w32 desc 2
    rw [had] at HX
    clear had
    obtain ⟨KR, hKR⟩ : ∃ KR : Act → World → Prop, KR = fun a' w' => ((fun act wr => ∃ (u : Nat → Value) (x : Int) (i : Nat) (va : Option Addr) (gn vc : Nat) (y0 y1 y2 y3 : Int), act = fr25 mb w.heap.size desc va gn vc x u ∧ x = (i : Nat) ∧ Hid (ML w wr mb w.heap.size (AN i) (.slice va gn vc) #[.int .u32 y0, .int .u32 y1, .int .u32 y2, .int .u32 y3] ∧ (AN i).D.st = 1 ∧ i ≤ 4 ∧ (AN i).log.length = gn ∧ (0 < i → y0 = f (ra desc 0)) ∧ (1 < i → y1 = f (ra desc 1)) ∧ (2 < i → y2 = f (ra desc 2)) ∧ (3 < i → y3 = f (ra desc 3)))) a' w' ∧ 4 - (intOf (a'.tmps.getD 15 undef)).toNat < 4 - (intOf ((fr25 mb w.heap.size desc va gn vc 2 u).tmps.getD 15 undef)).toNat) := ⟨_, rfl⟩
    have HKR : Hid (∀ (act : Act) (w' : World) (va' : Option Addr) (vc' : Nat), act = fr25 mb w.heap.size desc va' (gn + 1) vc' 3 (fun i => act.tmps.getD i undef) → ML w w' mb w.heap.size (AN 3) (.slice va' (gn + 1) vc') #[.int .u32 y0, .int .u32 y1, .int .u32 (f ad), .int .u32 y3] → (AN 3).D.st = 1 → KR act w') := fun act w' va' vc' e h1 h2 => by
      rw [hKR]
      refine ⟨⟨_, 3, 3, va', gn + 1, vc', y0, y1, f ad, y3, e, rfl, h1, h2, by decide, ?_, fun _ => HR.out.2.2.2.2.1 (by decide), fun _ => HR.out.2.2.2.2.2.1 (by decide), fun _ => by rw [HAD.out], fun q => absurd q (by decide)⟩, ?_⟩
      · rw [HX.out.2.1, List.length_append, HGN_gn.out]; rfl
      · have e1 : act.tmps.getD 15 undef = .int .i64 3 := by rw [e]; rfl
        have e2 : (fr25 mb w.heap.size desc va gn vc 2 u).tmps.getD 15 undef = .int .i64 2 := rfl
        simp only [e1, e2, intOf]
        decide
    rw [← hKR]
    clear hKR
    unfold fr25
    cases hm : mapF ad
    · have hda : True := trivial
      have hT : accT f false ad 0 = ⟨false, ad, 0, true, 0⟩ := by unfold accT; rw [hm]; simp
      have HX2 : Hid ((AN 3).log = (AN 2).log ++ [⟨false, ad, 0, true, 0⟩] ∧ (AN 3).m = f ∧ (AN 2).m = f ∧ (AN 3).D.st = 4) := by
        have := HX.out
        rw [hT, hm] at this
        exact ⟨this.2.1, this.2.2.1, this.1, by rw [this.2.2.2]; rfl⟩
      have HACC : Hid (Calls Try.prog 39 #[.map (some mb), .agg #[.bool false, .int .u32 ad, .int .u32 0]] wr fun e w' => e = .returned (.agg #[.bool false, .int .u32 ad, .int .u32 0, .bool true, .int .u32 0]) ∧ MapB w' mb (AN 3).m ∧ Fr (· = mb) wr w') := by
        have h9 := HML.out.map
        rw [HX2.out.2.2.1] at h9
        have := access_any mb f false ad 0 HWA.out wr h9
        have hM : accM f false ad 0 = f := by unfold accM; rw [if_neg (by simp)]
        rw [hT, hM] at this
        rw [HX2.out.2.1]
        exact this
      skip
      clear hT hm hda HR HX
      go_wp2_with fail
      refine HACC.out.mono ?_
      rintro e w2 ⟨rfl, hm_w2, hf_w2⟩
      obtain ⟨W3, hW_W3⟩ : ∃ W, w2.alloc (.cells #[.bool false, .int .u32 ad, .int .u32 0, .bool true, .int .u32 0] 68) = W := ⟨_, rfl⟩
      have hb_W3 : Blk W3 w2.heap.size #[.bool false, .int .u32 ad, .int .u32 0, .bool true, .int .u32 0] 68 := by rw [← hW_W3]; exact Blk.new _ _ _
      have ck0 : W3.cell? ⟨w2.heap.size, 0, none⟩ = some (.bool false) := hb_W3.cell 0
      have ck1 : W3.cell? ⟨w2.heap.size, 1, none⟩ = some (.int .u32 ad) := hb_W3.cell 1
      have ck2 : W3.cell? ⟨w2.heap.size, 2, none⟩ = some (.int .u32 0) := hb_W3.cell 2
      have ck3 : W3.cell? ⟨w2.heap.size, 3, none⟩ = some (.bool true) := hb_W3.cell 3
      have ck4 : W3.cell? ⟨w2.heap.size, 4, none⟩ = some (.int .u32 0) := hb_W3.cell 4
      have HSW_W3 : Hid (Sl (W3.alloc (.cells [.bool false, .int .u32 ad, .int .u32 0, .bool true, .int .u32 0].toArray 68)) (.slice va gn vc) 68 5 gn ((AN 2).log.flatMap trow)) := by
        rw [← hW_W3]
        have h9 := HML.out.sl
        rw [HGN_gn.out] at h9
        have h8 : Sl w2 (.slice va gn vc) 68 5 gn ((AN 2).log.flatMap trow) := h9.fr hf_w2 fun b hb e => by have := HML.out.vo b hb; have := HML.out.lm; omega
        have h7 := h8.same (w' := w2.alloc (.cells #[.bool false, .int .u32 ad, .int .u32 0, .bool true, .int .u32 0] 68)) fun k hk => Below.heap_alloc _ _ k (h8.lt k hk)
        exact h7.same fun k hk => Below.heap_alloc _ _ k (h7.lt k hk)
      have HM_w2 := hid_of hm_w2
      have HF_w2 := hid_of hf_w2
      have HWW_W3 := hid_of hW_W3
      clear hm_w2 hf_w2 hb_W3 HACC hra hW_W3
      go_upto_region 6 with fail
      rw [HWW_W3.out]
      go_wp2_with (at_builtin; (refine wpList_append_sl _ rfl (.tmp 26) (.tmp 28) 39 rfl 68 i0 (.agg #[.bool false, .int .u32 0, .int .u32 0, .bool false, .int .u32 0]) 5 20 Try.underlying39 hinf hz0 hz1 hz2 rfl (by decide) _ _ _ rfl HSW_W3.out ⟨W3.heap.size, 0, none⟩ 1 1 [.bool false, .int .u32 ad, .int .u32 0, .bool true, .int .u32 0] rfl rfl ?k1 ?k2 ?k3 ?k4 ?_))
      case k1 => exact cells_new _ _ _ _ rfl
      case k2 => intro v hv; simp at hv; rcases hv with rfl | rfl | rfl | rfl | rfl <;> rfl
      case k3 => unfold maxLen; have := HGL_gn.out; omega
      case k4 => have := HGL_gn.out; omega
      intro v' w4 hsl hgr hnew
      obtain ⟨bak, bok, vc2, rfl, hq1, hq2⟩ := hsl.form (by omega)
      obtain ⟨va2, hva2⟩ : ∃ x, some (⟨bak, bok, none⟩ : Addr) = x := ⟨_, rfl⟩
      rw [hva2] at hsl hnew ⊢
      have hpush := ML.push (A' := AN 3) (t := ⟨false, ad, 0, true, 0⟩) HML.out HM_w2.out HF_w2.out #[.bool false, .int .u32 ad, .int .u32 0, .bool true, .int .u32 0] [.bool false, .int .u32 ad, .int .u32 0, .bool true, .int .u32 0] HX2.out.1 (by rw [HWW_W3.out]; exact hgr) (by rw [HGN_gn.out]; exact hsl) (fun k hk => by rw [HWW_W3.out, size_alloc']; exact hnew k hk)
      have HP_w4 := hid_of hpush.1
      have zk3 : w4.cell? ⟨w2.heap.size, 3, none⟩ = some (.bool true) := hpush.2.cell 3
      have zk4 : w4.cell? ⟨w2.heap.size, 4, none⟩ = some (.int .u32 0) := hpush.2.cell 4
      clear hpush hsl hgr hnew hq1 hq2 hva2 HSW_W3 HM_w2 HF_w2 HWW_W3 ck0 ck1 ck2 ck3 ck4
      clear zk4
      go_wp2_with fail
      go_ret2
      exact HPOST.out _ _ _ _ 3 4 HP_w4.out HX2.out.2.2.2 (by decide)
    · obtain ⟨da, hda⟩ : ∃ da, f ad = da := ⟨_, rfl⟩
      have hT : accT f false ad 0 = ⟨false, ad, 0, false, da⟩ := by unfold accT; rw [hm]; simp [hda]
      have HX2 : Hid ((AN 3).log = (AN 2).log ++ [⟨false, ad, 0, false, da⟩] ∧ (AN 3).m = f ∧ (AN 2).m = f ∧ (AN 3).D.st = 1) := by
        have := HX.out
        rw [hT, hm] at this
        exact ⟨this.2.1, this.2.2.1, this.1, by rw [this.2.2.2]; rfl⟩
      have HACC : Hid (Calls Try.prog 39 #[.map (some mb), .agg #[.bool false, .int .u32 ad, .int .u32 0]] wr fun e w' => e = .returned (.agg #[.bool false, .int .u32 ad, .int .u32 0, .bool false, .int .u32 da]) ∧ MapB w' mb (AN 3).m ∧ Fr (· = mb) wr w') := by
        have h9 := HML.out.map
        rw [HX2.out.2.2.1] at h9
        have := access_any mb f false ad 0 HWA.out wr h9
        have hM : accM f false ad 0 = f := by unfold accM; rw [if_neg (by simp)]
        rw [hT, hM] at this
        rw [HX2.out.2.1]
        exact this
      rw [hda] at HKR
      clear hT hm hda HR HX
      go_wp2_with fail
      refine HACC.out.mono ?_
      rintro e w2 ⟨rfl, hm_w2, hf_w2⟩
      obtain ⟨W3, hW_W3⟩ : ∃ W, w2.alloc (.cells #[.bool false, .int .u32 ad, .int .u32 0, .bool false, .int .u32 da] 68) = W := ⟨_, rfl⟩
      have hb_W3 : Blk W3 w2.heap.size #[.bool false, .int .u32 ad, .int .u32 0, .bool false, .int .u32 da] 68 := by rw [← hW_W3]; exact Blk.new _ _ _
      have ck0 : W3.cell? ⟨w2.heap.size, 0, none⟩ = some (.bool false) := hb_W3.cell 0
      have ck1 : W3.cell? ⟨w2.heap.size, 1, none⟩ = some (.int .u32 ad) := hb_W3.cell 1
      have ck2 : W3.cell? ⟨w2.heap.size, 2, none⟩ = some (.int .u32 0) := hb_W3.cell 2
      have ck3 : W3.cell? ⟨w2.heap.size, 3, none⟩ = some (.bool false) := hb_W3.cell 3
      have ck4 : W3.cell? ⟨w2.heap.size, 4, none⟩ = some (.int .u32 da) := hb_W3.cell 4
      have HSW_W3 : Hid (Sl (W3.alloc (.cells [.bool false, .int .u32 ad, .int .u32 0, .bool false, .int .u32 da].toArray 68)) (.slice va gn vc) 68 5 gn ((AN 2).log.flatMap trow)) := by
        rw [← hW_W3]
        have h9 := HML.out.sl
        rw [HGN_gn.out] at h9
        have h8 : Sl w2 (.slice va gn vc) 68 5 gn ((AN 2).log.flatMap trow) := h9.fr hf_w2 fun b hb e => by have := HML.out.vo b hb; have := HML.out.lm; omega
        have h7 := h8.same (w' := w2.alloc (.cells #[.bool false, .int .u32 ad, .int .u32 0, .bool false, .int .u32 da] 68)) fun k hk => Below.heap_alloc _ _ k (h8.lt k hk)
        exact h7.same fun k hk => Below.heap_alloc _ _ k (h7.lt k hk)
      have HM_w2 := hid_of hm_w2
      have HF_w2 := hid_of hf_w2
      have HWW_W3 := hid_of hW_W3
      clear hm_w2 hf_w2 hb_W3 HACC hra hW_W3
      go_upto_region 6 with fail
      rw [HWW_W3.out]
      go_wp2_with (at_builtin; (refine wpList_append_sl _ rfl (.tmp 26) (.tmp 28) 39 rfl 68 i0 (.agg #[.bool false, .int .u32 0, .int .u32 0, .bool false, .int .u32 0]) 5 20 Try.underlying39 hinf hz0 hz1 hz2 rfl (by decide) _ _ _ rfl HSW_W3.out ⟨W3.heap.size, 0, none⟩ 1 1 [.bool false, .int .u32 ad, .int .u32 0, .bool false, .int .u32 da] rfl rfl ?k1 ?k2 ?k3 ?k4 ?_))
      case k1 => exact cells_new _ _ _ _ rfl
      case k2 => intro v hv; simp at hv; rcases hv with rfl | rfl | rfl | rfl | rfl <;> rfl
      case k3 => unfold maxLen; have := HGL_gn.out; omega
      case k4 => have := HGL_gn.out; omega
      intro v' w4 hsl hgr hnew
      obtain ⟨bak, bok, vc2, rfl, hq1, hq2⟩ := hsl.form (by omega)
      obtain ⟨va2, hva2⟩ : ∃ x, some (⟨bak, bok, none⟩ : Addr) = x := ⟨_, rfl⟩
      rw [hva2] at hsl hnew ⊢
      have hpush := ML.push (A' := AN 3) (t := ⟨false, ad, 0, false, da⟩) HML.out HM_w2.out HF_w2.out #[.bool false, .int .u32 ad, .int .u32 0, .bool false, .int .u32 da] [.bool false, .int .u32 ad, .int .u32 0, .bool false, .int .u32 da] HX2.out.1 (by rw [HWW_W3.out]; exact hgr) (by rw [HGN_gn.out]; exact hsl) (fun k hk => by rw [HWW_W3.out, size_alloc']; exact hnew k hk)
      have HP_w4 := hid_of hpush.1
      have zk3 : w4.cell? ⟨w2.heap.size, 3, none⟩ = some (.bool false) := hpush.2.cell 3
      have zk4 : w4.cell? ⟨w2.heap.size, 4, none⟩ = some (.int .u32 da) := hpush.2.cell 4
      clear hpush hsl hgr hnew hq1 hq2 hva2 HSW_W3 HM_w2 HF_w2 HWW_W3 ck0 ck1 ck2 ck3 ck4
      obtain ⟨u9, hu9, hl9⟩ := HP_w4.out.wb.out
      have HP9 : Hid (ML w (put u9 w.heap.size #[.int .u32 y0, .int .u32 y1, .int .u32 da, .int .u32 y3] 99) mb w.heap.size (AN 3) (.slice va2 (gn + 1) vc2) #[.int .u32 y0, .int .u32 y1, .int .u32 da, .int .u32 y3]) := by
        have := HP_w4.out.words #[.int .u32 y0, .int .u32 y1, .int .u32 da, .int .u32 y3]
        rw [hu9, put_put] at this
        exact this
      rw [hu9] at zk3 zk4
      clear HP_w4
      subst hu9
      go_wp2_with fail
      exact HKR.out _ _ _ _ (by kernel_rfl) HP9.out HX2.out.2.2.2
  · subst hi
    have hx : x = 3 := hxi
    subst hx
    clear hxi
    have HX := hid_of (HFE.out 3 (by decide) HST.out)
    obtain ⟨ad, had⟩ : ∃ ad, ra desc 3 = ad := ⟨_, rfl⟩
    have HAD := hid_of had
    have hra : (desc + 12) % 4294967296 = ad := by rw [← had]; exact HRA.out.2.2.2
    have HWA : Hid (W32 ad) := by rw [← had]; exact ra_w32 desc 3
    rw [had] at HX
    clear had
    obtain ⟨KR, hKR⟩ : ∃ KR : Act → World → Prop, KR = fun a' w' => ((fun act wr => ∃ (u : Nat → Value) (x : Int) (i : Nat) (va : Option Addr) (gn vc : Nat) (y0 y1 y2 y3 : Int), act = fr25 mb w.heap.size desc va gn vc x u ∧ x = (i : Nat) ∧ Hid (ML w wr mb w.heap.size (AN i) (.slice va gn vc) #[.int .u32 y0, .int .u32 y1, .int .u32 y2, .int .u32 y3] ∧ (AN i).D.st = 1 ∧ i ≤ 4 ∧ (AN i).log.length = gn ∧ (0 < i → y0 = f (ra desc 0)) ∧ (1 < i → y1 = f (ra desc 1)) ∧ (2 < i → y2 = f (ra desc 2)) ∧ (3 < i → y3 = f (ra desc 3)))) a' w' ∧ 4 - (intOf (a'.tmps.getD 15 undef)).toNat < 4 - (intOf ((fr25 mb w.heap.size desc va gn vc 3 u).tmps.getD 15 undef)).toNat) := ⟨_, rfl⟩
    have HKR : Hid (∀ (act : Act) (w' : World) (va' : Option Addr) (vc' : Nat), act = fr25 mb w.heap.size desc va' (gn + 1) vc' 4 (fun i => act.tmps.getD i undef) → ML w w' mb w.heap.size (AN 4) (.slice va' (gn + 1) vc') #[.int .u32 y0, .int .u32 y1, .int .u32 y2, .int .u32 (f ad)] → (AN 4).D.st = 1 → KR act w') := fun act w' va' vc' e h1 h2 => by
      rw [hKR]
      refine ⟨⟨_, 4, 4, va', gn + 1, vc', y0, y1, y2, f ad, e, rfl, h1, h2, by decide, ?_, fun _ => HR.out.2.2.2.2.1 (by decide), fun _ => HR.out.2.2.2.2.2.1 (by decide), fun _ => HR.out.2.2.2.2.2.2.1 (by decide), fun _ => by rw [HAD.out]⟩, ?_⟩
      · rw [HX.out.2.1, List.length_append, HGN_gn.out]; rfl
      · have e1 : act.tmps.getD 15 undef = .int .i64 4 := by rw [e]; rfl
        have e2 : (fr25 mb w.heap.size desc va gn vc 3 u).tmps.getD 15 undef = .int .i64 3 := rfl
        simp only [e1, e2, intOf]
        decide
    rw [← hKR]
    clear hKR
    unfold fr25
    cases hm : mapF ad
    · have hda : True := trivial
      have hT : accT f false ad 0 = ⟨false, ad, 0, true, 0⟩ := by unfold accT; rw [hm]; simp
      have HX2 : Hid ((AN 4).log = (AN 3).log ++ [⟨false, ad, 0, true, 0⟩] ∧ (AN 4).m = f ∧ (AN 3).m = f ∧ (AN 4).D.st = 4) := by
        have := HX.out
        rw [hT, hm] at this
        exact ⟨this.2.1, this.2.2.1, this.1, by rw [this.2.2.2]; rfl⟩
      have HACC : Hid (Calls Try.prog 39 #[.map (some mb), .agg #[.bool false, .int .u32 ad, .int .u32 0]] wr fun e w' => e = .returned (.agg #[.bool false, .int .u32 ad, .int .u32 0, .bool true, .int .u32 0]) ∧ MapB w' mb (AN 4).m ∧ Fr (· = mb) wr w') := by
        have h9 := HML.out.map
        rw [HX2.out.2.2.1] at h9
        have := access_any mb f false ad 0 HWA.out wr h9
        have hM : accM f false ad 0 = f := by unfold accM; rw [if_neg (by simp)]
        rw [hT, hM] at this
        rw [HX2.out.2.1]
        exact this
      skip
      clear hT hm hda HR HX
      go_wp2_with fail
      refine HACC.out.mono ?_
      rintro e w2 ⟨rfl, hm_w2, hf_w2⟩
      obtain ⟨W3, hW_W3⟩ : ∃ W, w2.alloc (.cells #[.bool false, .int .u32 ad, .int .u32 0, .bool true, .int .u32 0] 68) = W := ⟨_, rfl⟩
      have hb_W3 : Blk W3 w2.heap.size #[.bool false, .int .u32 ad, .int .u32 0, .bool true, .int .u32 0] 68 := by rw [← hW_W3]; exact Blk.new _ _ _
      have ck0 : W3.cell? ⟨w2.heap.size, 0, none⟩ = some (.bool false) := hb_W3.cell 0
      have ck1 : W3.cell? ⟨w2.heap.size, 1, none⟩ = some (.int .u32 ad) := hb_W3.cell 1
      have ck2 : W3.cell? ⟨w2.heap.size, 2, none⟩ = some (.int .u32 0) := hb_W3.cell 2
      have ck3 : W3.cell? ⟨w2.heap.size, 3, none⟩ = some (.bool true) := hb_W3.cell 3
      have ck4 : W3.cell? ⟨w2.heap.size, 4, none⟩ = some (.int .u32 0) := hb_W3.cell 4
      have HSW_W3 : Hid (Sl (W3.alloc (.cells [.bool false, .int .u32 ad, .int .u32 0, .bool true, .int .u32 0].toArray 68)) (.slice va gn vc) 68 5 gn ((AN 3).log.flatMap trow)) := by
        rw [← hW_W3]
        have h9 := HML.out.sl
        rw [HGN_gn.out] at h9
        have h8 : Sl w2 (.slice va gn vc) 68 5 gn ((AN 3).log.flatMap trow) := h9.fr hf_w2 fun b hb e => by have := HML.out.vo b hb; have := HML.out.lm; omega
        have h7 := h8.same (w' := w2.alloc (.cells #[.bool false, .int .u32 ad, .int .u32 0, .bool true, .int .u32 0] 68)) fun k hk => Below.heap_alloc _ _ k (h8.lt k hk)
        exact h7.same fun k hk => Below.heap_alloc _ _ k (h7.lt k hk)
      have HM_w2 := hid_of hm_w2
      have HF_w2 := hid_of hf_w2
      have HWW_W3 := hid_of hW_W3
      clear hm_w2 hf_w2 hb_W3 HACC hra hW_W3
      go_upto_region 6 with fail
      rw [HWW_W3.out]
      go_wp2_with (at_builtin; (refine wpList_append_sl _ rfl (.tmp 26) (.tmp 28) 39 rfl 68 i0 (.agg #[.bool false, .int .u32 0, .int .u32 0, .bool false, .int .u32 0]) 5 20 Try.underlying39 hinf hz0 hz1 hz2 rfl (by decide) _ _ _ rfl HSW_W3.out ⟨W3.heap.size, 0, none⟩ 1 1 [.bool false, .int .u32 ad, .int .u32 0, .bool true, .int .u32 0] rfl rfl ?k1 ?k2 ?k3 ?k4 ?_))
      case k1 => exact cells_new _ _ _ _ rfl
      case k2 => intro v hv; simp at hv; rcases hv with rfl | rfl | rfl | rfl | rfl <;> rfl
      case k3 => unfold maxLen; have := HGL_gn.out; omega
      case k4 => have := HGL_gn.out; omega
      intro v' w4 hsl hgr hnew
      obtain ⟨bak, bok, vc2, rfl, hq1, hq2⟩ := hsl.form (by omega)
      obtain ⟨va2, hva2⟩ : ∃ x, some (⟨bak, bok, none⟩ : Addr) = x := ⟨_, rfl⟩
      rw [hva2] at hsl hnew ⊢
      have hpush := ML.push (A' := AN 4) (t := ⟨false, ad, 0, true, 0⟩) HML.out HM_w2.out HF_w2.out #[.bool false, .int .u32 ad, .int .u32 0, .bool true, .int .u32 0] [.bool false, .int .u32 ad, .int .u32 0, .bool true, .int .u32 0] HX2.out.1 (by rw [HWW_W3.out]; exact hgr) (by rw [HGN_gn.out]; exact hsl) (fun k hk => by rw [HWW_W3.out, size_alloc']; exact hnew k hk)
      have HP_w4 := hid_of hpush.1
      have zk3 : w4.cell? ⟨w2.heap.size, 3, none⟩ = some (.bool true) := hpush.2.cell 3
      have zk4 : w4.cell? ⟨w2.heap.size, 4, none⟩ = some (.int .u32 0) := hpush.2.cell 4
      clear hpush hsl hgr hnew hq1 hq2 hva2 HSW_W3 HM_w2 HF_w2 HWW_W3 ck0 ck1 ck2 ck3 ck4
      clear zk4
      go_wp2_with fail
      go_ret2
      exact HPOST.out _ _ _ _ 4 4 HP_w4.out HX2.out.2.2.2 (by decide)
    · obtain ⟨da, hda⟩ : ∃ da, f ad = da := ⟨_, rfl⟩
      have hT : accT f false ad 0 = ⟨false, ad, 0, false, da⟩ := by unfold accT; rw [hm]; simp [hda]
      have HX2 : Hid ((AN 4).log = (AN 3).log ++ [⟨false, ad, 0, false, da⟩] ∧ (AN 4).m = f ∧ (AN 3).m = f ∧ (AN 4).D.st = 1) := by
        have := HX.out
        rw [hT, hm] at this
        exact ⟨this.2.1, this.2.2.1, this.1, by rw [this.2.2.2]; rfl⟩
      have HACC : Hid (Calls Try.prog 39 #[.map (some mb), .agg #[.bool false, .int .u32 ad, .int .u32 0]] wr fun e w' => e = .returned (.agg #[.bool false, .int .u32 ad, .int .u32 0, .bool false, .int .u32 da]) ∧ MapB w' mb (AN 4).m ∧ Fr (· = mb) wr w') := by
        have h9 := HML.out.map
        rw [HX2.out.2.2.1] at h9
        have := access_any mb f false ad 0 HWA.out wr h9
        have hM : accM f false ad 0 = f := by unfold accM; rw [if_neg (by simp)]
        rw [hT, hM] at this
        rw [HX2.out.2.1]
        exact this
      rw [hda] at HKR
      clear hT hm hda HR HX
      go_wp2_with fail
      refine HACC.out.mono ?_
      rintro e w2 ⟨rfl, hm_w2, hf_w2⟩
      obtain ⟨W3, hW_W3⟩ : ∃ W, w2.alloc (.cells #[.bool false, .int .u32 ad, .int .u32 0, .bool false, .int .u32 da] 68) = W := ⟨_, rfl⟩
      have hb_W3 : Blk W3 w2.heap.size #[.bool false, .int .u32 ad, .int .u32 0, .bool false, .int .u32 da] 68 := by rw [← hW_W3]; exact Blk.new _ _ _
      have ck0 : W3.cell? ⟨w2.heap.size, 0, none⟩ = some (.bool false) := hb_W3.cell 0
      have ck1 : W3.cell? ⟨w2.heap.size, 1, none⟩ = some (.int .u32 ad) := hb_W3.cell 1
      have ck2 : W3.cell? ⟨w2.heap.size, 2, none⟩ = some (.int .u32 0) := hb_W3.cell 2
      have ck3 : W3.cell? ⟨w2.heap.size, 3, none⟩ = some (.bool false) := hb_W3.cell 3
      have ck4 : W3.cell? ⟨w2.heap.size, 4, none⟩ = some (.int .u32 da) := hb_W3.cell 4
      have HSW_W3 : Hid (Sl (W3.alloc (.cells [.bool false, .int .u32 ad, .int .u32 0, .bool false, .int .u32 da].toArray 68)) (.slice va gn vc) 68 5 gn ((AN 3).log.flatMap trow)) := by
        rw [← hW_W3]
        have h9 := HML.out.sl
        rw [HGN_gn.out] at h9
        have h8 : Sl w2 (.slice va gn vc) 68 5 gn ((AN 3).log.flatMap trow) := h9.fr hf_w2 fun b hb e => by have := HML.out.vo b hb; have := HML.out.lm; omega
        have h7 := h8.same (w' := w2.alloc (.cells #[.bool false, .int .u32 ad, .int .u32 0, .bool false, .int .u32 da] 68)) fun k hk => Below.heap_alloc _ _ k (h8.lt k hk)
        exact h7.same fun k hk => Below.heap_alloc _ _ k (h7.lt k hk)
      have HM_w2 := hid_of hm_w2
      have HF_w2 := hid_of hf_w2
      have HWW_W3 := hid_of hW_W3
      clear hm_w2 hf_w2 hb_W3 HACC hra hW_W3
      go_upto_region 6 with fail
      rw [HWW_W3.out]
      go_wp2_with (at_builtin; (refine wpList_append_sl _ rfl (.tmp 26) (.tmp 28) 39 rfl 68 i0 (.agg #[.bool false, .int .u32 0, .int .u32 0, .bool false, .int .u32 0]) 5 20 Try.underlying39 hinf hz0 hz1 hz2 rfl (by decide) _ _ _ rfl HSW_W3.out ⟨W3.heap.size, 0, none⟩ 1 1 [.bool false, .int .u32 ad, .int .u32 0, .bool false, .int .u32 da] rfl rfl ?k1 ?k2 ?k3 ?k4 ?_))
      case k1 => exact cells_new _ _ _ _ rfl
      case k2 => intro v hv; simp at hv; rcases hv with rfl | rfl | rfl | rfl | rfl <;> rfl
      case k3 => unfold maxLen; have := HGL_gn.out; omega
      case k4 => have := HGL_gn.out; omega
      intro v' w4 hsl hgr hnew
      obtain ⟨bak, bok, vc2, rfl, hq1, hq2⟩ := hsl.form (by omega)
      obtain ⟨va2, hva2⟩ : ∃ x, some (⟨bak, bok, none⟩ : Addr) = x := ⟨_, rfl⟩
      rw [hva2] at hsl hnew ⊢
      have hpush := ML.push (A' := AN 4) (t := ⟨false, ad, 0, false, da⟩) HML.out HM_w2.out HF_w2.out #[.bool false, .int .u32 ad, .int .u32 0, .bool false, .int .u32 da] [.bool false, .int .u32 ad, .int .u32 0, .bool false, .int .u32 da] HX2.out.1 (by rw [HWW_W3.out]; exact hgr) (by rw [HGN_gn.out]; exact hsl) (fun k hk => by rw [HWW_W3.out, size_alloc']; exact hnew k hk)
      have HP_w4 := hid_of hpush.1
      have zk3 : w4.cell? ⟨w2.heap.size, 3, none⟩ = some (.bool false) := hpush.2.cell 3
      have zk4 : w4.cell? ⟨w2.heap.size, 4, none⟩ = some (.int .u32 da) := hpush.2.cell 4
      clear hpush hsl hgr hnew hq1 hq2 hva2 HSW_W3 HM_w2 HF_w2 HWW_W3 ck0 ck1 ck2 ck3 ck4
      obtain ⟨u9, hu9, hl9⟩ := HP_w4.out.wb.out
      have HP9 : Hid (ML w (put u9 w.heap.size #[.int .u32 y0, .int .u32 y1, .int .u32 y2, .int .u32 da] 99) mb w.heap.size (AN 4) (.slice va2 (gn + 1) vc2) #[.int .u32 y0, .int .u32 y1, .int .u32 y2, .int .u32 da]) := by
        have := HP_w4.out.words #[.int .u32 y0, .int .u32 y1, .int .u32 y2, .int .u32 da]
        rw [hu9, put_put] at this
        exact this
      rw [hu9] at zk3 zk4
      clear HP_w4
      subst hu9
      go_wp2_with fail
      exact HKR.out _ _ _ _ (by kernel_rfl) HP9.out HX2.out.2.2.2
  · subst hi
    have hx : x = 4 := hxi
    subst hx
    clear hxi
    have HY : Hid (y0 = f (ra desc 0) ∧ y1 = f (ra desc 1) ∧ y2 = f (ra desc 2) ∧ y3 = f (ra desc 3)) := ⟨HR.out.2.2.2.2.1 (by decide), HR.out.2.2.2.2.2.1 (by decide), HR.out.2.2.2.2.2.2.1 (by decide), HR.out.2.2.2.2.2.2.2 (by decide)⟩
    have d0 : wr.cell? ⟨w.heap.size, 0, none⟩ = some (.int .u32 y0) := HML.out.wb.cell 0
    have d1 : wr.cell? ⟨w.heap.size, 1, none⟩ = some (.int .u32 y1) := HML.out.wb.cell 1
    have d2 : wr.cell? ⟨w.heap.size, 2, none⟩ = some (.int .u32 y2) := HML.out.wb.cell 2
    have HWY : Hid (W32 y0 ∧ W32 y1 ∧ W32 y2) := ⟨by rw [HY.out.1]; exact HF.out _, by rw [HY.out.2.1]; exact HF.out _, by rw [HY.out.2.2.1]; exact HF.out _⟩
    clear HR HFE HRA
    unfold fr25
    go_upto_region 11 with fail
    refine cutM (Km := fun act wd => ∃ (u : Nat → Value), act = fr25c mb w.heap.size desc va gn vc y0 y1 y2 u ∧ Hid (ML w wd mb w.heap.size (AN 4) (.slice va gn vc) #[.int .u32 y0, .int .u32 y1, .int .u32 y2, .int .u32 y3])) ?rest ?first
    case first =>
      obtain ⟨KR, hKR⟩ : ∃ KR : Act → World → Prop, KR = fun act wd => ∃ (u : Nat → Value), act = fr25c mb w.heap.size desc va gn vc y0 y1 y2 u ∧ Hid (ML w wd mb w.heap.size (AN 4) (.slice va gn vc) #[.int .u32 y0, .int .u32 y1, .int .u32 y2, .int .u32 y3]) := ⟨_, rfl⟩
      have HKR : Hid (∀ (act : Act) (q : Nat), act = fr25c mb w.heap.size desc va gn vc y0 y1 y2 (fun i => act.tmps.getD i undef) → KR act (wr.drewN q)) := fun act q e => by rw [hKR]; exact ⟨_, e, HML.out.below ⟨rfl, rfl, rfl, Nat.le_refl _, fun _ _ => rfl⟩⟩
      rw [← hKR]
      clear hKR HML
      go_quiet (fail)
      go_wp2_with fail
      exact HKR.out _ _ (by kernel_rfl)
    case rest =>
    clear HML d0 d1 d2
    rintro act wd ⟨u, rfl, HML⟩
    unfold fr25c
    go_upto_region 12 with fail
    obtain ⟨cr, hcr⟩ : ∃ cr, crcF y0 y1 y2 = cr := ⟨_, rfl⟩
    obtain ⟨WA, hWA⟩ : ∃ WA, wd.drew.alloc (.cells #[.int .u32 y0, .int .u32 y1, .int .u32 y2] 30) = WA := ⟨_, rfl⟩
    have hbA : Blk WA wd.heap.size #[.int .u32 y0, .int .u32 y1, .int .u32 y2] 30 := by rw [← hWA]; exact Blk.new wd.drew _ _
    have HCRC : Hid (Calls Try.prog 45 #[.slice (some ⟨wd.heap.size, 0, none⟩) 3 3] WA fun e w' => e = .returned (.int .u32 cr) ∧ w' = WA) := by
      rw [← hcr]
      exact crc_any wd.heap.size 3 y0 y1 y2 HWY.out.1 HWY.out.2.1 HWY.out.2.2 WA (hbA.cell 0) (hbA.cell 1) (hbA.cell 2)
    have HMA : Hid (ML w WA mb w.heap.size (AN 4) (.slice va gn vc) #[.int .u32 y0, .int .u32 y1, .int .u32 y2, .int .u32 y3]) := by
      have h1 := HML.out.below (w2 := wd.drew) ⟨rfl, rfl, rfl, Nat.le_refl _, fun _ _ => rfl⟩
      rw [← hWA]
      exact h1.below ((Below.refl _ _).alloc (Nat.le_refl _) _)
    have HJ0 : Hid (wd.drew.cell? ⟨w.heap.size, 3, none⟩ = some (.int .u32 y3)) := HML.out.wb.cell 3
    have HJA : Hid (WA.cell? ⟨w.heap.size, 3, none⟩ = some (.int .u32 y3)) := HMA.out.wb.cell 3
    have HCR := hid_of hcr
    have HSZ : Hid (wd.drew.heap.size = wd.heap.size) := rfl
    clear hcr hbA HML
    by_cases hc1 : cr = y3
    case neg =>
      have hq : (cr == y3) = false := by simpa using hc1
      have HP5 : Hid (ML w WA mb w.heap.size (AN 5) (.slice va gn vc) #[.int .u32 y0, .int .u32 y1, .int .u32 y2, .int .u32 y3] ∧ (AN 5).D.st = 3) := by
        have hb := at_bad (f := f) (desc := desc) HF.out (by have := HST.out; rw [HAN.out] at this; exact this) (.inl (by rw [← HY.out.1, ← HY.out.2.1, ← HY.out.2.2.1, ← HY.out.2.2.2, HCR.out]; exact hc1))
        rw [HAN.out]
        refine ⟨ML.same (A := asN (as0 f desc) 4) (by have := HMA.out; rw [HAN.out] at this; exact this) hb.2.1 hb.2.2, hb.1⟩
      refine wp_region_float [0, 1, 2, 5, 6] [3, 4, 7, 8, 9, 10, 11] [0, 1, 2, 5] mixed (fun ω => ω.cell? ⟨w.heap.size, 3, none⟩ = some (.int .u32 y3)) (by kernel_rfl) rfl (by kernel_rfl) HJ0.out ?_
      iterate 5 refine wpFl_op _ _ _ _ rfl rfl (fun ω hj => by
        first
        | (go_simp; rfl)
        | (have j1 := hj rfl
           go_simp; rfl)) ?_
      refine wpFl_nil _ _ ?_
      simp only [List.getElem_toArray, List.getElem_cons_succ, List.getElem_cons_zero, Act.put, List.setIfInBounds_toArray, List.set_cons_succ, List.set_cons_zero]
      refine wpCh_one _ _ _ _ rfl ?_
      simp only [List.getElem_toArray, List.getElem_cons_succ, List.getElem_cons_zero, Act.put, List.setIfInBounds_toArray, List.set_cons_succ, List.set_cons_zero]
      go_wp2_with fail
      refine ⟨HJA.out, ?_⟩
      clear hWA
      refine wpCh_one _ _ _ _ rfl ?_
      simp only [List.getElem_toArray, List.getElem_cons_succ, List.getElem_cons_zero, Act.put, List.setIfInBounds_toArray, List.set_cons_succ, List.set_cons_zero]
      go_wp2_with fail
      refine HCRC.out.mono ?_
      rintro e w5 ⟨rfl, hw5⟩
      obtain rfl := hw5.symm
      clear HCRC hw5
      go_wp2_with fail
      refine ⟨HJA.out, ?_⟩
      refine wpCh_rest _ _ _ _ [_, _, _, _, _] _ _ rfl (by kernel_rfl) ?_
      simp only [List.getElem_toArray, List.getElem_cons_succ, List.getElem_cons_zero, Act.put, List.setIfInBounds_toArray, List.set_cons_succ, List.set_cons_zero]
      go_wp2_with fail
      go_ret2
      exact HPOST.out _ _ _ _ 5 3 HP5.out.1 HP5.out.2 (by decide)
    have hq : True := trivial
    by_cases hc2 : y2 > 16
    · have HP5 : Hid (ML w WA mb w.heap.size (AN 5) (.slice va gn vc) #[.int .u32 y0, .int .u32 y1, .int .u32 y2, .int .u32 y3] ∧ (AN 5).D.st = 3) := by
        have hb := at_bad (f := f) (desc := desc) HF.out (by have := HST.out; rw [HAN.out] at this; exact this) (.inr (by rw [← HY.out.2.2.1]; exact hc2))
        rw [HAN.out]
        refine ⟨ML.same (A := asN (as0 f desc) 4) (by have := HMA.out; rw [HAN.out] at this; exact this) hb.2.1 hb.2.2, hb.1⟩
      subst hc1
      refine wp_region_float [0, 1, 2, 5, 6] [3, 4, 7, 8, 9, 10, 11] [0, 1, 2, 5] mixed (fun ω => ω.cell? ⟨w.heap.size, 3, none⟩ = some (.int .u32 cr)) (by kernel_rfl) rfl (by kernel_rfl) HJ0.out ?_
      iterate 5 refine wpFl_op _ _ _ _ rfl rfl (fun ω hj => by
        first
        | (go_simp; rfl)
        | (have j1 := hj rfl
           go_simp; rfl)) ?_
      refine wpFl_nil _ _ ?_
      simp only [List.getElem_toArray, List.getElem_cons_succ, List.getElem_cons_zero, Act.put, List.setIfInBounds_toArray, List.set_cons_succ, List.set_cons_zero]
      refine wpCh_one _ _ _ _ rfl ?_
      simp only [List.getElem_toArray, List.getElem_cons_succ, List.getElem_cons_zero, Act.put, List.setIfInBounds_toArray, List.set_cons_succ, List.set_cons_zero]
      go_wp2_with fail
      refine ⟨HJA.out, ?_⟩
      clear hWA
      refine wpCh_one _ _ _ _ rfl ?_
      simp only [List.getElem_toArray, List.getElem_cons_succ, List.getElem_cons_zero, Act.put, List.setIfInBounds_toArray, List.set_cons_succ, List.set_cons_zero]
      go_wp2_with fail
      refine HCRC.out.mono ?_
      rintro e w5 ⟨rfl, hw5⟩
      obtain rfl := hw5.symm
      clear HCRC hw5
      go_wp2_with fail
      refine ⟨HJA.out, ?_⟩
      refine wpCh_rest _ _ _ _ [_, _, _, _, _] _ _ rfl (by kernel_rfl) ?_
      simp only [List.getElem_toArray, List.getElem_cons_succ, List.getElem_cons_zero, Act.put, List.setIfInBounds_toArray, List.set_cons_succ, List.set_cons_zero]
      go_wp2_with fail
      go_ret2
      exact HPOST.out _ _ _ _ 5 3 HP5.out.1 HP5.out.2 (by decide)
    have HG : Hid (crcF (f (ra desc 0)) (f (ra desc 1)) (f (ra desc 2)) = f (ra desc 3) ∧ ¬ f (ra desc 2) > 16 ∧ ¬ y2 > 16) := ⟨by rw [← HY.out.1, ← HY.out.2.1, ← HY.out.2.2.1, ← HY.out.2.2.2, HCR.out]; exact hc1, by rw [← HY.out.2.2.1]; exact hc2, hc2⟩
    subst hc1
    refine wp_region_float [0, 1, 2, 5, 6] [3, 4, 7, 8, 9, 10, 11] [0, 1, 2, 5] mixed (fun ω => ω.cell? ⟨w.heap.size, 3, none⟩ = some (.int .u32 cr)) (by kernel_rfl) rfl (by kernel_rfl) HJ0.out ?_
    iterate 5 refine wpFl_op _ _ _ _ rfl rfl (fun ω hj => by
      first
      | (go_simp; rfl)
      | (have j1 := hj rfl
         go_simp; rfl)) ?_
    refine wpFl_nil _ _ ?_
    simp only [List.getElem_toArray, List.getElem_cons_succ, List.getElem_cons_zero, Act.put, List.setIfInBounds_toArray, List.set_cons_succ, List.set_cons_zero]
    refine wpCh_one _ _ _ _ rfl ?_
    simp only [List.getElem_toArray, List.getElem_cons_succ, List.getElem_cons_zero, Act.put, List.setIfInBounds_toArray, List.set_cons_succ, List.set_cons_zero]
    go_wp2_with fail
    refine ⟨HJA.out, ?_⟩
    clear hWA
    refine wpCh_one _ _ _ _ rfl ?_
    simp only [List.getElem_toArray, List.getElem_cons_succ, List.getElem_cons_zero, Act.put, List.setIfInBounds_toArray, List.set_cons_succ, List.set_cons_zero]
    go_wp2_with fail
    refine HCRC.out.mono ?_
    rintro e w5 ⟨rfl, hw5⟩
    obtain rfl := hw5.symm
    clear HCRC hw5
    go_wp2_with fail
    refine ⟨HJA.out, ?_⟩
    refine wpCh_rest _ _ _ _ [_, _, _, _, _] _ _ rfl (by kernel_rfl) ?_
    simp only [List.getElem_toArray, List.getElem_cons_succ, List.getElem_cons_zero, Act.put, List.setIfInBounds_toArray, List.set_cons_succ, List.set_cons_zero]
    go_wp2_with fail
    clear hq hc2 HJ0 HJA HCR HSZ
    refine q_of (Q := fun a => (Code.loop _).wp Try.prog _ a _) (F := fr25b mb w.heap.size desc va gn vc y0 y1 y2 0) (fun u0 => ?_) _ (by kernel_rfl)
    refine wp_loop (fun act wr => ∃ (u : Nat → Value) (i : Nat) (va : Option Addr) (gn vc : Nat), act = fr25b mb w.heap.size desc va gn vc y0 y1 y2 i u ∧ Hid (ML w wr mb w.heap.size (AN (4 + 2 * i)) (.slice va gn vc) #[.int .u32 y0, .int .u32 y1, .int .u32 y2, .int .u32 cr] ∧ (AN (4 + 2 * i)).D.st = 1 ∧ (AN (4 + 2 * i)).log.length = gn ∧ i ≤ 16)) (fun act _ => 100 - (intOf (act.tmps.getD 12 undef)).toNat) ⟨u0, 0, va, gn, vc, rfl, HMA.out, HST.out, HGN_gn.out, by decide⟩ ?_
    clear HMA HST HGN_gn HGL_gn
    rintro act wr ⟨u, i, va, gn, vc, rfl, HR⟩
    have HML : Hid (ML w wr mb w.heap.size (AN (4 + 2 * i)) (.slice va gn vc) #[.int .u32 y0, .int .u32 y1, .int .u32 y2, .int .u32 cr]) := HR.out.1
    have HST : Hid ((AN (4 + 2 * i)).D.st = 1) := HR.out.2.1
    have HGN_gn : Hid ((AN (4 + 2 * i)).log.length = gn) := HR.out.2.2.1
    have HGL_gn : Hid (gn ≤ 100) := by unfold Hid; rw [← HGN_gn.out]; have := HLEN.out (4 + 2 * i); have := HR.out.2.2.2; omega
    by_cases hlt : ((i : Nat) : Int) < y2
    case neg =>
      have HD : Hid (ML w wr mb w.heap.size (AN (5 + 2 * i)) (.slice va gn vc) #[.int .u32 y0, .int .u32 y1, .int .u32 y2, .int .u32 cr] ∧ (AN (5 + 2 * i)).D.st = 2) := by
        have hb := at_done (f := f) (desc := desc) (i := i) HF.out (by have := HST.out; rw [HAN.out] at this; exact this) HG.out.1 (by have := HG.out.2.1; omega) (by rw [← HY.out.2.2.1]; exact hlt)
        rw [HAN.out]
        exact ⟨ML.same (A := asN (as0 f desc) (4 + 2 * i)) (by have := HML.out; rw [HAN.out] at this; exact this) hb.2.1 hb.2.2, hb.1⟩
      unfold fr25b
      go_wp2_with fail
      go_ret2
      exact HPOST.out _ _ _ _ (5 + 2 * i) 2 HD.out.1 HD.out.2 (by decide)
    have hi16 : i < 16 := by have := HG.out.2.2; omega
    have HI16 := hid_of hi16
    have hw4 : (4 * ((i : Nat) : Int)) % 4294967296 = 4 * ((i : Nat) : Int) := by omega
    have hinc : (((i : Nat) : Int) + 1) % 4294967296 = ((i : Nat) : Int) + 1 := by omega
    obtain ⟨ad, had⟩ : ∃ ad, (y0 + 4 * ((i : Nat) : Int)) % 4294967296 = ad := ⟨_, rfl⟩
    obtain ⟨ad2, had2⟩ : ∃ ad, (y1 + 4 * ((i : Nat) : Int)) % 4294967296 = ad := ⟨_, rfl⟩
    have HWA : Hid (W32 ad ∧ W32 ad2) := ⟨by rw [← had]; exact W32.emod _, by rw [← had2]; exact W32.emod _⟩
    have HRD := hid_of (at_read (f := f) (desc := desc) (i := i) HF.out (by have := HST.out; rw [HAN.out] at this; exact this) HG.out.1 (by have := HG.out.2.1; omega) (by rw [← HY.out.2.2.1]; exact hlt) (a := ad) (by rw [← HY.out.1]; exact had))
    have HWR : Hid ((AN (5 + 2 * i)).D.st = 1 → (AN (6 + 2 * i)).log = (AN (5 + 2 * i)).log ++ [accT (AN (5 + 2 * i)).m true ad2 (AN (5 + 2 * i)).D.buf] ∧ (AN (6 + 2 * i)).m = accM (AN (5 + 2 * i)).m true ad2 (AN (5 + 2 * i)).D.buf ∧ (AN (6 + 2 * i)).D.st = (if mapF ad2 = true then 1 else 4)) := fun q => by
      rw [HAN.out] at q ⊢
      exact at_write HF.out q HG.out.1 (by have := HG.out.2.1; omega) (by rw [← HY.out.2.1]; exact had2)
    rw [← HAN.out] at HRD
    obtain ⟨KR, hKR⟩ : ∃ KR : Act → World → Prop, KR = fun a' w' => ((fun act wr => ∃ (u : Nat → Value) (i : Nat) (va : Option Addr) (gn vc : Nat), act = fr25b mb w.heap.size desc va gn vc y0 y1 y2 i u ∧ Hid (ML w wr mb w.heap.size (AN (4 + 2 * i)) (.slice va gn vc) #[.int .u32 y0, .int .u32 y1, .int .u32 y2, .int .u32 cr] ∧ (AN (4 + 2 * i)).D.st = 1 ∧ (AN (4 + 2 * i)).log.length = gn ∧ i ≤ 16)) a' w' ∧ 100 - (intOf (a'.tmps.getD 12 undef)).toNat < 100 - (intOf ((fr25b mb w.heap.size desc va gn vc y0 y1 y2 i u).tmps.getD 12 undef)).toNat) := ⟨_, rfl⟩
    have HKR : Hid (∀ (act : Act) (w' : World) (va' : Option Addr) (g' vc' : Nat), act = fr25b mb w.heap.size desc va' g' vc' y0 y1 y2 (i + 1) (fun i => act.tmps.getD i undef) → ML w w' mb w.heap.size (AN (6 + 2 * i)) (.slice va' g' vc') #[.int .u32 y0, .int .u32 y1, .int .u32 y2, .int .u32 cr] → (AN (6 + 2 * i)).D.st = 1 → (AN (6 + 2 * i)).log.length = g' → KR act w') := fun act w' va' g' vc' e h1 h2 h3 => by
      rw [hKR]
      refine ⟨⟨_, i + 1, va', g', vc', e, by rw [show 4 + 2 * (i + 1) = 6 + 2 * i by omega]; exact ⟨h1, h2, h3, HI16.out⟩⟩, ?_⟩
      have e1 : act.tmps.getD 12 undef = .int .u32 ((i + 1 : Nat) : Int) := by rw [e]; rfl
      have e2 : (fr25b mb w.heap.size desc va gn vc y0 y1 y2 i u).tmps.getD 12 undef = .int .u32 ((i : Nat) : Int) := rfl
      simp only [e1, e2, intOf]
      have := HI16.out
      omega
    rw [← hKR]
    clear hKR HR hi16
    unfold fr25b
    cases hm : mapF ad
    · have hda : True := trivial
      have hT : accT (AN (4 + 2 * i)).m false ad 0 = ⟨false, ad, 0, true, 0⟩ := by unfold accT; rw [hm]; simp
      have HX2 : Hid ((AN (5 + 2 * i)).log = (AN (4 + 2 * i)).log ++ [⟨false, ad, 0, true, 0⟩] ∧ (AN (5 + 2 * i)).m = (AN (4 + 2 * i)).m ∧ (AN (5 + 2 * i)).D.st = 4) := by
        have := HRD.out
        rw [hT, hm] at this
        exact ⟨this.1, this.2.1, by rw [this.2.2.1]; rfl⟩
      have HACC : Hid (Calls Try.prog 39 #[.map (some mb), .agg #[.bool false, .int .u32 ad, .int .u32 0]] wr fun e w' => e = .returned (.agg #[.bool false, .int .u32 ad, .int .u32 0, .bool true, .int .u32 0]) ∧ MapB w' mb (AN (5 + 2 * i)).m ∧ Fr (· = mb) wr w') := by
        have := access_any mb (AN (4 + 2 * i)).m false ad 0 HWA.out.1 wr HML.out.map
        have hM : accM (AN (4 + 2 * i)).m false ad 0 = (AN (4 + 2 * i)).m := by unfold accM; rw [if_neg (by simp)]
        rw [hT, hM] at this
        rw [HX2.out.2.1]
        exact this
      clear hT hm hda HRD
      go_wp2_with fail
      refine HACC.out.mono ?_
      rintro e w2 ⟨rfl, hm_w2, hf_w2⟩
      obtain ⟨W3, hW_W3⟩ : ∃ W, w2.alloc (.cells #[.bool false, .int .u32 ad, .int .u32 0, .bool true, .int .u32 0] 68) = W := ⟨_, rfl⟩
      have hb_W3 : Blk W3 w2.heap.size #[.bool false, .int .u32 ad, .int .u32 0, .bool true, .int .u32 0] 68 := by rw [← hW_W3]; exact Blk.new _ _ _
      have ck0 : W3.cell? ⟨w2.heap.size, 0, none⟩ = some (.bool false) := hb_W3.cell 0
      have ck1 : W3.cell? ⟨w2.heap.size, 1, none⟩ = some (.int .u32 ad) := hb_W3.cell 1
      have ck2 : W3.cell? ⟨w2.heap.size, 2, none⟩ = some (.int .u32 0) := hb_W3.cell 2
      have ck3 : W3.cell? ⟨w2.heap.size, 3, none⟩ = some (.bool true) := hb_W3.cell 3
      have ck4 : W3.cell? ⟨w2.heap.size, 4, none⟩ = some (.int .u32 0) := hb_W3.cell 4
      have HSW_W3 : Hid (Sl (W3.alloc (.cells [.bool false, .int .u32 ad, .int .u32 0, .bool true, .int .u32 0].toArray 68)) (.slice va gn vc) 68 5 gn ((AN (4 + 2 * i)).log.flatMap trow)) := by
        rw [← hW_W3]
        have h9 := HML.out.sl
        rw [HGN_gn.out] at h9
        have h8 : Sl w2 (.slice va gn vc) 68 5 gn ((AN (4 + 2 * i)).log.flatMap trow) := h9.fr hf_w2 fun b hb e => by have := HML.out.vo b hb; have := HML.out.lm; omega
        have h7 := h8.same (w' := w2.alloc (.cells #[.bool false, .int .u32 ad, .int .u32 0, .bool true, .int .u32 0] 68)) fun k hk => Below.heap_alloc _ _ k (h8.lt k hk)
        exact h7.same fun k hk => Below.heap_alloc _ _ k (h7.lt k hk)
      have HM_w2 := hid_of hm_w2
      have HF_w2 := hid_of hf_w2
      have HWW_W3 := hid_of hW_W3
      clear hm_w2 hf_w2 hb_W3 HACC had hW_W3
      go_upto_region 18 with fail
      rw [HWW_W3.out]
      go_wp2_with (at_builtin; (refine wpList_append_sl _ rfl (.tmp 71) (.tmp 73) 39 rfl 68 i0 (.agg #[.bool false, .int .u32 0, .int .u32 0, .bool false, .int .u32 0]) 5 20 Try.underlying39 hinf hz0 hz1 hz2 rfl (by decide) _ _ _ rfl HSW_W3.out ⟨W3.heap.size, 0, none⟩ 1 1 [.bool false, .int .u32 ad, .int .u32 0, .bool true, .int .u32 0] rfl rfl ?k1 ?k2 ?k3 ?k4 ?_))
      case k1 => exact cells_new _ _ _ _ rfl
      case k2 => intro v hv; simp at hv; rcases hv with rfl | rfl | rfl | rfl | rfl <;> rfl
      case k3 => unfold maxLen; have := HGL_gn.out; omega
      case k4 => have := HGL_gn.out; omega
      intro v' w4 hsl hgr hnew
      obtain ⟨bak, bok, vc2, rfl, hq1, hq2⟩ := hsl.form (by omega)
      obtain ⟨va2, hva2⟩ : ∃ x, some (⟨bak, bok, none⟩ : Addr) = x := ⟨_, rfl⟩
      rw [hva2] at hsl hnew ⊢
      have hpush := ML.push (A' := AN (5 + 2 * i)) (t := ⟨false, ad, 0, true, 0⟩) HML.out HM_w2.out HF_w2.out #[.bool false, .int .u32 ad, .int .u32 0, .bool true, .int .u32 0] [.bool false, .int .u32 ad, .int .u32 0, .bool true, .int .u32 0] HX2.out.1 (by rw [HWW_W3.out]; exact hgr) (by rw [HGN_gn.out]; exact hsl) (fun k hk => by rw [HWW_W3.out, size_alloc']; exact hnew k hk)
      have HP_w4 := hid_of hpush.1
      have zk3 : w4.cell? ⟨w2.heap.size, 3, none⟩ = some (.bool true) := hpush.2.cell 3
      have zk4 : w4.cell? ⟨w2.heap.size, 4, none⟩ = some (.int .u32 0) := hpush.2.cell 4
      clear hpush hsl hgr hnew hq1 hq2 hva2 HSW_W3 HM_w2 HF_w2 HWW_W3 ck0 ck1 ck2 ck3 ck4
      clear zk4
      go_wp2_with fail
      go_ret2
      exact HPOST.out _ _ _ _ (5 + 2 * i) 4 HP_w4.out HX2.out.2.2 (by decide)
    · obtain ⟨da, hda⟩ : ∃ da, (AN (4 + 2 * i)).m ad = da := ⟨_, rfl⟩
      have hT : accT (AN (4 + 2 * i)).m false ad 0 = ⟨false, ad, 0, false, da⟩ := by unfold accT; rw [hm]; simp [hda]
      have HX2 : Hid ((AN (5 + 2 * i)).log = (AN (4 + 2 * i)).log ++ [⟨false, ad, 0, false, da⟩] ∧ (AN (5 + 2 * i)).m = (AN (4 + 2 * i)).m ∧ (AN (5 + 2 * i)).D.st = 1 ∧ (AN (5 + 2 * i)).D.buf = da) := by
        have := HRD.out
        rw [hT, hm] at this
        exact ⟨this.1, this.2.1, by rw [this.2.2.1]; rfl, by rw [this.2.2.2 rfl, hda]⟩
      have HACC : Hid (Calls Try.prog 39 #[.map (some mb), .agg #[.bool false, .int .u32 ad, .int .u32 0]] wr fun e w' => e = .returned (.agg #[.bool false, .int .u32 ad, .int .u32 0, .bool false, .int .u32 da]) ∧ MapB w' mb (AN (5 + 2 * i)).m ∧ Fr (· = mb) wr w') := by
        have := access_any mb (AN (4 + 2 * i)).m false ad 0 HWA.out.1 wr HML.out.map
        have hM : accM (AN (4 + 2 * i)).m false ad 0 = (AN (4 + 2 * i)).m := by unfold accM; rw [if_neg (by simp)]
        rw [hT, hM] at this
        rw [HX2.out.2.1]
        exact this
      clear hT hm hda HRD
      go_wp2_with fail
      refine HACC.out.mono ?_
      rintro e w2 ⟨rfl, hm_w2, hf_w2⟩
      obtain ⟨W3, hW_W3⟩ : ∃ W, w2.alloc (.cells #[.bool false, .int .u32 ad, .int .u32 0, .bool false, .int .u32 da] 68) = W := ⟨_, rfl⟩
      have hb_W3 : Blk W3 w2.heap.size #[.bool false, .int .u32 ad, .int .u32 0, .bool false, .int .u32 da] 68 := by rw [← hW_W3]; exact Blk.new _ _ _
      have ck0 : W3.cell? ⟨w2.heap.size, 0, none⟩ = some (.bool false) := hb_W3.cell 0
      have ck1 : W3.cell? ⟨w2.heap.size, 1, none⟩ = some (.int .u32 ad) := hb_W3.cell 1
      have ck2 : W3.cell? ⟨w2.heap.size, 2, none⟩ = some (.int .u32 0) := hb_W3.cell 2
      have ck3 : W3.cell? ⟨w2.heap.size, 3, none⟩ = some (.bool false) := hb_W3.cell 3
      have ck4 : W3.cell? ⟨w2.heap.size, 4, none⟩ = some (.int .u32 da) := hb_W3.cell 4
      have HSW_W3 : Hid (Sl (W3.alloc (.cells [.bool false, .int .u32 ad, .int .u32 0, .bool false, .int .u32 da].toArray 68)) (.slice va gn vc) 68 5 gn ((AN (4 + 2 * i)).log.flatMap trow)) := by
        rw [← hW_W3]
        have h9 := HML.out.sl
        rw [HGN_gn.out] at h9
        have h8 : Sl w2 (.slice va gn vc) 68 5 gn ((AN (4 + 2 * i)).log.flatMap trow) := h9.fr hf_w2 fun b hb e => by have := HML.out.vo b hb; have := HML.out.lm; omega
        have h7 := h8.same (w' := w2.alloc (.cells #[.bool false, .int .u32 ad, .int .u32 0, .bool false, .int .u32 da] 68)) fun k hk => Below.heap_alloc _ _ k (h8.lt k hk)
        exact h7.same fun k hk => Below.heap_alloc _ _ k (h7.lt k hk)
      have HM_w2 := hid_of hm_w2
      have HF_w2 := hid_of hf_w2
      have HWW_W3 := hid_of hW_W3
      clear hm_w2 hf_w2 hb_W3 HACC had hW_W3
      go_upto_region 18 with fail
      rw [HWW_W3.out]
      go_wp2_with (at_builtin; (refine wpList_append_sl _ rfl (.tmp 71) (.tmp 73) 39 rfl 68 i0 (.agg #[.bool false, .int .u32 0, .int .u32 0, .bool false, .int .u32 0]) 5 20 Try.underlying39 hinf hz0 hz1 hz2 rfl (by decide) _ _ _ rfl HSW_W3.out ⟨W3.heap.size, 0, none⟩ 1 1 [.bool false, .int .u32 ad, .int .u32 0, .bool false, .int .u32 da] rfl rfl ?k1 ?k2 ?k3 ?k4 ?_))
      case k1 => exact cells_new _ _ _ _ rfl
      case k2 => intro v hv; simp at hv; rcases hv with rfl | rfl | rfl | rfl | rfl <;> rfl
      case k3 => unfold maxLen; have := HGL_gn.out; omega
      case k4 => have := HGL_gn.out; omega
      intro v' w4 hsl hgr hnew
      obtain ⟨bak, bok, vc2, rfl, hq1, hq2⟩ := hsl.form (by omega)
      obtain ⟨va2, hva2⟩ : ∃ x, some (⟨bak, bok, none⟩ : Addr) = x := ⟨_, rfl⟩
      rw [hva2] at hsl hnew ⊢
      have hpush := ML.push (A' := AN (5 + 2 * i)) (t := ⟨false, ad, 0, false, da⟩) HML.out HM_w2.out HF_w2.out #[.bool false, .int .u32 ad, .int .u32 0, .bool false, .int .u32 da] [.bool false, .int .u32 ad, .int .u32 0, .bool false, .int .u32 da] HX2.out.1 (by rw [HWW_W3.out]; exact hgr) (by rw [HGN_gn.out]; exact hsl) (fun k hk => by rw [HWW_W3.out, size_alloc']; exact hnew k hk)
      have HP_w4 := hid_of hpush.1
      have zk3 : w4.cell? ⟨w2.heap.size, 3, none⟩ = some (.bool false) := hpush.2.cell 3
      have zk4 : w4.cell? ⟨w2.heap.size, 4, none⟩ = some (.int .u32 da) := hpush.2.cell 4
      clear hpush hsl hgr hnew hq1 hq2 hva2 HSW_W3 HM_w2 HF_w2 HWW_W3 ck0 ck1 ck2 ck3 ck4
      have HW2 := hid_of (HWR.out HX2.out.2.2.1)
      obtain ⟨g2, hg2⟩ : ∃ g2, gn + 1 = g2 := ⟨_, rfl⟩
      have HGN_g2 : Hid ((AN (5 + 2 * i)).log.length = g2) := by unfold Hid; rw [HX2.out.1, List.length_append, HGN_gn.out]; exact hg2
      have HGL_g2 : Hid (g2 ≤ 101) := by unfold Hid; have := HGL_gn.out; omega
      rw [hg2] at HP_w4 ⊢
      clear hg2 HGN_gn HGL_gn HML
      cases hm2 : mapF ad2
      · have hT : accT (AN (5 + 2 * i)).m true ad2 da = ⟨true, ad2, da, true, 0⟩ := by unfold accT; rw [hm2]; simp
        have HX3 : Hid ((AN (6 + 2 * i)).log = (AN (5 + 2 * i)).log ++ [⟨true, ad2, da, true, 0⟩] ∧ (AN (6 + 2 * i)).m = accM (AN (5 + 2 * i)).m true ad2 da ∧ (AN (6 + 2 * i)).D.st = 4) := by
          have := HW2.out
          rw [HX2.out.2.2.2, hT, hm2] at this
          exact ⟨this.1, this.2.1, by rw [this.2.2]; rfl⟩
        have HACC : Hid (Calls Try.prog 39 #[.map (some mb), .agg #[.bool true, .int .u32 ad2, .int .u32 da]] w4 fun e w' => e = .returned (.agg #[.bool true, .int .u32 ad2, .int .u32 da, .bool true, .int .u32 0]) ∧ MapB w' mb (AN (6 + 2 * i)).m ∧ Fr (· = mb) w4 w') := by
          have := access_any mb (AN (5 + 2 * i)).m true ad2 da HWA.out.2 w4 HP_w4.out.map
          rw [hT, ← HX3.out.2.1] at this
          exact this
        clear hT hm2 HW2
        go_wp2_with fail
        clear zk3 zk4
        refine HACC.out.mono ?_
        rintro e w6 ⟨rfl, hm_w6, hf_w6⟩
        obtain ⟨W7, hW_W7⟩ : ∃ W, w6.alloc (.cells #[.bool true, .int .u32 ad2, .int .u32 da, .bool true, .int .u32 0] 68) = W := ⟨_, rfl⟩
        have hb_W7 : Blk W7 w6.heap.size #[.bool true, .int .u32 ad2, .int .u32 da, .bool true, .int .u32 0] 68 := by rw [← hW_W7]; exact Blk.new _ _ _
        have cl0 : W7.cell? ⟨w6.heap.size, 0, none⟩ = some (.bool true) := hb_W7.cell 0
        have cl1 : W7.cell? ⟨w6.heap.size, 1, none⟩ = some (.int .u32 ad2) := hb_W7.cell 1
        have cl2 : W7.cell? ⟨w6.heap.size, 2, none⟩ = some (.int .u32 da) := hb_W7.cell 2
        have cl3 : W7.cell? ⟨w6.heap.size, 3, none⟩ = some (.bool true) := hb_W7.cell 3
        have cl4 : W7.cell? ⟨w6.heap.size, 4, none⟩ = some (.int .u32 0) := hb_W7.cell 4
        have HSW_W7 : Hid (Sl (W7.alloc (.cells [.bool true, .int .u32 ad2, .int .u32 da, .bool true, .int .u32 0].toArray 68)) (.slice va2 g2 vc2) 68 5 g2 ((AN (5 + 2 * i)).log.flatMap trow)) := by
          rw [← hW_W7]
          have h9 := HP_w4.out.sl
          rw [HGN_g2.out] at h9
          have h8 : Sl w6 (.slice va2 g2 vc2) 68 5 g2 ((AN (5 + 2 * i)).log.flatMap trow) := h9.fr hf_w6 fun b hb e => by have := HP_w4.out.vo b hb; have := HP_w4.out.lm; omega
          have h7 := h8.same (w' := w6.alloc (.cells #[.bool true, .int .u32 ad2, .int .u32 da, .bool true, .int .u32 0] 68)) fun k hk => Below.heap_alloc _ _ k (h8.lt k hk)
          exact h7.same fun k hk => Below.heap_alloc _ _ k (h7.lt k hk)
        have HM_w6 := hid_of hm_w6
        have HF_w6 := hid_of hf_w6
        have HWW_W7 := hid_of hW_W7
        clear hm_w6 hf_w6 hb_W7 HACC had2 hW_W7
        go_upto_region 22 with fail
        rw [HWW_W7.out]
        go_wp2_with (at_builtin; (refine wpList_append_sl _ rfl (.tmp 89) (.tmp 91) 39 rfl 68 i0 (.agg #[.bool false, .int .u32 0, .int .u32 0, .bool false, .int .u32 0]) 5 20 Try.underlying39 hinf hz0 hz1 hz2 rfl (by decide) _ _ _ rfl HSW_W7.out ⟨W7.heap.size, 0, none⟩ 1 1 [.bool true, .int .u32 ad2, .int .u32 da, .bool true, .int .u32 0] rfl rfl ?l1 ?l2 ?l3 ?l4 ?_))
        case l1 => exact cells_new _ _ _ _ rfl
        case l2 => intro v hv; simp at hv; rcases hv with rfl | rfl | rfl | rfl | rfl <;> rfl
        case l3 => unfold maxLen; have := HGL_g2.out; omega
        case l4 => have := HGL_g2.out; omega
        intro v' w8 hsl hgr hnew
        obtain ⟨bal, bol, vc3, rfl, hq1, hq2⟩ := hsl.form (by omega)
        obtain ⟨va3, hva3⟩ : ∃ x, some (⟨bal, bol, none⟩ : Addr) = x := ⟨_, rfl⟩
        rw [hva3] at hsl hnew ⊢
        have hpush := ML.push (A' := AN (6 + 2 * i)) (t := ⟨true, ad2, da, true, 0⟩) HP_w4.out HM_w6.out HF_w6.out #[.bool true, .int .u32 ad2, .int .u32 da, .bool true, .int .u32 0] [.bool true, .int .u32 ad2, .int .u32 da, .bool true, .int .u32 0] HX3.out.1 (by rw [HWW_W7.out]; exact hgr) (by rw [HGN_g2.out]; exact hsl) (fun k hk => by rw [HWW_W7.out, size_alloc']; exact hnew k hk)
        have HP_w8 := hid_of hpush.1
        have zl3 : w8.cell? ⟨w6.heap.size, 3, none⟩ = some (.bool true) := hpush.2.cell 3
        have zl4 : w8.cell? ⟨w6.heap.size, 4, none⟩ = some (.int .u32 0) := hpush.2.cell 4
        clear hpush hsl hgr hnew hq1 hq2 hva3 HSW_W7 HM_w6 HF_w6 HWW_W7 cl0 cl1 cl2 cl3 cl4
        clear zl4
        go_wp2_with fail
        go_ret2
        exact HPOST.out _ _ _ _ (6 + 2 * i) 4 HP_w8.out HX3.out.2.2 (by decide)
      · have hT : accT (AN (5 + 2 * i)).m true ad2 da = ⟨true, ad2, da, false, 0⟩ := by unfold accT; rw [hm2]; simp
        have HX3 : Hid ((AN (6 + 2 * i)).log = (AN (5 + 2 * i)).log ++ [⟨true, ad2, da, false, 0⟩] ∧ (AN (6 + 2 * i)).m = accM (AN (5 + 2 * i)).m true ad2 da ∧ (AN (6 + 2 * i)).D.st = 1) := by
          have := HW2.out
          rw [HX2.out.2.2.2, hT, hm2] at this
          exact ⟨this.1, this.2.1, by rw [this.2.2]; rfl⟩
        have HACC : Hid (Calls Try.prog 39 #[.map (some mb), .agg #[.bool true, .int .u32 ad2, .int .u32 da]] w4 fun e w' => e = .returned (.agg #[.bool true, .int .u32 ad2, .int .u32 da, .bool false, .int .u32 0]) ∧ MapB w' mb (AN (6 + 2 * i)).m ∧ Fr (· = mb) w4 w') := by
          have := access_any mb (AN (5 + 2 * i)).m true ad2 da HWA.out.2 w4 HP_w4.out.map
          rw [hT, ← HX3.out.2.1] at this
          exact this
        clear hT hm2 HW2
        go_wp2_with fail
        clear zk3 zk4
        refine HACC.out.mono ?_
        rintro e w6 ⟨rfl, hm_w6, hf_w6⟩
        obtain ⟨W7, hW_W7⟩ : ∃ W, w6.alloc (.cells #[.bool true, .int .u32 ad2, .int .u32 da, .bool false, .int .u32 0] 68) = W := ⟨_, rfl⟩
        have hb_W7 : Blk W7 w6.heap.size #[.bool true, .int .u32 ad2, .int .u32 da, .bool false, .int .u32 0] 68 := by rw [← hW_W7]; exact Blk.new _ _ _
        have cl0 : W7.cell? ⟨w6.heap.size, 0, none⟩ = some (.bool true) := hb_W7.cell 0
        have cl1 : W7.cell? ⟨w6.heap.size, 1, none⟩ = some (.int .u32 ad2) := hb_W7.cell 1
        have cl2 : W7.cell? ⟨w6.heap.size, 2, none⟩ = some (.int .u32 da) := hb_W7.cell 2
        have cl3 : W7.cell? ⟨w6.heap.size, 3, none⟩ = some (.bool false) := hb_W7.cell 3
        have cl4 : W7.cell? ⟨w6.heap.size, 4, none⟩ = some (.int .u32 0) := hb_W7.cell 4
        have HSW_W7 : Hid (Sl (W7.alloc (.cells [.bool true, .int .u32 ad2, .int .u32 da, .bool false, .int .u32 0].toArray 68)) (.slice va2 g2 vc2) 68 5 g2 ((AN (5 + 2 * i)).log.flatMap trow)) := by
          rw [← hW_W7]
          have h9 := HP_w4.out.sl
          rw [HGN_g2.out] at h9
          have h8 : Sl w6 (.slice va2 g2 vc2) 68 5 g2 ((AN (5 + 2 * i)).log.flatMap trow) := h9.fr hf_w6 fun b hb e => by have := HP_w4.out.vo b hb; have := HP_w4.out.lm; omega
          have h7 := h8.same (w' := w6.alloc (.cells #[.bool true, .int .u32 ad2, .int .u32 da, .bool false, .int .u32 0] 68)) fun k hk => Below.heap_alloc _ _ k (h8.lt k hk)
          exact h7.same fun k hk => Below.heap_alloc _ _ k (h7.lt k hk)
        have HM_w6 := hid_of hm_w6
        have HF_w6 := hid_of hf_w6
        have HWW_W7 := hid_of hW_W7
        clear hm_w6 hf_w6 hb_W7 HACC had2 hW_W7
        go_upto_region 22 with fail
        rw [HWW_W7.out]
        go_wp2_with (at_builtin; (refine wpList_append_sl _ rfl (.tmp 89) (.tmp 91) 39 rfl 68 i0 (.agg #[.bool false, .int .u32 0, .int .u32 0, .bool false, .int .u32 0]) 5 20 Try.underlying39 hinf hz0 hz1 hz2 rfl (by decide) _ _ _ rfl HSW_W7.out ⟨W7.heap.size, 0, none⟩ 1 1 [.bool true, .int .u32 ad2, .int .u32 da, .bool false, .int .u32 0] rfl rfl ?l1 ?l2 ?l3 ?l4 ?_))
        case l1 => exact cells_new _ _ _ _ rfl
        case l2 => intro v hv; simp at hv; rcases hv with rfl | rfl | rfl | rfl | rfl <;> rfl
        case l3 => unfold maxLen; have := HGL_g2.out; omega
        case l4 => have := HGL_g2.out; omega
        intro v' w8 hsl hgr hnew
        obtain ⟨bal, bol, vc3, rfl, hq1, hq2⟩ := hsl.form (by omega)
        obtain ⟨va3, hva3⟩ : ∃ x, some (⟨bal, bol, none⟩ : Addr) = x := ⟨_, rfl⟩
        rw [hva3] at hsl hnew ⊢
        have hpush := ML.push (A' := AN (6 + 2 * i)) (t := ⟨true, ad2, da, false, 0⟩) HP_w4.out HM_w6.out HF_w6.out #[.bool true, .int .u32 ad2, .int .u32 da, .bool false, .int .u32 0] [.bool true, .int .u32 ad2, .int .u32 da, .bool false, .int .u32 0] HX3.out.1 (by rw [HWW_W7.out]; exact hgr) (by rw [HGN_g2.out]; exact hsl) (fun k hk => by rw [HWW_W7.out, size_alloc']; exact hnew k hk)
        have HP_w8 := hid_of hpush.1
        have zl3 : w8.cell? ⟨w6.heap.size, 3, none⟩ = some (.bool false) := hpush.2.cell 3
        have zl4 : w8.cell? ⟨w6.heap.size, 4, none⟩ = some (.int .u32 0) := hpush.2.cell 4
        clear hpush hsl hgr hnew hq1 hq2 hva3 HSW_W7 HM_w6 HF_w6 HWW_W7 cl0 cl1 cl2 cl3 cl4
        clear zl4
        have HGN3 : Hid ((AN (6 + 2 * i)).log.length = g2 + 1) := by unfold Hid; rw [HX3.out.1, List.length_append, HGN_g2.out]; rfl
        go_wp2_with fail
        exact HKR.out _ _ _ _ _ (by kernel_rfl) HP_w8.out HX3.out.2.2 HGN3.out
end Go.Proofs.Qxb6500749a
